/-
  The statement DiffTells. No conditions.
-/
import Derived.Test.YteklninbijohcaaE93
import Derived.Test.YteklninbijohcaaF94
set_option linter.unusedVariables false
set_option linter.unusedSimpArgs false
set_option linter.constructorNameAsVariable false
set_option linter.unusedSimpArgs false
set_option linter.unusedVariables false
set_option linter.unusedSectionVars false
set_option maxHeartbeats 4000000
set_option maxRecDepth 100000
namespace Go.Abs.Try
open Go Go.Abs
variable {O : Type}

theorem same02w {σ : AH O} {a b : SA} {l m : List Int} (ha : Ints .i64 a l) (hb : Ints .i64 b m) (hl : l.length ≤ 1000000000) (hm : m.length ≤ 1000000000) : Ok (haymowref02_Same [.sl a l.length, .sl b m.length] σ) fun r => r = (.b (decide (l = m)), σ) := by
  by_cases c : l.length = m.length
  · have q0 : ((l.length : Int) == (m.length : Int)) = true := s_eqT (by omega)
    simp (config := { maxSteps := 2000000 }) -implicitDefEqProofs (disch := (first | omega | rfl | assumption | (simp only [rsD]; first | omega | assumption))) only [haymowref02_Same, haymowref02_Same_c, q0, Nat.reduceAdd, Nat.reduceMul, Nat.reduceLT, Int.reduceToNat, Int.reduceAdd, Int.reduceSub, Int.reduceMul, rsU, rsC]
    refine Ok.bindS (Q := fun r => (l = m ∧ r = .inl ([], σ)) ∨ (l ≠ m ∧ r = .inr (.b false, σ))) ?_ ?_ ?_
    · refine eq_loop c (fun k s => s = ([.i .i64 (k : Int)], σ)) _ ?_ ?_ rfl
      · rintro k s hk rfl
        obtain ⟨x, hx⟩ : ∃ x, l[k]? = some x := ⟨_, List.getElem?_eq_getElem hk⟩
        obtain ⟨y, hy⟩ : ∃ y, m[k]? = some y := ⟨_, List.getElem?_eq_getElem (by omega)⟩
        obtain ⟨b1, o1, rfl, l1⟩ := ha.at hx
        obtain ⟨b2, o2, rfl, l2⟩ := hb.at hy
        rw [hx, hy]
        by_cases e : x = y
        · have q1 := s_eqT e
          simp (config := { maxSteps := 2000000 }) -implicitDefEqProofs (disch := (first | omega | rfl | assumption | (simp only [rsD]; first | omega | assumption))) only [haymowref02_Same_L1, l1, l2, q1, Nat.reduceAdd, Nat.reduceMul, Nat.reduceLT, Int.reduceToNat, Int.reduceAdd, Int.reduceSub, Int.reduceMul, rsU, rsC]
          exact Ok_some.2 (by rw [if_pos (by rw [e])]; simp)
        · have q1 := s_eqF e
          simp (config := { maxSteps := 2000000 }) -implicitDefEqProofs (disch := (first | omega | rfl | assumption | (simp only [rsD]; first | omega | assumption))) only [haymowref02_Same_L1, l1, l2, q1, Nat.reduceAdd, Nat.reduceMul, Nat.reduceLT, Int.reduceToNat, Int.reduceAdd, Int.reduceSub, Int.reduceMul, rsU, rsC]
          exact Ok_some.2 (by rw [if_neg (by simp [e])]; exact fun h => .inr ⟨h, rfl⟩)
      · rintro s rfl
        simp (config := { maxSteps := 2000000 }) -implicitDefEqProofs (disch := (first | omega | rfl | assumption | (simp only [rsD]; first | omega | assumption))) only [haymowref02_Same_L1, Nat.reduceAdd, Nat.reduceMul, Nat.reduceLT, Int.reduceToNat, Int.reduceAdd, Int.reduceSub, Int.reduceMul, rsU, rsC]
        exact Ok_some.2 fun h => .inl ⟨h, rfl⟩
    · rintro s (⟨e, hs⟩ | ⟨_, hs⟩)
      · cases hs
        exact Ok_some.2 (by simp [e])
      · cases hs
    · rintro r (⟨_, hs⟩ | ⟨e, hs⟩)
      · cases hs
      · cases hs; simp [e]
  · have q0 : ((l.length : Int) == (m.length : Int)) = false := s_eqF (by omega)
    simp (config := { maxSteps := 2000000 }) -implicitDefEqProofs (disch := (first | omega | rfl | assumption | (simp only [rsD]; first | omega | assumption))) only [haymowref02_Same, haymowref02_Same_c, q0, Nat.reduceAdd, Nat.reduceMul, Nat.reduceLT, Int.reduceToNat, Int.reduceAdd, Int.reduceSub, Int.reduceMul, rsU, rsC]
    exact Ok_some.2 (by rw [decide_eq_false (fun e => c (by rw [e]))])
theorem tells_l1 {σ : AH O} {a a' : SA} {l : List CV} (hl : Chgs a l) (hl' : Chgs a' l) (fl : ∀ c ∈ l, c.few) (hn : l.length ≤ 100000000) :
    Ok (loopF (S := List AV × AH O) (T := (List AV × AH O) ⊕ (AV × AH O)) (law47_DiffTells_L1 (a', l.length) (a, l.length) law47_is) ([.i .i64 0], σ)) fun r => ∃ σ', r = .inl ([], σ') ∧ Ext σ σ' := by
  refine Ok.count l.length (fun k st => ∃ σ', st = ([.i .i64 (k : Int)], σ') ∧ Ext σ σ') ?_ ?_ ⟨σ, rfl, Ext.refl _⟩
  · rintro k st hk ⟨σ', rfl, E⟩
    obtain ⟨c, hc⟩ : ∃ c, l[k]? = some c := ⟨_, List.getElem?_eq_getElem hk⟩
    obtain ⟨b, o, p, q, r, rfl, hp, hq, hr, ld⟩ := chg_at hl hc
    obtain ⟨b', o', p', q', r', rfl, hp', hq', hr', ld'⟩ := chg_at hl' hc
    have fc := fl c (List.mem_of_getElem? hc)
    have di := decide_eq_true (show (k : Int) < (l.length : Int) by omega)
    have d0 := ld O σ' 0 (by decide)
    have d1 := ld O σ' 1 (by decide)
    have d2 := ld O σ' 2 (by decide)
    have d3 := ld O σ' 3 (by decide)
    have d4 := ld O σ' 4 (by decide)
    have d5 := ld O σ' 5 (by decide)
    have d6 := ld O σ' 6 (by decide)
    have d7 := ld O σ' 7 (by decide)
    have d8 := ld O σ' 8 (by decide)
    have d9 := ld O σ' 9 (by decide)
    have d10 := ld O σ' 10 (by decide)
    have d11 := ld O σ' 11 (by decide)
    have d12 := ld O σ' 12 (by decide)
    have e0 := ld' O σ' 0 (by decide)
    have e1 := ld' O σ' 1 (by decide)
    have e2 := ld' O σ' 2 (by decide)
    have e3 := ld' O σ' 3 (by decide)
    have e4 := ld' O σ' 4 (by decide)
    have e5 := ld' O σ' 5 (by decide)
    have e6 := ld' O σ' 6 (by decide)
    have e7 := ld' O σ' 7 (by decide)
    have e8 := ld' O σ' 8 (by decide)
    have e9 := ld' O σ' 9 (by decide)
    have e10 := ld' O σ' 10 (by decide)
    have e11 := ld' O σ' 11 (by decide)
    have e12 := ld' O σ' 12 (by decide)
    simp only [Nat.add_zero, CV.cells, List.getElem?_cons_zero, List.getElem?_cons_succ] at d0 d1 d2 d3 d4 d5 d6 d7 d8 d9 d10 d11 d12 e0 e1 e2 e3 e4 e5 e6 e7 e8 e9 e10 e11 e12
    simp (config := { maxSteps := 2000000 }) -implicitDefEqProofs (disch := (first | omega | rfl | assumption | (simp only [rsD]; first | omega | assumption))) only [law47_DiffTells_L1, di, d0, d1, d2, d3, d4, d5, d6, d7, d8, d9, d10, d11, d12, e0, e1, e2, e3, e4, e5, e6, e7, e8, e9, e10, e11, e12, Nat.reduceAdd, Nat.reduceMul, Nat.reduceLT, Int.reduceToNat, Int.reduceAdd, Int.reduceSub, Int.reduceMul, rsU, rsC]
    refine Ok.step (is47_ok fc hp hq hr hp' hq' hr') fun r ⟨g1, E1⟩ => ?_
    obtain ⟨z, σ2⟩ := r
    simp only at g1 E1
    subst g1
    simp (config := { maxSteps := 2000000 }) -implicitDefEqProofs (disch := (first | omega | rfl | assumption | (simp only [rsD]; first | omega | assumption))) only [Nat.reduceAdd, Nat.reduceMul, Nat.reduceLT, Int.reduceToNat, Int.reduceAdd, Int.reduceSub, Int.reduceMul, rsU, rsC]
    exact Ok_some.2 ⟨σ2, by simp, E.trans E1⟩
  · rintro st ⟨σ', rfl, E⟩
    simp (config := { maxSteps := 2000000 }) -implicitDefEqProofs (disch := (first | omega | rfl | assumption | (simp only [rsD]; first | omega | assumption))) only [law47_DiffTells_L1, Nat.reduceAdd, Nat.reduceMul, Nat.reduceLT, Int.reduceToNat, Int.reduceAdd, Int.reduceSub, Int.reduceMul, rsU, rsC]
    exact Ok_some.2 ⟨σ', rfl, E⟩
theorem touched_len (l : List CV) : (touched l).length ≤ l.length := by
  unfold touched
  have := ddp_len ((ats l).mergeSort fun x y => decide (x ≤ y)) (ats l).length
  have := ats_len l
  omega
theorem diffTells_ok {σ : AH O} {F G : FV} {v w : AV} (hF : F.At v) (hG : G.At w) : Ok (law47_DiffTells [v, w] σ) fun r => r.1 = .b true := by
  obtain ⟨a1, b1, c1, rfl, i1, i2, i3⟩ := hF.it
  obtain ⟨a2, b2, c2, rfl, j1, j2, j3⟩ := hG.it
  simp (config := { maxSteps := 2000000 }) -implicitDefEqProofs (disch := (first | omega | rfl | assumption | (simp only [rsD]; first | omega | assumption))) only [law47_DiffTells, law47_DiffTells_c, Nat.reduceAdd, Nat.reduceMul, Nat.reduceLT, Int.reduceToNat, Int.reduceAdd, Int.reduceSub, Int.reduceMul, rsU, rsC]
  refine Ok.step awake_ok fun r ⟨g, E1⟩ => ?_
  obtain ⟨z, σ1⟩ := r
  simp only at g E1
  subst g
  have n1 := E1.next
  simp only [rsD] at n1
  have x0 : σ1.blk σ.next = some (.cells true T_canon_Form [.sl a1 F.nodes.length, .sl b1 F.roots.length, .sl c1 F.weak.length]) := by ((have x0 := (E1).next); (try simp only [rsD] at *); simp -implicitDefEqProofs (disch := (first | omega | rfl | assumption | (simp only [rsD]; first | omega | assumption))) only [s_bs, s_bn, s_kn, bump_blk, s_ext (E1)])
  have x1 : σ1.blk (σ.next + 1) = some (.cells true T_canon_Form [.sl a2 G.nodes.length, .sl b2 G.roots.length, .sl c2 G.weak.length]) := by ((have x0 := (E1).next); (try simp only [rsD] at *); simp -implicitDefEqProofs (disch := (first | omega | rfl | assumption | (simp only [rsD]; first | omega | assumption))) only [s_bs, s_bn, s_kn, bump_blk, s_ext (E1)])
  simp (config := { maxSteps := 2000000 }) -implicitDefEqProofs (disch := (first | omega | rfl | assumption | (simp only [rsD]; first | omega | assumption))) only [x0, x1, Nat.reduceAdd, Nat.reduceMul, Nat.reduceLT, Int.reduceToNat, Int.reduceAdd, Int.reduceSub, Int.reduceMul, rsU, rsC]
  refine Ok.step (few_ok hF) fun r ⟨t, g, ht, E2⟩ => ?_
  obtain ⟨z, σ2⟩ := r
  simp only at g E2
  subst g
  have n2 := E2.next
  cases t with
  | false => simp (config := { maxSteps := 2000000 }) -implicitDefEqProofs (disch := (first | omega | rfl | assumption | (simp only [rsD]; first | omega | assumption))) only [Nat.reduceAdd, Nat.reduceMul, Nat.reduceLT, Int.reduceToNat, Int.reduceAdd, Int.reduceSub, Int.reduceMul, rsU, rsC]; exact Ok_some.2 rfl
  | true =>
  have y0 := (E2.blk σ.next (by omega)).trans x0
  have y1 := (E2.blk (σ.next + 1) (by omega)).trans x1
  simp (config := { maxSteps := 2000000 }) -implicitDefEqProofs (disch := (first | omega | rfl | assumption | (simp only [rsD]; first | omega | assumption))) only [y0, y1, Nat.reduceAdd, Nat.reduceMul, Nat.reduceLT, Int.reduceToNat, Int.reduceAdd, Int.reduceSub, Int.reduceMul, rsU, rsC]
  refine Ok.step (few_ok hG) fun r ⟨t, g, hu, E3⟩ => ?_
  obtain ⟨z, σ3⟩ := r
  simp only at g E3
  subst g
  have n3 := E3.next
  cases t with
  | false => simp (config := { maxSteps := 2000000 }) -implicitDefEqProofs (disch := (first | omega | rfl | assumption | (simp only [rsD]; first | omega | assumption))) only [Nat.reduceAdd, Nat.reduceMul, Nat.reduceLT, Int.reduceToNat, Int.reduceAdd, Int.reduceSub, Int.reduceMul, rsU, rsC]; exact Ok_some.2 rfl
  | true =>
  obtain ⟨fF, lF⟩ := ht rfl
  obtain ⟨fG, lG⟩ := hu rfl
  have z0 := (E3.blk σ.next (by omega)).trans y0
  have z1 := (E3.blk (σ.next + 1) (by omega)).trans y1
  simp (config := { maxSteps := 2000000 }) -implicitDefEqProofs (disch := (first | omega | rfl | assumption | (simp only [rsD]; first | omega | assumption))) only [z0, z1, Nat.reduceAdd, Nat.reduceMul, Nat.reduceLT, Int.reduceToNat, Int.reduceAdd, Int.reduceSub, Int.reduceMul, rsU, rsC]
  refine Ok.step (of_ok hF hG fF fG) fun r ⟨⟨e, g, R⟩, E4⟩ => ?_
  obtain ⟨z, σ4⟩ := r
  simp only at g E4
  subst g
  have n4 := E4.next
  have w0 := (E4.blk σ.next (by omega)).trans z0
  have w1 := (E4.blk (σ.next + 1) (by omega)).trans z1
  simp (config := { maxSteps := 2000000 }) -implicitDefEqProofs (disch := (first | omega | rfl | assumption | (simp only [rsD]; first | omega | assumption))) only [w0, w1, Nat.reduceAdd, Nat.reduceMul, Nat.reduceLT, Int.reduceToNat, Int.reduceAdd, Int.reduceSub, Int.reduceMul, rsU, rsC]
  refine Ok.step (lref_ok hF fF) fun r ⟨hF', E5⟩ => ?_
  obtain ⟨z, σ5⟩ := r
  simp only at hF' E5
  obtain ⟨a3, b3, c3, rfl, k1, k2, k3⟩ := hF'.it
  have n5 := E5.next
  have v1 := (E5.blk (σ.next + 1) (by omega)).trans w1
  simp (config := { maxSteps := 2000000 }) -implicitDefEqProofs (disch := (first | omega | rfl | assumption | (simp only [rsD]; first | omega | assumption))) only [v1, Nat.reduceAdd, Nat.reduceMul, Nat.reduceLT, Int.reduceToNat, Int.reduceAdd, Int.reduceSub, Int.reduceMul, rsU, rsC]
  refine Ok.step (lref_ok hG fG) fun r ⟨hG', E6⟩ => ?_
  obtain ⟨z, σ6⟩ := r
  simp only at hG' E6
  obtain ⟨a4, b4, c4, rfl, m1, m2, m3⟩ := hG'.it
  simp (config := { maxSteps := 2000000 }) -implicitDefEqProofs (disch := (first | omega | rfl | assumption | (simp only [rsD]; first | omega | assumption))) only [Nat.reduceAdd, Nat.reduceMul, Nat.reduceLT, Int.reduceToNat, Int.reduceAdd, Int.reduceSub, Int.reduceMul, rsU, rsC]
  refine Ok.step (rof_ok hF' hG' fF fG) fun r ⟨⟨e', g, R'⟩, E7⟩ => ?_
  obtain ⟨z, σ7⟩ := r
  simp only at g E7
  subst g
  have ln := dOf_len fG lG (a := F)
  have ql := s_eqT (show ((dOf F G).length : Int) = (dOf F G).length from rfl)
  simp (config := { maxSteps := 2000000 }) -implicitDefEqProofs (disch := (first | omega | rfl | assumption | (simp only [rsD]; first | omega | assumption))) only [ql, Nat.reduceAdd, Nat.reduceMul, Nat.reduceLT, Int.reduceToNat, Int.reduceAdd, Int.reduceSub, Int.reduceMul, rsU, rsC]
  refine Ok.bindS (tells_l1 R R' (dOf_few fG) ln) ?_ (fun r h => by obtain ⟨_, e, _⟩ := h; cases e)
  rintro _ ⟨σ8, e8, E8⟩
  cases e8
  simp (config := { maxSteps := 2000000 }) -implicitDefEqProofs (disch := (first | omega | rfl | assumption | (simp only [rsD]; first | omega | assumption))) only [Nat.reduceAdd, Nat.reduceMul, Nat.reduceLT, Int.reduceToNat, Int.reduceAdd, Int.reduceSub, Int.reduceMul, rsU, rsC]
  refine Ok.step (dtouched_ok R ln) fun r ⟨⟨t1, g, I1⟩, _⟩ => ?_
  obtain ⟨z, σ9⟩ := r
  simp only at g
  subst g
  simp (config := { maxSteps := 2000000 }) -implicitDefEqProofs (disch := (first | omega | rfl | assumption | (simp only [rsD]; first | omega | assumption))) only [Nat.reduceAdd, Nat.reduceMul, Nat.reduceLT, Int.reduceToNat, Int.reduceAdd, Int.reduceSub, Int.reduceMul, rsU, rsC]
  refine Ok.step (rtouched_ok R' ln) fun r ⟨⟨t2, g, I2⟩, _⟩ => ?_
  obtain ⟨z, σ10⟩ := r
  simp only at g
  subst g
  simp (config := { maxSteps := 2000000 }) -implicitDefEqProofs (disch := (first | omega | rfl | assumption | (simp only [rsD]; first | omega | assumption))) only [Nat.reduceAdd, Nat.reduceMul, Nat.reduceLT, Int.reduceToNat, Int.reduceAdd, Int.reduceSub, Int.reduceMul, rsU, rsC]
  have tl := touched_len (dOf F G)
  refine Ok.step (same02w I1 I2 (by omega) (by omega)) fun r g => ?_
  subst g
  simp (config := { maxSteps := 2000000 }) -implicitDefEqProofs (disch := (first | omega | rfl | assumption | (simp only [rsD]; first | omega | assumption))) only [decide_true, Nat.reduceAdd, Nat.reduceMul, Nat.reduceLT, Int.reduceToNat, Int.reduceAdd, Int.reduceSub, Int.reduceMul, rsU, rsC]
  exact Ok_some.2 rfl
end Go.Abs.Try
