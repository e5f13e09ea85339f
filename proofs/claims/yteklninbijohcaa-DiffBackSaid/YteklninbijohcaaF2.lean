/-
  Slices that are cloned and compared. No conditions.
-/
import Derived.Test.YteklninbijohcaaF1
import Derived.Test.YteklninbijohcaaN4
import Derived.Test.YteklninbijohcaaS4b
set_option linter.unusedVariables false
set_option linter.unusedSimpArgs false
set_option linter.constructorNameAsVariable false
set_option linter.unusedSimpArgs false
set_option linter.unusedVariables false
set_option linter.unusedSectionVars false
set_option maxHeartbeats 1000000
namespace Go.Abs.Try
open Go Go.Abs
variable {O : Type}

theorem clone_i {σ : AH O} {a : SA} {l : List Int} (h : Ints .i64 a l) (hl : l.length ≤ 100000) : Ok (slices_Clone___int_int_ [.sl a l.length] σ) fun r => ∃ a', r.1 = .sl a' l.length ∧ New σ r.2 [ints .i64 l] [.sl a' l.length] ∧ (AV.sl a' l.length).mine = true := by
  cases hn : SA.isNil a with
  | true =>
    obtain ⟨rfl, rfl⟩ := h.isNil hn
    simp (config := { maxSteps := 2000000 }) -implicitDefEqProofs (disch := (first | omega | rfl | assumption | (simp only [rsD]; first | omega | assumption))) only [slices_Clone___int_int_, slices_Clone___int_int__c, hn, Nat.reduceAdd, Nat.reduceMul, Nat.reduceLT, Int.reduceToNat, Int.reduceAdd, Int.reduceSub, Int.reduceMul, rsU, rsC]
    exact Ok_some.2 ⟨.nil, rfl, (Bld.nil σ _ (int1_len _)).out (Ext.refl σ) (by simp [SA.bk]), rfl⟩
  | false =>
    obtain ⟨vs, h1, h2, h3⟩ := h.all
    simp (config := { maxSteps := 2000000 }) -implicitDefEqProofs (disch := (first | omega | rfl | assumption | (simp only [rsD]; first | omega | assumption))) only [slices_Clone___int_int_, slices_Clone___int_int__c, hn, h3, Nat.reduceAdd, Nat.reduceMul, Nat.reduceLT, Int.reduceToNat, Int.reduceAdd, Int.reduceSub, Int.reduceMul, rsU, rsC]
    refine Ok.step (Bld.app (Bld.new (row := int1 .i64) (int1_len _) s_bs (by simp)) (m := l) (by simp [SA.bk]) (by simp) h2) fun r ⟨a', g1, g2, g3, g4, g5⟩ => ?_
    obtain ⟨q, σ2⟩ := r
    simp only at g1 g2 g3 g4
    subst g1
    have mi : (AV.sl a' l.length).mine = true := by
      obtain ⟨_, o, _⟩ := g2.it
      rw [List.nil_append] at o; exact o.p.mine
    simp (config := { maxSteps := 2000000 }) -implicitDefEqProofs (disch := (first | omega | rfl | assumption | (simp only [rsD]; first | omega | assumption))) only [List.length_nil, Nat.reduceAdd, Nat.reduceMul, Nat.reduceLT, Int.reduceToNat, Int.reduceAdd, Int.reduceSub, Int.reduceMul, rsU, rsC]
    refine Ok_some.2 ⟨a', by simp, g2.out ⟨by show σ.next ≤ σ2.next; rw [g3]; simp, fun b hb => ?_⟩ fun b hb => by have := g5 b hb; omega, mi⟩
    show σ2.blk b = _
    rw [g4 b (by omega) (by simp [SA.bk]; omega)]; simp -implicitDefEqProofs (disch := omega) only [s_bn, s_bs, s_kn, bump_blk]
theorem clone_u {σ : AH O} {a : SA} {l : List Int} (h : Ints .u64 a l) (hl : l.length ≤ 100000) : Ok (slices_Clone___uint64_uint64_ [.sl a l.length] σ) fun r => ∃ a', r.1 = .sl a' l.length ∧ New σ r.2 [ints .u64 l] [.sl a' l.length] ∧ (AV.sl a' l.length).mine = true := by
  cases hn : SA.isNil a with
  | true =>
    obtain ⟨rfl, rfl⟩ := h.isNil hn
    simp (config := { maxSteps := 2000000 }) -implicitDefEqProofs (disch := (first | omega | rfl | assumption | (simp only [rsD]; first | omega | assumption))) only [slices_Clone___uint64_uint64_, slices_Clone___uint64_uint64__c, hn, Nat.reduceAdd, Nat.reduceMul, Nat.reduceLT, Int.reduceToNat, Int.reduceAdd, Int.reduceSub, Int.reduceMul, rsU, rsC]
    exact Ok_some.2 ⟨.nil, rfl, (Bld.nil σ _ (int1_len _)).out (Ext.refl σ) (by simp [SA.bk]), rfl⟩
  | false =>
    obtain ⟨vs, h1, h2, h3⟩ := h.all
    simp (config := { maxSteps := 2000000 }) -implicitDefEqProofs (disch := (first | omega | rfl | assumption | (simp only [rsD]; first | omega | assumption))) only [slices_Clone___uint64_uint64_, slices_Clone___uint64_uint64__c, hn, h3, Nat.reduceAdd, Nat.reduceMul, Nat.reduceLT, Int.reduceToNat, Int.reduceAdd, Int.reduceSub, Int.reduceMul, rsU, rsC]
    refine Ok.step (Bld.app (Bld.new (row := int1 .u64) (int1_len _) s_bs (by simp)) (m := l) (by simp [SA.bk]) (by simp) h2) fun r ⟨a', g1, g2, g3, g4, g5⟩ => ?_
    obtain ⟨q, σ2⟩ := r
    simp only at g1 g2 g3 g4
    subst g1
    have mi : (AV.sl a' l.length).mine = true := by
      obtain ⟨_, o, _⟩ := g2.it
      rw [List.nil_append] at o; exact o.p.mine
    simp (config := { maxSteps := 2000000 }) -implicitDefEqProofs (disch := (first | omega | rfl | assumption | (simp only [rsD]; first | omega | assumption))) only [List.length_nil, Nat.reduceAdd, Nat.reduceMul, Nat.reduceLT, Int.reduceToNat, Int.reduceAdd, Int.reduceSub, Int.reduceMul, rsU, rsC]
    refine Ok_some.2 ⟨a', by simp, g2.out ⟨by show σ.next ≤ σ2.next; rw [g3]; simp, fun b hb => ?_⟩ fun b hb => by have := g5 b hb; omega, mi⟩
    show σ2.blk b = _
    rw [g4 b (by omega) (by simp [SA.bk]; omega)]; simp -implicitDefEqProofs (disch := omega) only [s_bn, s_bs, s_kn, bump_blk]
theorem sequal_i {σ : AH O} {a b : SA} {l m : List Int} (ha : Ints .i64 a l) (hb : Ints .i64 b m) (hl : l.length ≤ 100000) (hm : m.length ≤ 100000) : Ok (slices_Equal___int_int_ [.sl a l.length, .sl b m.length] σ) fun r => r = (.b (decide (l = m)), σ) := by
  by_cases c : l.length = m.length
  · have q0 : ((l.length : Int) == (m.length : Int)) = true := s_eqT (by omega)
    simp (config := { maxSteps := 2000000 }) -implicitDefEqProofs (disch := (first | omega | rfl | assumption | (simp only [rsD]; first | omega | assumption))) only [slices_Equal___int_int_, slices_Equal___int_int__c, q0, Nat.reduceAdd, Nat.reduceMul, Nat.reduceLT, Int.reduceToNat, Int.reduceAdd, Int.reduceSub, Int.reduceMul, rsU, rsC]
    refine Ok.bindS (Q := fun r => (l = m ∧ r = .inl ([], σ)) ∨ (l ≠ m ∧ r = .inr (.b false, σ))) ?_ ?_ ?_
    · refine eq_loop c (fun k s => s = ([.i .i64 (k : Int)], σ)) _ ?_ ?_ rfl
      · rintro k s hk rfl
        obtain ⟨x, hx⟩ : ∃ x, l[k]? = some x := ⟨_, List.getElem?_eq_getElem hk⟩
        obtain ⟨y, hy⟩ : ∃ y, m[k]? = some y := ⟨_, List.getElem?_eq_getElem (by omega)⟩
        obtain ⟨b1, o1, rfl, l1⟩ := ha.at hx
        obtain ⟨b2, o2, rfl, l2⟩ := hb.at hy
        rw [hx, hy]
        by_cases e : x = y
        · have q1 := s_eqT e
          simp (config := { maxSteps := 2000000 }) -implicitDefEqProofs (disch := (first | omega | rfl | assumption | (simp only [rsD]; first | omega | assumption))) only [slices_Equal___int_int__L1, l1, l2, q1, Nat.reduceAdd, Nat.reduceMul, Nat.reduceLT, Int.reduceToNat, Int.reduceAdd, Int.reduceSub, Int.reduceMul, rsU, rsC]
          exact Ok_some.2 (by rw [if_pos (by rw [e])]; simp)
        · have q1 := s_eqF e
          simp (config := { maxSteps := 2000000 }) -implicitDefEqProofs (disch := (first | omega | rfl | assumption | (simp only [rsD]; first | omega | assumption))) only [slices_Equal___int_int__L1, l1, l2, q1, Nat.reduceAdd, Nat.reduceMul, Nat.reduceLT, Int.reduceToNat, Int.reduceAdd, Int.reduceSub, Int.reduceMul, rsU, rsC]
          exact Ok_some.2 (by rw [if_neg (by simp [e])]; exact fun h => .inr ⟨h, rfl⟩)
      · rintro s rfl
        simp (config := { maxSteps := 2000000 }) -implicitDefEqProofs (disch := (first | omega | rfl | assumption | (simp only [rsD]; first | omega | assumption))) only [slices_Equal___int_int__L1, Nat.reduceAdd, Nat.reduceMul, Nat.reduceLT, Int.reduceToNat, Int.reduceAdd, Int.reduceSub, Int.reduceMul, rsU, rsC]
        exact Ok_some.2 fun h => .inl ⟨h, rfl⟩
    · rintro s (⟨e, hs⟩ | ⟨_, hs⟩)
      · cases hs
        exact Ok_some.2 (by simp [e])
      · cases hs
    · rintro r (⟨_, hs⟩ | ⟨e, hs⟩)
      · cases hs
      · cases hs; simp [e]
  · have q0 : ((l.length : Int) == (m.length : Int)) = false := s_eqF (by omega)
    simp (config := { maxSteps := 2000000 }) -implicitDefEqProofs (disch := (first | omega | rfl | assumption | (simp only [rsD]; first | omega | assumption))) only [slices_Equal___int_int_, slices_Equal___int_int__c, q0, Nat.reduceAdd, Nat.reduceMul, Nat.reduceLT, Int.reduceToNat, Int.reduceAdd, Int.reduceSub, Int.reduceMul, rsU, rsC]
    exact Ok_some.2 (by rw [decide_eq_false (fun e => c (by rw [e]))])
theorem sequal_u {σ : AH O} {a b : SA} {l m : List Int} (ha : Ints .u64 a l) (hb : Ints .u64 b m) (hl : l.length ≤ 100000) (hm : m.length ≤ 100000) : Ok (slices_Equal___uint64_uint64_ [.sl a l.length, .sl b m.length] σ) fun r => r = (.b (decide (l = m)), σ) := by
  by_cases c : l.length = m.length
  · have q0 : ((l.length : Int) == (m.length : Int)) = true := s_eqT (by omega)
    simp (config := { maxSteps := 2000000 }) -implicitDefEqProofs (disch := (first | omega | rfl | assumption | (simp only [rsD]; first | omega | assumption))) only [slices_Equal___uint64_uint64_, slices_Equal___uint64_uint64__c, q0, Nat.reduceAdd, Nat.reduceMul, Nat.reduceLT, Int.reduceToNat, Int.reduceAdd, Int.reduceSub, Int.reduceMul, rsU, rsC]
    refine Ok.bindS (Q := fun r => (l = m ∧ r = .inl ([], σ)) ∨ (l ≠ m ∧ r = .inr (.b false, σ))) ?_ ?_ ?_
    · refine eq_loop c (fun k s => s = ([.i .i64 (k : Int)], σ)) _ ?_ ?_ rfl
      · rintro k s hk rfl
        obtain ⟨x, hx⟩ : ∃ x, l[k]? = some x := ⟨_, List.getElem?_eq_getElem hk⟩
        obtain ⟨y, hy⟩ : ∃ y, m[k]? = some y := ⟨_, List.getElem?_eq_getElem (by omega)⟩
        obtain ⟨b1, o1, rfl, l1⟩ := ha.at hx
        obtain ⟨b2, o2, rfl, l2⟩ := hb.at hy
        rw [hx, hy]
        by_cases e : x = y
        · have q1 := s_eqT e
          simp (config := { maxSteps := 2000000 }) -implicitDefEqProofs (disch := (first | omega | rfl | assumption | (simp only [rsD]; first | omega | assumption))) only [slices_Equal___uint64_uint64__L1, l1, l2, q1, Nat.reduceAdd, Nat.reduceMul, Nat.reduceLT, Int.reduceToNat, Int.reduceAdd, Int.reduceSub, Int.reduceMul, rsU, rsC]
          exact Ok_some.2 (by rw [if_pos (by rw [e])]; simp)
        · have q1 := s_eqF e
          simp (config := { maxSteps := 2000000 }) -implicitDefEqProofs (disch := (first | omega | rfl | assumption | (simp only [rsD]; first | omega | assumption))) only [slices_Equal___uint64_uint64__L1, l1, l2, q1, Nat.reduceAdd, Nat.reduceMul, Nat.reduceLT, Int.reduceToNat, Int.reduceAdd, Int.reduceSub, Int.reduceMul, rsU, rsC]
          exact Ok_some.2 (by rw [if_neg (by simp [e])]; exact fun h => .inr ⟨h, rfl⟩)
      · rintro s rfl
        simp (config := { maxSteps := 2000000 }) -implicitDefEqProofs (disch := (first | omega | rfl | assumption | (simp only [rsD]; first | omega | assumption))) only [slices_Equal___uint64_uint64__L1, Nat.reduceAdd, Nat.reduceMul, Nat.reduceLT, Int.reduceToNat, Int.reduceAdd, Int.reduceSub, Int.reduceMul, rsU, rsC]
        exact Ok_some.2 fun h => .inl ⟨h, rfl⟩
    · rintro s (⟨e, hs⟩ | ⟨_, hs⟩)
      · cases hs
        exact Ok_some.2 (by simp [e])
      · cases hs
    · rintro r (⟨_, hs⟩ | ⟨e, hs⟩)
      · cases hs
      · cases hs; simp [e]
  · have q0 : ((l.length : Int) == (m.length : Int)) = false := s_eqF (by omega)
    simp (config := { maxSteps := 2000000 }) -implicitDefEqProofs (disch := (first | omega | rfl | assumption | (simp only [rsD]; first | omega | assumption))) only [slices_Equal___uint64_uint64_, slices_Equal___uint64_uint64__c, q0, Nat.reduceAdd, Nat.reduceMul, Nat.reduceLT, Int.reduceToNat, Int.reduceAdd, Int.reduceSub, Int.reduceMul, rsU, rsC]
    exact Ok_some.2 (by rw [decide_eq_false (fun e => c (by rw [e]))])
end Go.Abs.Try
