/-
  The statement LoadScripts: what is run returns true. No conditions.
-/
import Derived.Test.YteklninbijohcaaG5
set_option linter.unusedVariables false
set_option linter.unusedSimpArgs false
set_option linter.constructorNameAsVariable false
set_option linter.unusedSimpArgs false
set_option linter.unusedVariables false
set_option linter.unusedSectionVars false
set_option maxHeartbeats 1000000
namespace Go.Abs.Try
open Go Go.Abs
variable {O : Type}

def treeS (d site : Int) : List (List Int) := if d < 0 ∨ d > 7 then [] else [[1], [3, 2 * d + 1]] ++ tree_ site d.toNat 0 ++ [[8, 0, -1], [4]]
theorem ltreeS_ok {σ : AH O} {F : Nat} (hF : 8 ≤ F) {d site : Int} : Ok (load_Tree F [.i .i64 d, .i .i64 site] σ) fun r => Script r.1 (treeS d site) ∧ Ext σ r.2 := by
  have fin : Ok (load_Tree F [.i .i64 d, .i .i64 site] σ) fun r => Im (.sl 24 1 (treeS d site).length ((treeS d site).flatMap rrow)) r.1 ∧ Ext σ r.2 := by
    refine frz_sl (recs_deep _ _ _ 5 _) ?_
    by_cases c : d < 0 ∨ d > 7
    · have e : treeS d site = [] := if_pos c
      rw [e]
      have cc := range_out c
      simp (config := { maxSteps := 2000000 }) -implicitDefEqProofs (disch := (first | omega | rfl | assumption | (simp only [rsD]; first | omega | assumption))) only [load_Tree_c, cc, Nat.reduceAdd, Nat.reduceMul, Nat.reduceLT, Int.reduceToNat, Int.reduceAdd, Int.reduceSub, Int.reduceMul, rsU, rsC]
      exact Ok_some.2 ((BldO.nil σ.next σ 24 rrow_len).out (Ext.refl σ) (Nat.le_refl _))
    · obtain ⟨m, rfl⟩ : ∃ m : Nat, d = m := ⟨d.toNat, by omega⟩
      have e : treeS m site = [] ++ [[1]] ++ [[3, 2 * (m : Int) + 1]] ++ tree_ site m 0 ++ [[8, 0, -1]] ++ [[4]] := by unfold treeS; rw [if_neg c, Int.toNat_natCast]; simp
      have c1 := decide_eq_false (show ¬ ((m : Int) < 0) by omega)
      have c2 := decide_eq_false (show ¬ ((m : Int) > 7) by omega)
      simp (config := { maxSteps := 2000000 }) -implicitDefEqProofs (disch := (first | omega | rfl | assumption | (simp only [rsD]; first | omega | assumption))) only [load_Tree_c, c1, c2, Nat.reduceAdd, Nat.reduceMul, Nat.reduceLT, Int.reduceToNat, Int.reduceAdd, Int.reduceSub, Int.reduceMul, rsU, rsC]
      refine Ok.step (add_nil Mk.start (by simp)) fun r ⟨g1, k1⟩ => ?_
      obtain ⟨q, σ1⟩ := r
      simp only at g1 k1
      subst g1
      simp (config := { maxSteps := 2000000 }) -implicitDefEqProofs (disch := (first | omega | rfl | assumption | (simp only [rsD]; first | omega | assumption))) only [Nat.reduceAdd, Nat.reduceMul, Nat.reduceLT, Int.reduceToNat, Int.reduceAdd, Int.reduceSub, Int.reduceMul, rsU, rsC]
      refine Ok.step (add_new (args := [2 * (m : Int) + 1]) k1.m (by simp) (by simp) rfl) fun r ⟨g1, k2⟩ => ?_
      obtain ⟨q, σ2⟩ := r
      simp only at g1 k2
      subst g1
      have hp := pow_le7 (show m ≤ 7 by omega)
      simp (config := { maxSteps := 2000000 }) -implicitDefEqProofs (disch := (first | omega | rfl | assumption | (simp only [rsD]; first | omega | assumption))) only [Nat.reduceAdd, Nat.reduceMul, Nat.reduceLT, Int.reduceToNat, Int.reduceAdd, Int.reduceSub, Int.reduceMul, rsU, rsC]
      refine Ok.step (ltree_ok m (by omega) F (by omega) 0 (by omega) σ2 _ k2.m (by simp; omega)) fun r ⟨g1, k3⟩ => ?_
      obtain ⟨q, σ3⟩ := r
      simp only at g1 k3
      subst g1
      have ht := tree_small site (show m ≤ 7 by omega) 0
      have s0 := slot_ok (σ := σ3.bump 1) (n := 0) (by omega)
      simp (config := { maxSteps := 2000000 }) -implicitDefEqProofs (disch := (first | omega | rfl | assumption | (simp only [rsD]; first | omega | assumption))) only [s0, Nat.reduceAdd, Nat.reduceMul, Nat.reduceLT, Int.reduceToNat, Int.reduceAdd, Int.reduceSub, Int.reduceMul, rsU, rsC]
      refine Ok.step (add_new (args := [0, -1]) k3.m (by simp; omega) (by simp) rfl) fun r ⟨g1, k4⟩ => ?_
      obtain ⟨q, σ4⟩ := r
      simp only at g1 k4
      subst g1
      simp (config := { maxSteps := 2000000 }) -implicitDefEqProofs (disch := (first | omega | rfl | assumption | (simp only [rsD]; first | omega | assumption))) only [Nat.reduceAdd, Nat.reduceMul, Nat.reduceLT, Int.reduceToNat, Int.reduceAdd, Int.reduceSub, Int.reduceMul, rsU, rsC]
      refine Ok.step (add_nil k4.m (by simp; omega)) fun r ⟨g1, k5⟩ => ?_
      obtain ⟨q, σ5⟩ := r
      simp only at g1 k5
      subst g1
      obtain ⟨a, el, h1, h2⟩ := (k1.trans (k2.trans (k3.trans (k4.trans k5)))).out (σ0 := σ) (ext_of (by (try simp only [rsD] at *); omega) (fun b hb => by (try simp only [rsD] at *); simp -implicitDefEqProofs (disch := (first | omega | rfl | assumption | (simp only [rsD]; first | omega | assumption))) only [s_bn, s_kn, bump_blk])) (Nat.le_refl _)
      rw [← e] at h1 h2
      simp (config := { maxSteps := 2000000 }) -implicitDefEqProofs (disch := (first | omega | rfl | assumption | (simp only [rsD]; first | omega | assumption))) only [h1, Nat.reduceAdd, Nat.reduceMul, Nat.reduceLT, Int.reduceToNat, Int.reduceAdd, Int.reduceSub, Int.reduceMul, rsU, rsC]
      exact Ok_some.2 h2
  refine fin.mono ?_
  rintro ⟨v, σ'⟩ ⟨h1, h2⟩
  obtain ⟨a, g1, g2⟩ := Row.of rrow_len h1 rfl
  exact ⟨⟨a, g1, g2⟩, h2⟩
theorem rtreeS_ok {σ : AH O} {F : Nat} (hF : 8 ≤ F) {d site : Int} : Ok (haymowref44_Tree F [.i .i64 d, .i .i64 site] σ) fun r => Script r.1 (treeS d site) ∧ Ext σ r.2 := by
  have fin : Ok (haymowref44_Tree F [.i .i64 d, .i .i64 site] σ) fun r => Im (.sl 24 1 (treeS d site).length ((treeS d site).flatMap rrow)) r.1 ∧ Ext σ r.2 := by
    refine frz_sl (recs_deep _ _ _ 5 _) ?_
    by_cases c : d < 0 ∨ d > 7
    · have e : treeS d site = [] := if_pos c
      rw [e]
      have cc := range_out c
      simp (config := { maxSteps := 2000000 }) -implicitDefEqProofs (disch := (first | omega | rfl | assumption | (simp only [rsD]; first | omega | assumption))) only [haymowref44_Tree_c, cc, Nat.reduceAdd, Nat.reduceMul, Nat.reduceLT, Int.reduceToNat, Int.reduceAdd, Int.reduceSub, Int.reduceMul, rsU, rsC]
      exact Ok_some.2 ((BldO.nil σ.next σ 24 rrow_len).out (Ext.refl σ) (Nat.le_refl _))
    · obtain ⟨m, rfl⟩ : ∃ m : Nat, d = m := ⟨d.toNat, by omega⟩
      have e : treeS m site = [[1], [3, 2 * (m : Int) + 1]] ++ tree_ site m 0 ++ [[8, 0, -1], [4]] := by unfold treeS; rw [if_neg c, Int.toNat_natCast]
      have c1 := decide_eq_false (show ¬ ((m : Int) < 0) by omega)
      have c2 := decide_eq_false (show ¬ ((m : Int) > 7) by omega)
      simp (config := { maxSteps := 2000000 }) -implicitDefEqProofs (disch := (first | omega | rfl | assumption | (simp only [rsD]; first | omega | assumption))) only [haymowref44_Tree_c, c1, c2, Nat.reduceAdd, Nat.reduceMul, Nat.reduceLT, Int.reduceToNat, Int.reduceAdd, Int.reduceSub, Int.reduceMul, rsU, rsC]
      generalize hσ : AH.put _ (σ.next + 1 + 1) _ = σ1
      have E : Ext σ σ1 := by rw [← hσ]; exact (ext_of (by (try simp only [rsD] at *); omega) (fun b hb => by (try simp only [rsD] at *); simp -implicitDefEqProofs (disch := (first | omega | rfl | assumption | (simp only [rsD]; first | omega | assumption))) only [s_bn, s_kn, bump_blk]))
      have n1 : σ1.next = σ.next + 4 := by rw [← hσ]; rfl
      have hL : Lits σ1 [σ.next, σ.next + 1] [[1], [3, 2 * (m : Int) + 1]] [.sl (.loc (.n σ.next) 0 1) 1, .sl (.loc (.n (σ.next + 1)) 0 1) 2] := by
        subst hσ
        refine .cons ?_ (by omega) rfl (.cons ?_ (by omega) rfl .nil)
        all_goals (((try simp only [rsD] at *); simp -implicitDefEqProofs (disch := (first | omega | rfl | assumption | (simp only [rsD]; first | omega | assumption))) only [s_bs, s_bn, s_kn, bump_blk]); try rfl)
      have hk : σ1.blk (σ.next + 1 + 1) = some (.cells true 24 [.sl (.loc (.n σ.next) 0 1) 1, .sl (.loc (.n (σ.next + 1)) 0 1) 2]) := by rw [← hσ]; exact s_bs
      clear hσ
      refine Ok.step (rtree_ok m (by omega) F (by omega) 0 (by omega) σ1) fun r ⟨a2, g1, B2, E2⟩ => ?_
      obtain ⟨q, σ2⟩ := r
      simp only at g1 B2 E2
      subst g1
      have n2 := E2.next
      have ht := tree_small site (show m ≤ 7 by omega) 0
      obtain ⟨vs, K, w1, w2, w3⟩ := B2.all
      have own := OwnP.new (σ := σ2) (el := 24) (es := 1) (n := 2) (b := σ.next + 1 + 1) (cs := [.sl (.loc (.n σ.next) 0 1) 1, .sl (.loc (.n (σ.next + 1)) 0 1) 2]) (rest := []) rfl (by rw [E2.blk _ (by omega)]; exact hk) (by omega)
      have ow : OwL σ2 ([[1], [3, 2 * (m : Int) + 1]].flatMap rrow) [.sl (.loc (.n σ.next) 0 1) 1, .sl (.loc (.n (σ.next + 1)) 0 1) 2] [σ.next, σ.next + 1] := (hL.ow (by simp)).of n2 fun b hb => E2.blk b (by simp at hb; omega)
      generalize tree_ site m 0 = T at *
      simp (config := { maxSteps := 2000000 }) -implicitDefEqProofs (disch := (first | omega | rfl | assumption | (simp only [rsD]; first | omega | assumption))) only [w1, Nat.reduceAdd, Nat.reduceMul, Nat.reduceLT, Int.reduceToNat, Int.reduceAdd, Int.reduceSub, Int.reduceMul, rsU, rsC]
      have all := ow.app w2 (fun b hb hm => by have := w3 b hm; simp at hb; omega)
      refine Ok.step (app_okP own (nid := σ.next + 1 + 1 + 1) (new := vs) (m := T.length) (by simp [SA.bk] <;> omega) (by omega) (by rw [w2.len, fmt_len rrow_len])) fun r ⟨a3, h1, h2, h3, h4, h5⟩ => ?_
      obtain ⟨z, σ3⟩ := r
      simp only at h1 h2 h3 h4
      subst h1
      have B3 : BldO σ.next σ3 24 1 rrow a3 ([[1], [3, 2 * (m : Int) + 1]] ++ T) := by
        refine ⟨rrow_len, _, [σ.next, σ.next + 1] ++ K, by rw [List.length_append]; exact h2, ?_, fun b hb hm => ?_, fun b hb => ?_⟩
        · rw [List.flatMap_append]
          refine all.of (by show σ2.next ≤ σ3.next; omega) fun b hb => ?_
          rcases List.mem_append.1 hb with hb | hb
          · simp at hb; exact h4 b (by omega) (by simp [SA.bk]; omega)
          · have := w3 b hb; exact h4 b (by omega) (by simp [SA.bk]; omega)
        · have := h5 b hb
          rcases List.mem_append.1 hm with hm | hm
          · simp at hm; omega
          · have := w3 b hm; omega
        · rcases List.mem_append.1 hb with hb | hb
          · have := h5 b hb; omega
          · rcases List.mem_append.1 hb with hb | hb
            · simp at hb; omega
            · have := w3 b hb; omega
      have E3 : Ext σ σ3 := ⟨by omega, fun b hb => by rw [h4 b (by omega) (by simp [SA.bk]; omega), E2.blk b (by omega), E.blk b hb]⟩
      have h3' := E3.next
      have hlT : ([[1], [3, 2 * (m : Int) + 1]] ++ T).length = 2 + T.length := by simp; omega
      rw [← hlT, e]
      clear e
      have hle : ([[1], [3, 2 * (m : Int) + 1]] ++ T).length ≤ 1000 := by omega
      generalize [[1], [3, 2 * (m : Int) + 1]] ++ T = T2 at *
      simp (config := { maxSteps := 2000000 }) -implicitDefEqProofs (disch := (first | omega | rfl | assumption | (simp only [rsD]; first | omega | assumption))) only [Nat.reduceAdd, Nat.reduceMul, Nat.reduceLT, Int.reduceToNat, Int.reduceAdd, Int.reduceSub, Int.reduceMul, rsU, rsC]
      refine Ok.step (B3.app' (m := [[8, 0, -1], [4]]) h3' (by simp) (fun b _ hb => by ((try simp only [rsD] at *); simp -implicitDefEqProofs (disch := (first | omega | rfl | assumption | (simp only [rsD]; first | omega | assumption))) only [s_bs, s_bn, s_kn, bump_blk])) ⟨[σ3.next, σ3.next + 1], (Lits.cons (r := [8, 0, -1]) (by ((try simp only [rsD] at *); simp -implicitDefEqProofs (disch := (first | omega | rfl | assumption | (simp only [rsD]; first | omega | assumption))) only [s_bs, s_bn, s_kn, bump_blk]); rfl) (by simp) rfl (Lits.cons (r := [4]) (by ((try simp only [rsD] at *); simp -implicitDefEqProofs (disch := (first | omega | rfl | assumption | (simp only [rsD]; first | omega | assumption))) only [s_bs, s_bn, s_kn, bump_blk]); rfl) (by simp) rfl .nil)).ow (by simp), by simp <;> omega⟩ (by omega) (by simp)) fun r ⟨a', h6, h7, h8, h9, h10⟩ => ?_
      obtain ⟨z, σ4⟩ := r
      simp only at h6 h7 h8 h9
      subst h6
      have hbk := B3.bk
      simp (config := { maxSteps := 2000000 }) -implicitDefEqProofs (disch := (first | omega | rfl | assumption | (simp only [rsD]; first | omega | assumption))) only [Nat.reduceAdd, Nat.reduceMul, Nat.reduceLT, Int.reduceToNat, Int.reduceAdd, Int.reduceSub, Int.reduceMul, rsU, rsC]
      refine Ok_some.2 ?_
      have := h7.out (σ0 := σ) ⟨by rw [h8]; simp; omega, fun b hb => by rw [h9 b (by omega) (fun hm => by have := hbk b hm; omega)]; ((have x0 := (E3).next); (try simp only [rsD] at *); simp -implicitDefEqProofs (disch := (first | omega | rfl | assumption | (simp only [rsD]; first | omega | assumption))) only [s_bs, s_bn, s_kn, bump_blk, s_ext (E3)])⟩ (Nat.le_refl _)
      simpa using this
  refine fin.mono ?_
  rintro ⟨v, σ'⟩ ⟨h1, h2⟩
  obtain ⟨a, g1, g2⟩ := Row.of rrow_len h1 rfl
  exact ⟨⟨a, g1, g2⟩, h2⟩

/-! ### Two scripts are compared -/
theorem rsame {σ : AH O} {a b : SA} {l m : List Int} (ha : Rd σ 1 a l.length (l.map (AV.i .i64))) (hb : Rd σ 1 b m.length (m.map (AV.i .i64))) (hl : l.length ≤ 100000) (hm : m.length ≤ 100000) : Ok (haymowref02_Same [.sl a l.length, .sl b m.length] σ) fun r => r = (.b (decide (l = m)), σ) := by
  by_cases c : l.length = m.length
  · have q0 : ((l.length : Int) == (m.length : Int)) = true := s_eqT (by omega)
    simp (config := { maxSteps := 2000000 }) -implicitDefEqProofs (disch := (first | omega | rfl | assumption | (simp only [rsD]; first | omega | assumption))) only [haymowref02_Same, haymowref02_Same_c, q0, Nat.reduceAdd, Nat.reduceMul, Nat.reduceLT, Int.reduceToNat, Int.reduceAdd, Int.reduceSub, Int.reduceMul, rsU, rsC]
    refine Ok.bindS (Q := fun r => (l = m ∧ r = .inl ([], σ)) ∨ (l ≠ m ∧ r = .inr (.b false, σ))) ?_ ?_ ?_
    · refine eq_loop c (fun k s => s = ([.i .i64 (k : Int)], σ)) _ ?_ ?_ rfl
      · rintro k s hk rfl
        obtain ⟨x, hx⟩ : ∃ x, l[k]? = some x := ⟨_, List.getElem?_eq_getElem hk⟩
        obtain ⟨y, hy⟩ : ∃ y, m[k]? = some y := ⟨_, List.getElem?_eq_getElem (by omega)⟩
        obtain ⟨b1, o1, rfl, l1⟩ := ha.at1 (i := k) (v := .i .i64 x) (by rw [List.getElem?_map, hx]; rfl)
        obtain ⟨b2, o2, rfl, l2⟩ := hb.at1 (i := k) (v := .i .i64 y) (by rw [List.getElem?_map, hy]; rfl)
        rw [Nat.mul_one] at l1 l2
        rw [hx, hy]
        by_cases e : x = y
        · have q1 := s_eqT e
          simp (config := { maxSteps := 2000000 }) -implicitDefEqProofs (disch := (first | omega | rfl | assumption | (simp only [rsD]; first | omega | assumption))) only [haymowref02_Same_L1, l1, l2, q1, Nat.reduceAdd, Nat.reduceMul, Nat.reduceLT, Int.reduceToNat, Int.reduceAdd, Int.reduceSub, Int.reduceMul, rsU, rsC]
          exact Ok_some.2 (by rw [if_pos (by rw [e])]; simp)
        · have q1 := s_eqF e
          simp (config := { maxSteps := 2000000 }) -implicitDefEqProofs (disch := (first | omega | rfl | assumption | (simp only [rsD]; first | omega | assumption))) only [haymowref02_Same_L1, l1, l2, q1, Nat.reduceAdd, Nat.reduceMul, Nat.reduceLT, Int.reduceToNat, Int.reduceAdd, Int.reduceSub, Int.reduceMul, rsU, rsC]
          exact Ok_some.2 (by rw [if_neg (by simp [e])]; exact fun h => .inr ⟨h, rfl⟩)
      · rintro s rfl
        simp (config := { maxSteps := 2000000 }) -implicitDefEqProofs (disch := (first | omega | rfl | assumption | (simp only [rsD]; first | omega | assumption))) only [haymowref02_Same_L1, Nat.reduceAdd, Nat.reduceMul, Nat.reduceLT, Int.reduceToNat, Int.reduceAdd, Int.reduceSub, Int.reduceMul, rsU, rsC]
        exact Ok_some.2 fun h => .inl ⟨h, rfl⟩
    · rintro s (⟨e, hs⟩ | ⟨_, hs⟩)
      · cases hs
        exact Ok_some.2 (by simp [e])
      · cases hs
    · rintro r (⟨_, hs⟩ | ⟨e, hs⟩)
      · cases hs
      · cases hs; simp [e]
  · have q0 : ((l.length : Int) == (m.length : Int)) = false := s_eqF (by omega)
    simp (config := { maxSteps := 2000000 }) -implicitDefEqProofs (disch := (first | omega | rfl | assumption | (simp only [rsD]; first | omega | assumption))) only [haymowref02_Same, haymowref02_Same_c, q0, Nat.reduceAdd, Nat.reduceMul, Nat.reduceLT, Int.reduceToNat, Int.reduceAdd, Int.reduceSub, Int.reduceMul, rsU, rsC]
    exact Ok_some.2 (by rw [decide_eq_false (fun e => c (by rw [e]))])
/-- records that can be read -/
def RdR (σ : AH O) (a : SA) (l : List (List Int)) : Prop := ∀ (i : Nat) (r : List Int), l[i]? = some r → ∃ b o s, a = .loc b o 1 ∧ σ.ld b (o + i) = some (.sl s r.length) ∧ Rd σ 1 s r.length (r.map (AV.i .i64))
theorem Recs.rd {σ : AH O} {a : SA} {l : List (List Int)} (h : Recs a l) : RdR σ a l := fun i r hr => by
  obtain ⟨b, o, us, e, h1, h2⟩ := h.get hr
  obtain ⟨s, rfl, h3⟩ := rrow_un h1
  have := h2 O σ 0 (by decide)
  rw [Nat.mul_one, Nat.add_zero] at this
  exact ⟨b, o, s, e, this, h3.imm O σ⟩
theorem same_ok {σ : AH O} {a b : SA} {l : List (List Int)} (ha : RdR σ a l) (hb : RdR σ b l) (hl : l.length ≤ 100000) (hr : ∀ r ∈ l, r.length ≤ 100000) : Ok (law44_same [.sl a l.length, .sl b l.length] σ) fun r => r = (.b true, σ) := by
  have q0 : ((l.length : Int) == (l.length : Int)) = true := s_eqT rfl
  simp (config := { maxSteps := 2000000 }) -implicitDefEqProofs (disch := (first | omega | rfl | assumption | (simp only [rsD]; first | omega | assumption))) only [law44_same, law44_same_c, q0, Nat.reduceAdd, Nat.reduceMul, Nat.reduceLT, Int.reduceToNat, Int.reduceAdd, Int.reduceSub, Int.reduceMul, rsU, rsC]
  refine Ok.bindS (Q := fun r => r = .inl ([], σ)) ?_ ?_ ?_
  · refine Ok.count l.length (fun k s => s = ([.i .i64 (k : Int)], σ)) ?_ ?_ rfl
    · rintro k s hk rfl
      have hx := List.getElem?_eq_getElem hk
      generalize l[k] = x at hx
      have fx := hr x (List.mem_of_getElem? hx)
      obtain ⟨b1, o1, s1, rfl, l1, r1⟩ := ha k x hx
      obtain ⟨b2, o2, s2, rfl, l2, r2⟩ := hb k x hx
      simp (config := { maxSteps := 2000000 }) -implicitDefEqProofs (disch := (first | omega | rfl | assumption | (simp only [rsD]; first | omega | assumption))) only [law44_same_L1, l1, l2, Nat.reduceAdd, Nat.reduceMul, Nat.reduceLT, Int.reduceToNat, Int.reduceAdd, Int.reduceSub, Int.reduceMul, rsU, rsC]
      refine Ok.step (rsame r1 r2 fx fx) fun r g => ?_
      subst g
      have q1 := decide_eq_true (show x = x from rfl)
      simp (config := { maxSteps := 2000000 }) -implicitDefEqProofs (disch := (first | omega | rfl | assumption | (simp only [rsD]; first | omega | assumption))) only [q1, Nat.reduceAdd, Nat.reduceMul, Nat.reduceLT, Int.reduceToNat, Int.reduceAdd, Int.reduceSub, Int.reduceMul, rsU, rsC]
      exact Ok_some.2 (by simp)
    · rintro s rfl
      simp (config := { maxSteps := 2000000 }) -implicitDefEqProofs (disch := (first | omega | rfl | assumption | (simp only [rsD]; first | omega | assumption))) only [law44_same_L1, Nat.reduceAdd, Nat.reduceMul, Nat.reduceLT, Int.reduceToNat, Int.reduceAdd, Int.reduceSub, Int.reduceMul, rsU, rsC]
      exact Ok_some.2 rfl
  · rintro s hs
    cases hs
    exact Ok_some.2 rfl
  · rintro r hs
    cases hs
theorem awake44_ok {σ : AH O} : Ok (law44_awake [] σ) fun r => r.1 = .b true ∧ Ext σ r.2 := by
  simp (config := { maxSteps := 2000000 }) -implicitDefEqProofs (disch := (first | omega | rfl | assumption | (simp only [rsD]; first | omega | assumption))) only [law44_awake, law44_awake_c, Nat.reduceAdd, Nat.reduceMul, Nat.reduceLT, Int.reduceToNat, Int.reduceAdd, Int.reduceSub, Int.reduceMul, rsU, rsC]
  refine Ok.step lload_ok fun r ⟨⟨⟨a, g1, g2⟩, g0⟩, g3⟩ => ?_
  obtain ⟨q, σ1⟩ := r
  simp only at g1 g0 g3
  subst g1
  have n3 := g3.next
  simp only [rsD] at n3
  have e : list_ 0 3 = [[1], [1], [2, 1]] := rfl
  rw [e] at g2
  simp (config := { maxSteps := 2000000 }) -implicitDefEqProofs (disch := (first | omega | rfl | assumption | (simp only [rsD]; first | omega | assumption))) only [e, Nat.reduceAdd, Nat.reduceMul, Nat.reduceLT, Int.reduceToNat, Int.reduceAdd, Int.reduceSub, Int.reduceMul, rsU, rsC]
  generalize hσ : AH.put _ (σ.next + 1 + 1 + 1) _ = σ2
  have E : Ext σ σ2 := by rw [← hσ]; exact (ext_of (by (have x0 := (g3).next); (try simp only [rsD] at *); omega) (fun b hb => by (have x0 := (g3).next); (try simp only [rsD] at *); simp -implicitDefEqProofs (disch := (first | omega | rfl | assumption | (simp only [rsD]; first | omega | assumption))) only [s_bn, s_kn, bump_blk, s_ext (g3)]))
  have b0 : σ2.blk σ.next = some (.cells true 3 [.i .i64 1]) := by rw [← hσ]; ((try simp only [rsD] at *); simp -implicitDefEqProofs (disch := (first | omega | rfl | assumption | (simp only [rsD]; first | omega | assumption))) only [s_bs, s_bn, s_kn, bump_blk])
  have b1 : σ2.blk (σ.next + 1) = some (.cells true 3 [.i .i64 1]) := by rw [← hσ]; ((try simp only [rsD] at *); simp -implicitDefEqProofs (disch := (first | omega | rfl | assumption | (simp only [rsD]; first | omega | assumption))) only [s_bs, s_bn, s_kn, bump_blk])
  have b2 : σ2.blk (σ.next + 1 + 1) = some (.cells true 3 [.i .i64 2, .i .i64 1]) := by rw [← hσ]; ((try simp only [rsD] at *); simp -implicitDefEqProofs (disch := (first | omega | rfl | assumption | (simp only [rsD]; first | omega | assumption))) only [s_bs, s_bn, s_kn, bump_blk])
  have b3 : σ2.blk (σ.next + 1 + 1 + 1) = some (.cells true 24 [.sl (.loc (.n σ.next) 0 1) 1, .sl (.loc (.n (σ.next + 1)) 0 1) 1, .sl (.loc (.n (σ.next + 1 + 1)) 0 1) 2]) := by rw [← hσ]; exact s_bs
  have n2 : σ2.next = σ1.next := by rw [← hσ]; rfl
  clear hσ
  have r2 : RdR σ2 (.loc (.n (σ.next + 1 + 1 + 1)) 0 1) [[1], [1], [2, 1]] := by
    have o0 : OwnS σ2 3 1 (.loc (.n σ.next) 0 1) 1 [.i .i64 1] := OwnS.new rfl b0 (by omega)
    have o1 : OwnS σ2 3 1 (.loc (.n (σ.next + 1)) 0 1) 1 [.i .i64 1] := OwnS.new rfl b1 (by omega)
    have o2 : OwnS σ2 3 1 (.loc (.n (σ.next + 1 + 1)) 0 1) 2 [.i .i64 2, .i .i64 1] := OwnS.new rfl b2 (by omega)
    intro i r hr
    match i, hr with
    | 0, hr => simp at hr; subst hr; exact ⟨_, _, _, rfl, by rw [s_ld, b3]; rfl, o0.rd⟩
    | 1, hr => simp at hr; subst hr; exact ⟨_, _, _, rfl, by rw [s_ld, b3]; rfl, o1.rd⟩
    | 2, hr => simp at hr; subst hr; exact ⟨_, _, _, rfl, by rw [s_ld, b3]; rfl, o2.rd⟩
    | i + 3, hr => simp at hr
  refine Ok.step (same_ok (l := [[1], [1], [2, 1]]) g2.rd r2 (by decide) (by decide)) fun r g => ?_
  subst g
  simp (config := { maxSteps := 2000000 }) -implicitDefEqProofs (disch := (first | omega | rfl | assumption | (simp only [rsD]; first | omega | assumption))) only [Nat.reduceAdd, Nat.reduceMul, Nat.reduceLT, Int.reduceToNat, Int.reduceAdd, Int.reduceSub, Int.reduceMul, rsU, rsC]
  exact Ok_some.2 ⟨rfl, E⟩
theorem list_w (n site : Int) : ∀ r ∈ list_ n site, r.length ≤ 100000 := by
  intro r hr
  unfold list_ at hr
  split at hr
  · simp at hr
  · simp only [ones, one_, List.mem_append, List.mem_cons, List.not_mem_nil, or_false, List.mem_flatMap] at hr
    rcases hr with ((rfl | rfl) | ⟨i, _, rfl | rfl | rfl | rfl⟩) | rfl <;> simp
theorem ring_w (n site : Int) : ∀ r ∈ ring_ n site, r.length ≤ 100000 := by
  intro r hr
  unfold ring_ at hr
  split at hr
  · exact list_w n site r hr
  · simp only [onesB, one_, List.mem_append, List.mem_cons, List.not_mem_nil, or_false, List.mem_flatMap] at hr
    rcases hr with ((((rfl | rfl | rfl) | rfl | rfl | rfl | rfl) | rfl) | ⟨i, _, rfl | rfl | rfl | rfl⟩) | rfl | rfl | rfl <;> simp
theorem ring_len (n site : Int) : (ring_ n site).length ≤ 100000 := by
  unfold ring_
  split
  · have := list_len n site; omega
  · simp only [List.length_append, onesB_len]; simp [one_]; omega
theorem tree_w (site : Int) : ∀ (d : Nat) (slot : Int), ∀ r ∈ tree_ site d slot, r.length ≤ 100000
  | 0, slot, r, hr => by simp [tree_] at hr; subst hr; simp
  | d + 1, slot, r, hr => by
    simp only [tree_, List.mem_append, List.mem_cons, List.not_mem_nil, or_false] at hr
    rcases hr with (hr | hr) | rfl | rfl | rfl | rfl
    · exact tree_w site d _ r hr
    · exact tree_w site d _ r hr
    all_goals simp
theorem treeS_w (d site : Int) : ∀ r ∈ treeS d site, r.length ≤ 100000 := by
  intro r hr
  unfold treeS at hr
  split at hr
  · simp at hr
  · simp only [List.mem_append, List.mem_cons, List.not_mem_nil, or_false] at hr
    rcases hr with ((rfl | rfl) | hr) | rfl | rfl
    · simp
    · simp
    · exact tree_w site _ _ r hr
    · simp
    · simp
theorem treeS_len (d site : Int) : (treeS d site).length ≤ 100000 := by
  unfold treeS
  split
  · simp
  · have := tree_small site (d := d.toNat) (by omega) 0
    simp only [List.length_append]; simp; omega
theorem loadScripts_ok {σ : AH O} {F : Nat} (hF : 8 ≤ F) {n d site : Int} : Ok (law44_LoadScripts F [.i .i64 n, .i .i64 d, .i .i64 site] σ) fun r => r.1 = .b true := by
  simp (config := { maxSteps := 2000000 }) -implicitDefEqProofs (disch := (first | omega | rfl | assumption | (simp only [rsD]; first | omega | assumption))) only [law44_LoadScripts, law44_LoadScripts_c, Nat.reduceAdd, Nat.reduceMul, Nat.reduceLT, Int.reduceToNat, Int.reduceAdd, Int.reduceSub, Int.reduceMul, rsU, rsC]
  refine Ok.step awake44_ok fun r ⟨g1, _⟩ => ?_
  obtain ⟨q, σ1⟩ := r
  simp only at g1
  subst g1
  simp (config := { maxSteps := 2000000 }) -implicitDefEqProofs (disch := (first | omega | rfl | assumption | (simp only [rsD]; first | omega | assumption))) only [Nat.reduceAdd, Nat.reduceMul, Nat.reduceLT, Int.reduceToNat, Int.reduceAdd, Int.reduceSub, Int.reduceMul, rsU, rsC]
  refine Ok.step lload_ok fun r ⟨⟨⟨a, g1, g2⟩, _⟩, _⟩ => ?_
  obtain ⟨q, σ2⟩ := r
  simp only at g1
  subst g1
  simp (config := { maxSteps := 2000000 }) -implicitDefEqProofs (disch := (first | omega | rfl | assumption | (simp only [rsD]; first | omega | assumption))) only [Nat.reduceAdd, Nat.reduceMul, Nat.reduceLT, Int.reduceToNat, Int.reduceAdd, Int.reduceSub, Int.reduceMul, rsU, rsC]
  refine Ok.step rlist_ok fun r ⟨⟨b, g1, g3⟩, _⟩ => ?_
  obtain ⟨q, σ3⟩ := r
  simp only at g1
  subst g1
  simp (config := { maxSteps := 2000000 }) -implicitDefEqProofs (disch := (first | omega | rfl | assumption | (simp only [rsD]; first | omega | assumption))) only [Nat.reduceAdd, Nat.reduceMul, Nat.reduceLT, Int.reduceToNat, Int.reduceAdd, Int.reduceSub, Int.reduceMul, rsU, rsC]
  refine Ok.step (same_ok g2.rd g3.rd (by have := list_len n site; omega) (list_w n site)) fun r g => ?_
  subst g
  simp (config := { maxSteps := 2000000 }) -implicitDefEqProofs (disch := (first | omega | rfl | assumption | (simp only [rsD]; first | omega | assumption))) only [Nat.reduceAdd, Nat.reduceMul, Nat.reduceLT, Int.reduceToNat, Int.reduceAdd, Int.reduceSub, Int.reduceMul, rsU, rsC]
  refine Ok.step lring_ok fun r ⟨⟨a, g1, g2⟩, _⟩ => ?_
  obtain ⟨q, σ4⟩ := r
  simp only at g1
  subst g1
  simp (config := { maxSteps := 2000000 }) -implicitDefEqProofs (disch := (first | omega | rfl | assumption | (simp only [rsD]; first | omega | assumption))) only [Nat.reduceAdd, Nat.reduceMul, Nat.reduceLT, Int.reduceToNat, Int.reduceAdd, Int.reduceSub, Int.reduceMul, rsU, rsC]
  refine Ok.step rring_ok fun r ⟨⟨b, g1, g3⟩, _⟩ => ?_
  obtain ⟨q, σ5⟩ := r
  simp only at g1
  subst g1
  simp (config := { maxSteps := 2000000 }) -implicitDefEqProofs (disch := (first | omega | rfl | assumption | (simp only [rsD]; first | omega | assumption))) only [Nat.reduceAdd, Nat.reduceMul, Nat.reduceLT, Int.reduceToNat, Int.reduceAdd, Int.reduceSub, Int.reduceMul, rsU, rsC]
  refine Ok.step (same_ok g2.rd g3.rd (ring_len n site) (ring_w n site)) fun r g => ?_
  subst g
  simp (config := { maxSteps := 2000000 }) -implicitDefEqProofs (disch := (first | omega | rfl | assumption | (simp only [rsD]; first | omega | assumption))) only [Nat.reduceAdd, Nat.reduceMul, Nat.reduceLT, Int.reduceToNat, Int.reduceAdd, Int.reduceSub, Int.reduceMul, rsU, rsC]
  refine Ok.step (ltreeS_ok hF) fun r ⟨⟨a, g1, g2⟩, _⟩ => ?_
  obtain ⟨q, σ6⟩ := r
  simp only at g1
  subst g1
  simp (config := { maxSteps := 2000000 }) -implicitDefEqProofs (disch := (first | omega | rfl | assumption | (simp only [rsD]; first | omega | assumption))) only [Nat.reduceAdd, Nat.reduceMul, Nat.reduceLT, Int.reduceToNat, Int.reduceAdd, Int.reduceSub, Int.reduceMul, rsU, rsC]
  refine Ok.step (rtreeS_ok hF) fun r ⟨⟨b, g1, g3⟩, _⟩ => ?_
  obtain ⟨q, σ7⟩ := r
  simp only at g1
  subst g1
  simp (config := { maxSteps := 2000000 }) -implicitDefEqProofs (disch := (first | omega | rfl | assumption | (simp only [rsD]; first | omega | assumption))) only [Nat.reduceAdd, Nat.reduceMul, Nat.reduceLT, Int.reduceToNat, Int.reduceAdd, Int.reduceSub, Int.reduceMul, rsU, rsC]
  refine Ok.step (same_ok g2.rd g3.rd (treeS_len d site) (treeS_w d site)) fun r g => ?_
  subst g
  simp (config := { maxSteps := 2000000 }) -implicitDefEqProofs (disch := (first | omega | rfl | assumption | (simp only [rsD]; first | omega | assumption))) only [Nat.reduceAdd, Nat.reduceMul, Nat.reduceLT, Int.reduceToNat, Int.reduceAdd, Int.reduceSub, Int.reduceMul, rsU, rsC]
  exact Ok_some.2 rfl
end Go.Abs.Try
