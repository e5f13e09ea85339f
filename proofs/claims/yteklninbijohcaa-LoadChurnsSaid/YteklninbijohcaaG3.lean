/-
  Layer 44: the script of a list, as the program makes it. No conditions.
-/
import Derived.Test.YteklninbijohcaaG2
set_option linter.unusedVariables false
set_option linter.unusedSimpArgs false
set_option linter.constructorNameAsVariable false
set_option linter.unusedSimpArgs false
set_option linter.unusedVariables false
set_option linter.unusedSectionVars false
set_option maxHeartbeats 1000000
namespace Go.Abs.Try
open Go Go.Abs
variable {O : Type}

theorem range_out {n : Int} {k : Int} (c : n < 0 ∨ n > k) : (bif !decide (n < 0) then decide (n > k) else true) = true := by
  rcases c with c | c
  · rw [decide_eq_true c]; rfl
  · rw [decide_eq_true c]; cases decide (n < 0) <;> rfl
theorem lload_out {σ : AH O} {n site : Int} (c : n < 0 ∨ n > 200) : load_List [.i .i64 n, .i .i64 site] σ = some (.sl .nil 0, σ) := by
  have cc := range_out c
  simp (config := { maxSteps := 2000000 }) -implicitDefEqProofs (disch := (first | omega | rfl | assumption | (simp only [rsD]; first | omega | assumption))) only [load_List, frz, load_List_c, cc, Nat.reduceAdd, Nat.reduceMul, Nat.reduceLT, Int.reduceToNat, Int.reduceAdd, Int.reduceSub, Int.reduceMul, rsU, rsC]
  rfl
theorem Made.trans {base mb : Nat} {σ σ1 σ2 : AH O} {L L' : List (List Int)} (h : Made base σ mb L σ1) (k : Made base σ1 mb L' σ2) : Made base σ mb L' σ2 :=
  ⟨k.m, Nat.le_trans h.n k.n, fun b hb hn => (k.o b hb hn).trans (h.o b hb hn)⟩
theorem Mk.start {σ : AH O} {el : Nat} : Mk (σ.next + 1) ((σ.bump 1).put σ.next (.cells true el [.sl .nil 0])) σ.next [] :=
  ⟨⟨.nil, el, s_bs, BldO.nil _ _ _ rrow_len⟩, by omega, by simp⟩
/-- what was gathered is given back -/
theorem Made.out {base mb : Nat} {σ0 σ1 σ : AH O} {L : List (List Int)} (h : Made base σ1 mb L σ) (e : Ext σ0 σ1) (h1 : σ0.next ≤ mb) : ∃ a el, σ.blk mb = some (.cells true el [.sl a L.length]) ∧ New σ0 σ [.sl 24 1 L.length (L.flatMap rrow)] [.sl a L.length] := by
  obtain ⟨⟨⟨a, el, h2, B⟩, hlt, htop⟩, hn, ho⟩ := h
  have he := e.next
  exact ⟨a, el, h2, B.out ⟨by omega, fun b hb => (ho b (by omega) (by omega)).trans (e.blk b hb)⟩ (by omega)⟩
/-- the four calls of an object -/
theorem lload_loop {σ1 : AH O} {mb base m : Nat} {site : Int} {r2 : List AV × AH O} (hr : r2.2.next = mb) {pre : List (List Int)} (hp : pre.length ≤ 100) (hm : m ≤ 200) (M : Mk base σ1 mb pre) :
    Ok (loopF (S := List AV × AH O) (T := List AV × AH O) (load_List_L1 (m : Int) site load_maker__add r2) ([.i .i64 0], σ1)) fun r => ∃ σ', r = ([], σ') ∧ Made base σ1 mb (pre ++ ones m site) σ' := by
  refine Ok.count m (fun k s => ∃ σ', s = ([.i .i64 (k : Int)], σ') ∧ Made base σ1 mb (pre ++ ones k site) σ') ?_ ?_ ⟨σ1, rfl, by simpa [ones] using M, Nat.le_refl _, fun _ _ _ => rfl⟩
  · rintro k s hk ⟨σ2, rfl, D⟩
    have hl : (pre ++ ones k site).length ≤ 1000 := by rw [List.length_append, ones_len]; omega
    have eq : pre ++ ones (k + 1) site = pre ++ ones k site ++ [[0, 1, 1, 1, site]] ++ [[13, 1, 0, (k : Int)]] ++ [[11, 1, 0, 0]] ++ [[8, 0, 1]] := by
      rw [ones_succ, ← List.append_assoc]; simp [one_]
    rw [eq]
    clear eq
    generalize pre ++ ones k site = Lk at *
    simp (config := { maxSteps := 2000000 }) -implicitDefEqProofs (disch := (first | omega | rfl | assumption | (simp only [rsD]; first | omega | assumption))) only [load_List_L1, hr, Nat.reduceAdd, Nat.reduceMul, Nat.reduceLT, Int.reduceToNat, Int.reduceAdd, Int.reduceSub, Int.reduceMul, rsU, rsC]
    refine Ok.step (add_new (args := [1, 1, 1, site]) D.m (by omega) (by simp) rfl) fun r ⟨g1, g2⟩ => ?_
    obtain ⟨q, σ3⟩ := r
    simp only at g1 g2
    subst g1
    simp (config := { maxSteps := 2000000 }) -implicitDefEqProofs (disch := (first | omega | rfl | assumption | (simp only [rsD]; first | omega | assumption))) only [Nat.reduceAdd, Nat.reduceMul, Nat.reduceLT, Int.reduceToNat, Int.reduceAdd, Int.reduceSub, Int.reduceMul, rsU, rsC]
    refine Ok.step (add_new (args := [1, 0, (k : Int)]) g2.m (by simp; omega) (by simp) rfl) fun r ⟨g1, g3⟩ => ?_
    obtain ⟨q, σ4⟩ := r
    simp only at g1 g3
    subst g1
    simp (config := { maxSteps := 2000000 }) -implicitDefEqProofs (disch := (first | omega | rfl | assumption | (simp only [rsD]; first | omega | assumption))) only [Nat.reduceAdd, Nat.reduceMul, Nat.reduceLT, Int.reduceToNat, Int.reduceAdd, Int.reduceSub, Int.reduceMul, rsU, rsC]
    refine Ok.step (add_new (args := [1, 0, 0]) g3.m (by simp; omega) (by simp) rfl) fun r ⟨g1, g4⟩ => ?_
    obtain ⟨q, σ5⟩ := r
    simp only at g1 g4
    subst g1
    simp (config := { maxSteps := 2000000 }) -implicitDefEqProofs (disch := (first | omega | rfl | assumption | (simp only [rsD]; first | omega | assumption))) only [Nat.reduceAdd, Nat.reduceMul, Nat.reduceLT, Int.reduceToNat, Int.reduceAdd, Int.reduceSub, Int.reduceMul, rsU, rsC]
    refine Ok.step (add_new (args := [0, 1]) g4.m (by simp; omega) (by simp) rfl) fun r ⟨g1, g5⟩ => ?_
    obtain ⟨q, σ6⟩ := r
    simp only at g1 g5
    subst g1
    simp (config := { maxSteps := 2000000 }) -implicitDefEqProofs (disch := (first | omega | rfl | assumption | (simp only [rsD]; first | omega | assumption))) only [Nat.reduceAdd, Nat.reduceMul, Nat.reduceLT, Int.reduceToNat, Int.reduceAdd, Int.reduceSub, Int.reduceMul, rsU, rsC]
    exact Ok_some.2 ⟨σ6, by simp, D.trans (g2.trans (g3.trans (g4.trans g5)))⟩
  · rintro s ⟨σ2, rfl, D⟩
    simp (config := { maxSteps := 2000000 }) -implicitDefEqProofs (disch := (first | omega | rfl | assumption | (simp only [rsD]; first | omega | assumption))) only [load_List_L1, Nat.reduceAdd, Nat.reduceMul, Nat.reduceLT, Int.reduceToNat, Int.reduceAdd, Int.reduceSub, Int.reduceMul, rsU, rsC]
    exact Ok_some.2 ⟨σ2, rfl, D⟩
theorem Row.some {α : Type} {row : α → List TV} {k : Nat} {a : SA} {l : List α} (h : Row row k a l) (hl : l ≠ []) : SA.isNil a = false := by
  cases hn : SA.isNil a with
  | false => rfl
  | true => exact absurd (h.isNil hn).2 hl
theorem lload_in {σ : AH O} {m : Nat} (hm : m ≤ 200) {site : Int} : Ok (load_List [.i .i64 (m : Int), .i .i64 site] σ) fun r => Script r.1 (list_ (m : Int) site) ∧ Ext σ r.2 := by
  have fin : Ok (load_List [.i .i64 (m : Int), .i .i64 site] σ) fun r => Im (.sl 24 1 (list_ (m : Int) site).length ((list_ (m : Int) site).flatMap rrow)) r.1 ∧ Ext σ r.2 := by
    refine frz_sl (recs_deep _ _ _ 5 _) ?_
    have c : ¬ ((m : Int) < 0 ∨ (m : Int) > 200) := by omega
    have e : list_ m site = [] ++ [[1]] ++ [[1]] ++ ones m site ++ [[2, 1]] := by unfold list_; rw [if_neg c, Int.toNat_natCast]; rfl
    have c1 := decide_eq_false (show ¬ ((m : Int) < 0) by omega)
    have c2 := decide_eq_false (show ¬ ((m : Int) > 200) by omega)
    simp (config := { maxSteps := 2000000 }) -implicitDefEqProofs (disch := (first | omega | rfl | assumption | (simp only [rsD]; first | omega | assumption))) only [load_List_c, c1, c2, Nat.reduceAdd, Nat.reduceMul, Nat.reduceLT, Int.reduceToNat, Int.reduceAdd, Int.reduceSub, Int.reduceMul, rsU, rsC]
    refine Ok.step (add_nil Mk.start (by simp)) fun r ⟨g1, g2⟩ => ?_
    obtain ⟨q, σ1⟩ := r
    simp only at g1 g2
    subst g1
    simp (config := { maxSteps := 2000000 }) -implicitDefEqProofs (disch := (first | omega | rfl | assumption | (simp only [rsD]; first | omega | assumption))) only [Nat.reduceAdd, Nat.reduceMul, Nat.reduceLT, Int.reduceToNat, Int.reduceAdd, Int.reduceSub, Int.reduceMul, rsU, rsC]
    refine Ok.step (add_nil g2.m (by simp)) fun r ⟨g1, g3⟩ => ?_
    obtain ⟨q, σ2⟩ := r
    simp only at g1 g3
    subst g1
    simp (config := { maxSteps := 2000000 }) -implicitDefEqProofs (disch := (first | omega | rfl | assumption | (simp only [rsD]; first | omega | assumption))) only [Nat.reduceAdd, Nat.reduceMul, Nat.reduceLT, Int.reduceToNat, Int.reduceAdd, Int.reduceSub, Int.reduceMul, rsU, rsC]
    refine Ok.step (lload_loop rfl (by simp) hm g3.m) ?_
    rintro _ ⟨σ3, rfl, g4⟩
    simp (config := { maxSteps := 2000000 }) -implicitDefEqProofs (disch := (first | omega | rfl | assumption | (simp only [rsD]; first | omega | assumption))) only [Nat.reduceAdd, Nat.reduceMul, Nat.reduceLT, Int.reduceToNat, Int.reduceAdd, Int.reduceSub, Int.reduceMul, rsU, rsC]
    have hl := ones_len site m
    refine Ok.step (add_new (args := [1]) g4.m (by simp; omega) (by simp) rfl) fun r ⟨g1, g5⟩ => ?_
    obtain ⟨q, σ4⟩ := r
    simp only at g1 g5
    subst g1
    obtain ⟨a, el, h1, h2⟩ := (g2.trans (g3.trans (g4.trans g5))).out (σ0 := σ) (ext_of (by (try simp only [rsD] at *); omega) (fun b hb => by (try simp only [rsD] at *); simp -implicitDefEqProofs (disch := (first | omega | rfl | assumption | (simp only [rsD]; first | omega | assumption))) only [s_bn, s_kn, bump_blk])) (Nat.le_refl _)
    rw [← e] at h1 h2
    simp (config := { maxSteps := 2000000 }) -implicitDefEqProofs (disch := (first | omega | rfl | assumption | (simp only [rsD]; first | omega | assumption))) only [h1, Nat.reduceAdd, Nat.reduceMul, Nat.reduceLT, Int.reduceToNat, Int.reduceAdd, Int.reduceSub, Int.reduceMul, rsU, rsC]
    exact Ok_some.2 h2
  refine fin.mono ?_
  rintro ⟨v, σ'⟩ ⟨h1, h2⟩
  obtain ⟨a, g1, g2⟩ := Row.of rrow_len h1 rfl
  exact ⟨⟨a, g1, g2⟩, h2⟩
theorem lload_ok {σ : AH O} {n site : Int} : Ok (load_List [.i .i64 n, .i .i64 site] σ) fun r => (Script r.1 (list_ n site) ∧ ((n < 0 ∨ n > 200) → r.1 = .sl .nil 0)) ∧ Ext σ r.2 := by
  by_cases c : n < 0 ∨ n > 200
  · rw [lload_out c]
    have e : list_ n site = [] := if_pos c
    rw [e]
    exact Ok_some.2 ⟨⟨⟨.nil, rfl, Row.nil rrow_len⟩, fun _ => rfl⟩, Ext.refl σ⟩
  · obtain ⟨m, rfl⟩ : ∃ m : Nat, n = m := ⟨n.toNat, by omega⟩
    exact (lload_in (by omega)).mono fun r h => ⟨⟨h.1, fun hc => absurd hc c⟩, h.2⟩
end Go.Abs.Try
