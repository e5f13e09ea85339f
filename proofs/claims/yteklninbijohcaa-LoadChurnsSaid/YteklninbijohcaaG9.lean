/-
  The statement LoadChurns: what is run returns true. No conditions.
-/
import Derived.Test.YteklninbijohcaaG8
set_option linter.unusedVariables false
set_option linter.unusedSimpArgs false
set_option linter.constructorNameAsVariable false
set_option linter.unusedSimpArgs false
set_option linter.unusedVariables false
set_option linter.unusedSectionVars false
set_option maxHeartbeats 1000000
namespace Go.Abs.Try
open Go Go.Abs
variable {O : Type}

theorem add_blk {σ : AH O} {mb base el v : Nat} {L : List (List Int)} {k : Int} {args : List Int} {n : Nat} (h : Mk base σ mb L) (hv : σ.blk v = some (.cells true el (args.map (AV.i .i64)))) (hlt : v < σ.next) (hl : L.length ≤ 1000000) (ha : args.length ≤ 1000000) (hn : n = args.length) :
    Ok (load_maker__add [.p (some (.n mb, 0)), .i .i64 k, .sl (.loc (.n v) 0 1) n] σ) fun r => r.1 = .tup [] ∧ Made base σ mb (L ++ [k :: args]) r.2 := by
  subst hn
  have own : OwnS σ el 1 (.loc (.n v) 0 1) args.length (args.map (AV.i .i64)) := OwnS.new (by simp) hv hlt
  exact add_ok h own.rd own.lt hl ha
/-- the maker and the dice -/
structure Ch (base : Nat) (σ : AH O) (mb db : Nat) (L : List (List Int)) (s : Int) : Prop where
  m : Mk base σ mb L
  d : ∃ el, σ.blk db = some (.cells true el [.i .u64 s])
  lt : db < base ∧ db ≠ mb
theorem lchurn_step {σ : AH O} {mb db base k n : Nat} {L : List (List Int)} {h s : Int} {r7 : List AV × AH O} (hr7 : r7.2.next = mb) (C : Ch base σ mb db L s) (hh : 1 ≤ h ∧ h ≤ 200) (hk : k < n) (hn : n ≤ 200) (hL : L.length ≤ 1000) :
    Ok (load_Churn_L2 (n : Int) load_Dice__Below (some (.n db, 0)) h load_maker__add r7 ([.i .i64 (k : Int)], σ)) fun r => ∃ σ', r = .inl ([.i .i64 ((k + 1 : Nat) : Int)], σ') ∧ Ch base σ' mb db (L ++ [(churn1 h s).1]) (churn1 h s).2 ∧ σ.next ≤ σ'.next ∧ ∀ b, b < base → b ≠ mb → b ≠ db → σ'.blk b = σ.blk b := by
  obtain ⟨M, ⟨el, hd⟩, hdb, hne⟩ := C
  have htop := M.top
  have hmb := M.lt
  have q1 := dbelow (σ := σ) (n := h) hd (by omega)
  have q2 := dbelow (σ := σ.put db (.cells true el [.i .u64 (nxt s)])) (n := h) s_bs (by omega)
  have q3 := dbelow (σ := σ.put db (.cells true el [.i .u64 (nxt (nxt s))])) (n := 8) s_bs (by omega)
  rw [s_pp] at q2 q3
  -- behind an 'add'
  have fin : ∀ (σ1 : AH O) (v : Nat) (kind : Int) (args : List Int) (s' : Int) (m : Nat), m = args.length → args.length ≤ 10 → σ.next ≤ σ1.next → v = σ.next → v < σ1.next → σ1.blk v = some (.cells true 3 (args.map (AV.i .i64))) → σ1.blk db = some (.cells true el [.i .u64 s']) → (∀ b, b ≠ v → b ≠ db → σ1.blk b = σ.blk b) →
      Ok (load_maker__add [.p (some (.n mb, 0)), .i .i64 kind, .sl (.loc (.n v) 0 1) m] σ1) fun r => r.1 = .tup [] ∧ Ch base r.2 mb db (L ++ [kind :: args]) s' ∧ σ.next ≤ r.2.next ∧ ∀ b, b < base → b ≠ mb → b ≠ db → r.2.blk b = σ.blk b := by
    intro σ1 v kind args s' m hm ha n1 hv hv1 h1 h2 h3
    have M1 : Mk base σ1 mb L := M.keep n1 (h3 mb (by omega) (fun e => hne e.symm)) fun b hb1 hb2 => h3 b (by omega) (by omega)
    refine (add_blk M1 h1 hv1 (by omega) (by omega) hm).mono ?_
    rintro ⟨z, σ2⟩ ⟨g1, g2⟩
    simp only at g1 g2
    exact ⟨g1, ⟨g2.m, ⟨el, (g2.o db hdb hne).trans h2⟩, hdb, hne⟩, by have := g2.n; show σ.next ≤ σ2.next; omega, fun b hb e1 e2 => (g2.o b hb e1).trans (h3 b (by omega) e2)⟩
  unfold churn1
  generalize ht : below (nxt (nxt (nxt s))) 8 = t at *
  by_cases c1 : t = 0 ∨ t = 1 ∨ t = 2
  · rw [if_pos c1]
    have q : (bif t == 0 then (t == 0) else bif t == 1 then (t == 1) else (t == 2)) = true := by rcases c1 with rfl | rfl | rfl <;> rfl
    have p1 := dbelow (σ := (σ.put db (.cells true el [.i .u64 (nxt (nxt (nxt s)))])).bump 1) (n := 4) s_bs (by omega)
    have p2 := dbelow (σ := ((σ.put db (.cells true el [.i .u64 (nxt (nxt (nxt s)))])).bump 1).put db (.cells true el [.i .u64 (nxt (nxt (nxt (nxt s))))])) (n := 12) s_bs (by omega)
    have p3 := dbelow (σ := ((σ.put db (.cells true el [.i .u64 (nxt (nxt (nxt s)))])).bump 1).put db (.cells true el [.i .u64 (nxt (nxt (nxt (nxt (nxt s)))))])) (n := 4) s_bs (by omega)
    rw [s_pp] at p2 p3
    simp (config := { maxSteps := 2000000 }) -implicitDefEqProofs (disch := (first | omega | rfl | assumption | (simp only [rsD]; first | omega | assumption))) only [load_Churn_L2, hr7, q1, q2, q3, q, p1, p2, p3, Nat.reduceAdd, Nat.reduceMul, Nat.reduceLT, Int.reduceToNat, Int.reduceAdd, Int.reduceSub, Int.reduceMul, rsU, rsC]
    refine Ok.step (fin _ _ 0 [below (nxt s) h, below (nxt (nxt (nxt (nxt s)))) 4, below (nxt (nxt (nxt (nxt (nxt s))))) 12, below (nxt (nxt (nxt (nxt (nxt (nxt s)))))) 4] (nxt (nxt (nxt (nxt (nxt (nxt s)))))) 4 rfl (by simp) (by simp) rfl (by simp) (by ((try simp only [rsD] at *); simp -implicitDefEqProofs (disch := (first | omega | rfl | assumption | (simp only [rsD]; first | omega | assumption))) only [s_bs, s_bn, s_kn, bump_blk]) <;> rfl) (by ((try simp only [rsD] at *); simp -implicitDefEqProofs (disch := (first | omega | rfl | assumption | (simp only [rsD]; first | omega | assumption))) only [s_bs, s_bn, s_kn, bump_blk]) <;> rfl) (fun b e1 e2 => by ((try simp only [rsD] at *); simp -implicitDefEqProofs (disch := (first | omega | rfl | assumption | (simp only [rsD]; first | omega | assumption))) only [s_bs, s_bn, s_kn, bump_blk]))) fun r ⟨g1, g2, g3, g4⟩ => ?_
    obtain ⟨z, σ2⟩ := r
    simp only at g1 g2 g3 g4
    subst g1
    simp (config := { maxSteps := 2000000 }) -implicitDefEqProofs (disch := (first | omega | rfl | assumption | (simp only [rsD]; first | omega | assumption))) only [Nat.reduceAdd, Nat.reduceMul, Nat.reduceLT, Int.reduceToNat, Int.reduceAdd, Int.reduceSub, Int.reduceMul, rsU, rsC]
    exact Ok_some.2 ⟨σ2, by simp, g2, g3, g4⟩
  · rw [if_neg c1]
    have q : (bif t == 0 then (t == 0) else bif t == 1 then (t == 1) else (t == 2)) = false := by
      rw [s_eqF (show t ≠ 0 by omega), s_eqF (show t ≠ 1 by omega), s_eqF (show t ≠ 2 by omega)]; rfl
    have p1 := dbelow (σ := (σ.put db (.cells true el [.i .u64 (nxt (nxt (nxt s)))])).bump 1) (n := 3) s_bs (by omega)
    by_cases c2 : t = 3 ∨ t = 4
    · rw [if_pos c2]
      have q4 : (bif t == 3 then (t == 3) else (t == 4)) = true := by rcases c2 with rfl | rfl <;> rfl
      simp (config := { maxSteps := 2000000 }) -implicitDefEqProofs (disch := (first | omega | rfl | assumption | (simp only [rsD]; first | omega | assumption))) only [load_Churn_L2, hr7, q1, q2, q3, q, q4, p1, Nat.reduceAdd, Nat.reduceMul, Nat.reduceLT, Int.reduceToNat, Int.reduceAdd, Int.reduceSub, Int.reduceMul, rsU, rsC]
      refine Ok.step (fin _ _ 11 [below (nxt s) h, below (nxt (nxt (nxt (nxt s)))) 3, below (nxt (nxt s)) h] (nxt (nxt (nxt (nxt s)))) 3 rfl (by simp) (by simp) rfl (by simp) (by ((try simp only [rsD] at *); simp -implicitDefEqProofs (disch := (first | omega | rfl | assumption | (simp only [rsD]; first | omega | assumption))) only [s_bs, s_bn, s_kn, bump_blk]) <;> rfl) (by ((try simp only [rsD] at *); simp -implicitDefEqProofs (disch := (first | omega | rfl | assumption | (simp only [rsD]; first | omega | assumption))) only [s_bs, s_bn, s_kn, bump_blk]) <;> rfl) (fun b e1 e2 => by ((try simp only [rsD] at *); simp -implicitDefEqProofs (disch := (first | omega | rfl | assumption | (simp only [rsD]; first | omega | assumption))) only [s_bs, s_bn, s_kn, bump_blk]))) fun r ⟨g1, g2, g3, g4⟩ => ?_
      obtain ⟨z, σ2⟩ := r
      simp only at g1 g2 g3 g4
      subst g1
      simp (config := { maxSteps := 2000000 }) -implicitDefEqProofs (disch := (first | omega | rfl | assumption | (simp only [rsD]; first | omega | assumption))) only [Nat.reduceAdd, Nat.reduceMul, Nat.reduceLT, Int.reduceToNat, Int.reduceAdd, Int.reduceSub, Int.reduceMul, rsU, rsC]
      exact Ok_some.2 ⟨σ2, by simp, g2, g3, g4⟩
    · rw [if_neg c2]
      have q4 : (bif t == 3 then (t == 3) else (t == 4)) = false := by
        rw [s_eqF (show t ≠ 3 by omega), s_eqF (show t ≠ 4 by omega)]; rfl
      by_cases c3 : t = 5
      · rw [if_pos c3]
        have q5 := s_eqT c3
        simp (config := { maxSteps := 2000000 }) -implicitDefEqProofs (disch := (first | omega | rfl | assumption | (simp only [rsD]; first | omega | assumption))) only [load_Churn_L2, hr7, q1, q2, q3, q, q4, q5, p1, Nat.reduceAdd, Nat.reduceMul, Nat.reduceLT, Int.reduceToNat, Int.reduceAdd, Int.reduceSub, Int.reduceMul, rsU, rsC]
        refine Ok.step (fin _ _ 10 [below (nxt s) h, below (nxt (nxt s)) h, below (nxt (nxt (nxt (nxt s)))) 3] (nxt (nxt (nxt (nxt s)))) 3 rfl (by simp) (by simp) rfl (by simp) (by ((try simp only [rsD] at *); simp -implicitDefEqProofs (disch := (first | omega | rfl | assumption | (simp only [rsD]; first | omega | assumption))) only [s_bs, s_bn, s_kn, bump_blk]) <;> rfl) (by ((try simp only [rsD] at *); simp -implicitDefEqProofs (disch := (first | omega | rfl | assumption | (simp only [rsD]; first | omega | assumption))) only [s_bs, s_bn, s_kn, bump_blk]) <;> rfl) (fun b e1 e2 => by ((try simp only [rsD] at *); simp -implicitDefEqProofs (disch := (first | omega | rfl | assumption | (simp only [rsD]; first | omega | assumption))) only [s_bs, s_bn, s_kn, bump_blk]))) fun r ⟨g1, g2, g3, g4⟩ => ?_
        obtain ⟨z, σ2⟩ := r
        simp only at g1 g2 g3 g4
        subst g1
        simp (config := { maxSteps := 2000000 }) -implicitDefEqProofs (disch := (first | omega | rfl | assumption | (simp only [rsD]; first | omega | assumption))) only [Nat.reduceAdd, Nat.reduceMul, Nat.reduceLT, Int.reduceToNat, Int.reduceAdd, Int.reduceSub, Int.reduceMul, rsU, rsC]
        exact Ok_some.2 ⟨σ2, by simp, g2, g3, g4⟩
      · rw [if_neg c3]
        have q5 := s_eqF c3
        by_cases c4 : t = 6
        · rw [if_pos c4]
          have q6 := s_eqT c4
          simp (config := { maxSteps := 2000000 }) -implicitDefEqProofs (disch := (first | omega | rfl | assumption | (simp only [rsD]; first | omega | assumption))) only [load_Churn_L2, hr7, q1, q2, q3, q, q4, q5, q6, Nat.reduceAdd, Nat.reduceMul, Nat.reduceLT, Int.reduceToNat, Int.reduceAdd, Int.reduceSub, Int.reduceMul, rsU, rsC]
          refine Ok.step (fin _ _ 8 [below (nxt s) h, below (nxt (nxt s)) h] (nxt (nxt (nxt s))) 2 rfl (by simp) (by simp) rfl (by simp) (by ((try simp only [rsD] at *); simp -implicitDefEqProofs (disch := (first | omega | rfl | assumption | (simp only [rsD]; first | omega | assumption))) only [s_bs, s_bn, s_kn, bump_blk]) <;> rfl) (by ((try simp only [rsD] at *); simp -implicitDefEqProofs (disch := (first | omega | rfl | assumption | (simp only [rsD]; first | omega | assumption))) only [s_bs, s_bn, s_kn, bump_blk]) <;> rfl) (fun b e1 e2 => by ((try simp only [rsD] at *); simp -implicitDefEqProofs (disch := (first | omega | rfl | assumption | (simp only [rsD]; first | omega | assumption))) only [s_bs, s_bn, s_kn, bump_blk]))) fun r ⟨g1, g2, g3, g4⟩ => ?_
          obtain ⟨z, σ2⟩ := r
          simp only at g1 g2 g3 g4
          subst g1
          simp (config := { maxSteps := 2000000 }) -implicitDefEqProofs (disch := (first | omega | rfl | assumption | (simp only [rsD]; first | omega | assumption))) only [Nat.reduceAdd, Nat.reduceMul, Nat.reduceLT, Int.reduceToNat, Int.reduceAdd, Int.reduceSub, Int.reduceMul, rsU, rsC]
          exact Ok_some.2 ⟨σ2, by simp, g2, g3, g4⟩
        · rw [if_neg c4]
          have q6 := s_eqF c4
          simp (config := { maxSteps := 2000000 }) -implicitDefEqProofs (disch := (first | omega | rfl | assumption | (simp only [rsD]; first | omega | assumption))) only [load_Churn_L2, hr7, q1, q2, q3, q, q4, q5, q6, Nat.reduceAdd, Nat.reduceMul, Nat.reduceLT, Int.reduceToNat, Int.reduceAdd, Int.reduceSub, Int.reduceMul, rsU, rsC]
          refine Ok.step (fin _ _ 9 [below (nxt s) h] (nxt (nxt (nxt s))) 1 rfl (by simp) (by simp) rfl (by simp) (by ((try simp only [rsD] at *); simp -implicitDefEqProofs (disch := (first | omega | rfl | assumption | (simp only [rsD]; first | omega | assumption))) only [s_bs, s_bn, s_kn, bump_blk]) <;> rfl) (by ((try simp only [rsD] at *); simp -implicitDefEqProofs (disch := (first | omega | rfl | assumption | (simp only [rsD]; first | omega | assumption))) only [s_bs, s_bn, s_kn, bump_blk]) <;> rfl) (fun b e1 e2 => by ((try simp only [rsD] at *); simp -implicitDefEqProofs (disch := (first | omega | rfl | assumption | (simp only [rsD]; first | omega | assumption))) only [s_bs, s_bn, s_kn, bump_blk]))) fun r ⟨g1, g2, g3, g4⟩ => ?_
          obtain ⟨z, σ2⟩ := r
          simp only at g1 g2 g3 g4
          subst g1
          simp (config := { maxSteps := 2000000 }) -implicitDefEqProofs (disch := (first | omega | rfl | assumption | (simp only [rsD]; first | omega | assumption))) only [Nat.reduceAdd, Nat.reduceMul, Nat.reduceLT, Int.reduceToNat, Int.reduceAdd, Int.reduceSub, Int.reduceMul, rsU, rsC]
          exact Ok_some.2 ⟨σ2, by simp, g2, g3, g4⟩
theorem lchurn_ok {σ : AH O} {s h n : Int} (hs : 0 ≤ s ∧ s < 18446744073709551616) : Ok (load_Churn [.i .u64 s, .i .i64 h, .i .i64 n] σ) fun r => Script r.1 (churn_ s h n) ∧ Ext σ r.2 := by
  have fin : Ok (load_Churn [.i .u64 s, .i .i64 h, .i .i64 n] σ) fun r => Im (.sl 24 1 (churn_ s h n).length ((churn_ s h n).flatMap rrow)) r.1 ∧ Ext σ r.2 := by
    refine frz_sl (recs_deep _ _ _ 5 _) ?_
    by_cases c : h < 1 ∨ h > 200 ∨ n < 0 ∨ n > 200
    · have e : churn_ s h n = [] := if_pos c
      rw [e]
      have cc := churn_out c
      simp (config := { maxSteps := 2000000 }) -implicitDefEqProofs (disch := (first | omega | rfl | assumption | (simp only [rsD]; first | omega | assumption))) only [load_Churn_c, cc, Nat.reduceAdd, Nat.reduceMul, Nat.reduceLT, Int.reduceToNat, Int.reduceAdd, Int.reduceSub, Int.reduceMul, rsU, rsC]
      exact Ok_some.2 ((BldO.nil σ.next σ 24 rrow_len).out (Ext.refl σ) (Nat.le_refl _))
    · obtain ⟨m, rfl⟩ : ∃ m : Nat, h = m := ⟨h.toNat, by omega⟩
      obtain ⟨k, rfl⟩ : ∃ k : Nat, n = k := ⟨n.toNat, by omega⟩
      have e : churn_ s m k = List.replicate m [1] ++ (churnL m s k).1 := by unfold churn_; rw [if_neg c, Int.toNat_natCast, Int.toNat_natCast]
      have c1 := decide_eq_false (show ¬ ((m : Int) < 1) by omega)
      have c2 := decide_eq_false (show ¬ ((m : Int) > 200) by omega)
      have c3 := decide_eq_false (show ¬ ((k : Int) < 0) by omega)
      have c4 := decide_eq_false (show ¬ ((k : Int) > 200) by omega)
      simp (config := { maxSteps := 2000000 }) -implicitDefEqProofs (disch := (first | omega | rfl | assumption | (simp only [rsD]; first | omega | assumption))) only [load_Churn_c, load_New, load_New_c, c1, c2, c3, c4, Nat.reduceAdd, Nat.reduceMul, Nat.reduceLT, Int.reduceToNat, Int.reduceAdd, Int.reduceSub, Int.reduceMul, rsU, rsC]
      have lp : ∀ (σ1 : AH O) (r7 : List AV × AH O), r7.2.next = σ.next → Ch (σ.next + 2) σ1 σ.next (σ.next + 1) [] s → Ok (loopF (S := List AV × AH O) (T := List AV × AH O) (load_Churn_L1 (m : Int) load_maker__add r7) ([.i .i64 0], σ1)) fun r => ∃ σ', r = ([], σ') ∧ Ch (σ.next + 2) σ' σ.next (σ.next + 1) (List.replicate m [1]) s ∧ σ1.next ≤ σ'.next ∧ ∀ b, b < σ.next → σ'.blk b = σ1.blk b := by
        intro σ1 r7 hr C
        refine Ok.count m (fun j st => ∃ σ', st = ([.i .i64 (j : Int)], σ') ∧ Ch (σ.next + 2) σ' σ.next (σ.next + 1) (List.replicate j [1]) s ∧ σ1.next ≤ σ'.next ∧ ∀ b, b < σ.next → σ'.blk b = σ1.blk b) ?_ ?_ ⟨σ1, rfl, C, Nat.le_refl _, fun _ _ => rfl⟩
        · rintro j st hj ⟨σ2, rfl, C2, n2, o2⟩
          rw [rep_snoc]
          simp (config := { maxSteps := 2000000 }) -implicitDefEqProofs (disch := (first | omega | rfl | assumption | (simp only [rsD]; first | omega | assumption))) only [load_Churn_L1, hr, Nat.reduceAdd, Nat.reduceMul, Nat.reduceLT, Int.reduceToNat, Int.reduceAdd, Int.reduceSub, Int.reduceMul, rsU, rsC]
          refine Ok.step (add_nil C2.m (by simp; omega)) fun r ⟨g1, g2⟩ => ?_
          obtain ⟨z, σ3⟩ := r
          simp only at g1 g2
          subst g1
          simp (config := { maxSteps := 2000000 }) -implicitDefEqProofs (disch := (first | omega | rfl | assumption | (simp only [rsD]; first | omega | assumption))) only [Nat.reduceAdd, Nat.reduceMul, Nat.reduceLT, Int.reduceToNat, Int.reduceAdd, Int.reduceSub, Int.reduceMul, rsU, rsC]
          obtain ⟨el, hd⟩ := C2.d
          exact Ok_some.2 ⟨σ3, by simp, ⟨g2.m, ⟨el, (g2.o _ C2.lt.1 C2.lt.2).trans hd⟩, C2.lt⟩, by have := g2.n; omega, fun b hb => (g2.o b (by omega) (by omega)).trans (o2 b hb)⟩
        · rintro st ⟨σ2, rfl, C2, n2, o2⟩
          simp (config := { maxSteps := 2000000 }) -implicitDefEqProofs (disch := (first | omega | rfl | assumption | (simp only [rsD]; first | omega | assumption))) only [load_Churn_L1, Nat.reduceAdd, Nat.reduceMul, Nat.reduceLT, Int.reduceToNat, Int.reduceAdd, Int.reduceSub, Int.reduceMul, rsU, rsC]
          exact Ok_some.2 ⟨σ2, rfl, C2, n2, o2⟩
      refine Ok.step (lp _ _ rfl ⟨⟨⟨.nil, 95, by ((try simp only [rsD] at *); simp -implicitDefEqProofs (disch := (first | omega | rfl | assumption | (simp only [rsD]; first | omega | assumption))) only [s_bs, s_bn, s_kn, bump_blk]), BldO.nil _ _ _ rrow_len⟩, by omega, by simp⟩, ⟨T_load_Dice, by ((try simp only [rsD] at *); simp -implicitDefEqProofs (disch := (first | omega | rfl | assumption | (simp only [rsD]; first | omega | assumption))) only [s_bs, s_bn, s_kn, bump_blk])⟩, by omega⟩) ?_
      rintro _ ⟨σ1, rfl, C1, n1, o1⟩
      simp (config := { maxSteps := 2000000 }) -implicitDefEqProofs (disch := (first | omega | rfl | assumption | (simp only [rsD]; first | omega | assumption))) only [Nat.reduceAdd, Nat.reduceMul, Nat.reduceLT, Int.reduceToNat, Int.reduceAdd, Int.reduceSub, Int.reduceMul, rsU, rsC]
      have lp2 : ∀ (r7 : List AV × AH O), r7.2.next = σ.next → Ok (loopF (S := List AV × AH O) (T := List AV × AH O) (load_Churn_L2 (k : Int) load_Dice__Below (some (.n (σ.next + 1), 0)) (m : Int) load_maker__add r7) ([.i .i64 0], σ1)) fun r => ∃ σ', r = ([], σ') ∧ Ch (σ.next + 2) σ' σ.next (σ.next + 1) (List.replicate m [1] ++ (churnL m s k).1) (churnL m s k).2 ∧ σ1.next ≤ σ'.next ∧ ∀ b, b < σ.next → σ'.blk b = σ1.blk b := by
        intro r7 hr
        refine Ok.count k (fun j st => ∃ σ', st = ([.i .i64 (j : Int)], σ') ∧ Ch (σ.next + 2) σ' σ.next (σ.next + 1) (List.replicate m [1] ++ (churnL m s j).1) (churnL m s j).2 ∧ σ1.next ≤ σ'.next ∧ ∀ b, b < σ.next → σ'.blk b = σ1.blk b) ?_ ?_ ⟨σ1, rfl, by simpa [churnL] using C1, Nat.le_refl _, fun _ _ => rfl⟩
        · rintro j st hj ⟨σ2, rfl, C2, n2, o2⟩
          have hl : (List.replicate m [1] ++ (churnL m s j).1).length ≤ 1000 := by rw [List.length_append, List.length_replicate, churnL_len]; omega
          refine (lchurn_step hr C2 (by omega) hj (by omega) hl).mono ?_
          rintro _ ⟨σ3, rfl, C3, n3, o3⟩
          exact ⟨σ3, rfl, by simpa [churnL] using C3, by omega, fun b hb => (o3 b (by omega) (by omega) (by omega)).trans (o2 b hb)⟩
        · rintro st ⟨σ2, rfl, C2, n2, o2⟩
          simp (config := { maxSteps := 2000000 }) -implicitDefEqProofs (disch := (first | omega | rfl | assumption | (simp only [rsD]; first | omega | assumption))) only [load_Churn_L2, Nat.reduceAdd, Nat.reduceMul, Nat.reduceLT, Int.reduceToNat, Int.reduceAdd, Int.reduceSub, Int.reduceMul, rsU, rsC]
          exact Ok_some.2 ⟨σ2, rfl, C2, n2, o2⟩
      refine Ok.step (lp2 _ rfl) ?_
      rintro _ ⟨σ2, rfl, C2, n2, o2⟩
      rw [← e] at C2
      obtain ⟨⟨⟨a, el, h1, B⟩, _, _⟩, _, _⟩ := C2
      simp (config := { maxSteps := 2000000 }) -implicitDefEqProofs (disch := (first | omega | rfl | assumption | (simp only [rsD]; first | omega | assumption))) only [h1, Nat.reduceAdd, Nat.reduceMul, Nat.reduceLT, Int.reduceToNat, Int.reduceAdd, Int.reduceSub, Int.reduceMul, rsU, rsC]
      simp only [rsD] at n1
      refine Ok_some.2 ((B.low (base' := σ.next) (by omega)).out ⟨by omega, fun b hb => ?_⟩ (Nat.le_refl _))
      rw [o2 b hb, o1 b hb]; ((try simp only [rsD] at *); simp -implicitDefEqProofs (disch := (first | omega | rfl | assumption | (simp only [rsD]; first | omega | assumption))) only [s_bs, s_bn, s_kn, bump_blk])
  refine fin.mono ?_
  rintro ⟨v, σ'⟩ ⟨h1, h2⟩
  obtain ⟨a, g1, g2⟩ := Row.of rrow_len h1 rfl
  exact ⟨⟨a, g1, g2⟩, h2⟩
theorem churn_len (s h n : Int) : (churn_ s h n).length ≤ 100000 := by
  unfold churn_
  split
  · simp
  · rw [List.length_append, List.length_replicate, churnL_len]; omega
theorem churn1_w (h s : Int) : (churn1 h s).1.length ≤ 100000 := by
  unfold churn1
  split
  · simp
  · split
    · simp
    · split
      · simp
      · split <;> simp
theorem churnL_w (h s : Int) : ∀ n, ∀ r ∈ (churnL h s n).1, r.length ≤ 100000
  | 0, r, hr => by simp [churnL] at hr
  | n + 1, r, hr => by
    simp only [churnL, List.mem_append, List.mem_cons, List.not_mem_nil, or_false] at hr
    rcases hr with hr | rfl
    · exact churnL_w h s n r hr
    · exact churn1_w _ _
theorem churn_w (s h n : Int) : ∀ r ∈ churn_ s h n, r.length ≤ 100000 := by
  intro r hr
  unfold churn_ at hr
  split at hr
  · simp at hr
  · rcases List.mem_append.1 hr with hr | hr
    · have := List.eq_of_mem_replicate hr; subst this; simp
    · exact churnL_w _ _ _ r hr
theorem loadChurns_ok {σ : AH O} {s x y : Int} (hs : 0 ≤ s ∧ s < 18446744073709551616) {a : SA} {bs : List Int} (h : Imm 1 a bs.length (bs.map (AV.i .i64))) (hr : ∀ b ∈ bs, -9223372036854775808 ≤ b ∧ b ≤ 9223372036854775807) : Ok (law44_LoadChurns [.i .u64 s, .agg [.i .i64 x, .i .i64 y], .sl a bs.length] σ) fun r => r.1 = .b true := by
  simp (config := { maxSteps := 2000000 }) -implicitDefEqProofs (disch := (first | omega | rfl | assumption | (simp only [rsD]; first | omega | assumption))) only [law44_LoadChurns, law44_LoadChurns_c, Nat.reduceAdd, Nat.reduceMul, Nat.reduceLT, Int.reduceToNat, Int.reduceAdd, Int.reduceSub, Int.reduceMul, rsU, rsC]
  refine Ok.step awake44_ok fun r ⟨g1, E1⟩ => ?_
  obtain ⟨q, σ1⟩ := r
  simp only at g1 E1
  subst g1
  have n1 := E1.next
  simp only [rsD] at n1
  by_cases big : ((bs.length : Int) > 60)
  · have d := decide_eq_true big
    simp (config := { maxSteps := 2000000 }) -implicitDefEqProofs (disch := (first | omega | rfl | assumption | (simp only [rsD]; first | omega | assumption))) only [d, Nat.reduceAdd, Nat.reduceMul, Nat.reduceLT, Int.reduceToNat, Int.reduceAdd, Int.reduceSub, Int.reduceMul, rsU, rsC]
    exact Ok_some.2 rfl
  · have d := decide_eq_false big
    have b0 : σ1.blk σ.next = some (.cells true 23 [.i .i64 x, .i .i64 y]) := by ((have x0 := (E1).next); (try simp only [rsD] at *); simp -implicitDefEqProofs (disch := (first | omega | rfl | assumption | (simp only [rsD]; first | omega | assumption))) only [s_bs, s_bn, s_kn, bump_blk, s_ext (E1)])
    simp (config := { maxSteps := 2000000 }) -implicitDefEqProofs (disch := (first | omega | rfl | assumption | (simp only [rsD]; first | omega | assumption))) only [d, load_New, load_New_c, Option.isNone_some, Nat.reduceAdd, Nat.reduceMul, Nat.reduceLT, Int.reduceToNat, Int.reduceAdd, Int.reduceSub, Int.reduceMul, rsU, rsC]
    generalize hσ : AH.put _ σ1.next _ = σ2
    have n2 : σ2.next = σ1.next + 1 := by rw [← hσ]; rfl
    have c0 : σ2.blk σ.next = some (.cells true 23 [.i .i64 x, .i .i64 y]) := by rw [← hσ]; ((try simp only [rsD] at *); simp -implicitDefEqProofs (disch := (first | omega | rfl | assumption | (simp only [rsD]; first | omega | assumption))) only [s_bs, s_bn, s_kn, bump_blk]); exact b0
    have c1 : ∃ el, σ2.blk σ1.next = some (.cells true el [.i .u64 s]) := by rw [← hσ]; exact ⟨_, s_bs⟩
    clear hσ
    have lp : Ok (loopF (S := List AV × AH O) (T := (List AV × AH O) ⊕ (AV × AH O)) (law44_LoadChurns_L1 (a, bs.length) haymowref44_Next load_Dice__Below (some (.n σ1.next, 0)) haymowref44_Below) ([.i .u64 s, .i .i64 0], σ2)) fun r => ∃ σ', r = .inl ([], σ') ∧ σ.next < σ'.next ∧ σ'.blk σ.next = some (.cells true 23 [.i .i64 x, .i .i64 y]) := by
      refine Ok.count bs.length (fun k st => ∃ σ' s', st = ([.i .u64 s', .i .i64 (k : Int)], σ') ∧ σ.next < σ'.next ∧ (∃ el, σ'.blk σ1.next = some (.cells true el [.i .u64 s'])) ∧ σ'.blk σ.next = some (.cells true 23 [.i .i64 x, .i .i64 y])) ?_ ?_ ⟨σ2, s, rfl, by omega, c1, c0⟩
      · rintro k st hk ⟨σ3, s', rfl, n3, ⟨el, hd⟩, hb⟩
        obtain ⟨b, hx⟩ : ∃ b, bs[k]? = some b := ⟨_, List.getElem?_eq_getElem hk⟩
        have hrb := hr b (List.mem_of_getElem? hx)
        have im : Ints .i64 a bs := Ints.mk h
        obtain ⟨b1, o1, rfl, l1⟩ := im.at hx
        have p1 := rnext (σ := σ3) (s := s')
        have p2 := dbelow (σ := σ3) hd hrb
        have p3 := rbelow (σ := σ3.put σ1.next (.cells true el [.i .u64 (nxt s')])) (s := nxt s') (n := b) (nxt_rng _) hrb
        have p4 : (below (nxt s') b == below (nxt s') b) = true := s_eqT rfl
        simp (config := { maxSteps := 2000000 }) -implicitDefEqProofs (disch := (first | omega | rfl | assumption | (simp only [rsD]; first | omega | assumption))) only [law44_LoadChurns_L1, p1, l1, p2, p3, p4, eq_self, Nat.reduceAdd, Nat.reduceMul, Nat.reduceLT, Int.reduceToNat, Int.reduceAdd, Int.reduceSub, Int.reduceMul, rsU, rsC]
        exact Ok_some.2 ⟨σ3.put σ1.next (.cells true el [.i .u64 (nxt s')]), nxt s', by simp, n3, ⟨el, s_bs⟩, by ((try simp only [rsD] at *); simp -implicitDefEqProofs (disch := (first | omega | rfl | assumption | (simp only [rsD]; first | omega | assumption))) only [s_bs, s_bn, s_kn, bump_blk]); exact hb⟩
      · rintro st ⟨σ3, s', rfl, n3, _, hb⟩
        simp (config := { maxSteps := 2000000 }) -implicitDefEqProofs (disch := (first | omega | rfl | assumption | (simp only [rsD]; first | omega | assumption))) only [law44_LoadChurns_L1, Nat.reduceAdd, Nat.reduceMul, Nat.reduceLT, Int.reduceToNat, Int.reduceAdd, Int.reduceSub, Int.reduceMul, rsU, rsC]
        exact Ok_some.2 ⟨σ3, rfl, n3, hb⟩
    refine Ok.bindS lp ?_ (fun r hh => by obtain ⟨_, e, _⟩ := hh; cases e)
    rintro _ ⟨σ3, e3, n3, hb⟩
    cases e3
    have lt3 : ∀ {σ4 : AH O}, Ext σ3 σ4 → σ4.blk σ.next = some (.cells true 23 [.i .i64 x, .i .i64 y]) := fun E => (E.blk _ n3).trans hb
    simp (config := { maxSteps := 2000000 }) -implicitDefEqProofs (disch := (first | omega | rfl | assumption | (simp only [rsD]; first | omega | assumption))) only [hb, Nat.reduceAdd, Nat.reduceMul, Nat.reduceLT, Int.reduceToNat, Int.reduceAdd, Int.reduceSub, Int.reduceMul, rsU, rsC]
    refine Ok.step (rchurn_ok (σ := σ3) (h := x) (n := y) hs) fun r ⟨⟨a1, g1, R1⟩, E3⟩ => ?_
    obtain ⟨q1, σ4⟩ := r
    simp only at g1 E3
    subst g1
    have hb4 := lt3 E3
    simp (config := { maxSteps := 2000000 }) -implicitDefEqProofs (disch := (first | omega | rfl | assumption | (simp only [rsD]; first | omega | assumption))) only [hb4, Nat.reduceAdd, Nat.reduceMul, Nat.reduceLT, Int.reduceToNat, Int.reduceAdd, Int.reduceSub, Int.reduceMul, rsU, rsC]
    refine Ok.step (lchurn_ok (σ := σ4) (h := x) (n := y) hs) fun r ⟨⟨a2, g2, R2⟩, E4⟩ => ?_
    obtain ⟨q2, σ5⟩ := r
    simp only at g2 E4
    subst g2
    have E5 := E3.trans E4
    have hb5 := lt3 E5
    simp (config := { maxSteps := 2000000 }) -implicitDefEqProofs (disch := (first | omega | rfl | assumption | (simp only [rsD]; first | omega | assumption))) only [hb5, Nat.reduceAdd, Nat.reduceMul, Nat.reduceLT, Int.reduceToNat, Int.reduceAdd, Int.reduceSub, Int.reduceMul, rsU, rsC]
    refine Ok.step (same_ok R2.rd R1.rd (churn_len _ _ _) (churn_w _ _ _)) fun r g3 => ?_
    subst g3
    simp (config := { maxSteps := 2000000 }) -implicitDefEqProofs (disch := (first | omega | rfl | assumption | (simp only [rsD]; first | omega | assumption))) only [hb5, Nat.reduceAdd, Nat.reduceMul, Nat.reduceLT, Int.reduceToNat, Int.reduceAdd, Int.reduceSub, Int.reduceMul, rsU, rsC]
    refine Ok.step (lchurn_ok (σ := σ5) (h := x) (n := y) hs) fun r ⟨⟨a3, g4, R3⟩, E6⟩ => ?_
    obtain ⟨q3, σ6⟩ := r
    simp only at g4 E6
    subst g4
    have hb6 := lt3 (E5.trans E6)
    simp (config := { maxSteps := 2000000 }) -implicitDefEqProofs (disch := (first | omega | rfl | assumption | (simp only [rsD]; first | omega | assumption))) only [hb6, Nat.reduceAdd, Nat.reduceMul, Nat.reduceLT, Int.reduceToNat, Int.reduceAdd, Int.reduceSub, Int.reduceMul, rsU, rsC]
    refine Ok.step (same_ok R3.rd R1.rd (churn_len _ _ _) (churn_w _ _ _)) fun r g5 => ?_
    subst g5
    simp (config := { maxSteps := 2000000 }) -implicitDefEqProofs (disch := (first | omega | rfl | assumption | (simp only [rsD]; first | omega | assumption))) only [Nat.reduceAdd, Nat.reduceMul, Nat.reduceLT, Int.reduceToNat, Int.reduceAdd, Int.reduceSub, Int.reduceMul, rsU, rsC]
    exact Ok_some.2 rfl
end Go.Abs.Try
