/-
  Layer 44: lists of records, written out; the script of a list. No conditions.
-/
import Derived.Test.YteklninbijohcaaG1
set_option linter.unusedVariables false
set_option linter.unusedSimpArgs false
set_option linter.constructorNameAsVariable false
set_option linter.unusedSimpArgs false
set_option linter.unusedVariables false
set_option linter.unusedSectionVars false
set_option maxHeartbeats 1000000
namespace Go.Abs.Try
open Go Go.Abs
variable {O : Type}

/-- records that stand each in a block of its own -/
inductive Lits (σ : AH O) : List Nat → List (List Int) → List AV → Prop
  | nil : Lits σ [] [] []
  | cons {b : Nat} {r : List Int} {n : Nat} {bs : List Nat} {rs : List (List Int)} {vs : List AV} (h : σ.blk b = some (.cells true 3 (r.map (AV.i .i64)))) (hb : b < σ.next) (hn : n = r.length) (t : Lits σ bs rs vs) : Lits σ (b :: bs) (r :: rs) (.sl (.loc (.n b) 0 1) n :: vs)
theorem Lits.ow {σ : AH O} : ∀ {bs : List Nat} {rs : List (List Int)} {vs : List AV}, Lits σ bs rs vs → bs.Nodup → OwL σ (rs.flatMap rrow) vs bs
  | _, _, _, .nil, _ => .nil
  | _, _, _, .cons (b := b) (r := r) h hb hn t, hd => by
    subst hn
    obtain ⟨h1, h2⟩ := List.nodup_cons.1 hd
    have o : OwnS σ 3 1 (.loc (.n b) 0 1) r.length (r.map (AV.i .i64)) := OwnS.new (by simp) h hb
    have := Ow.leaves o (flat_ints r)
    rw [← int1_flat] at this
    exact OwL.cons (L1 := [b]) this (t.ow h2) (by simpa using h1)
theorem Lits.len {σ : AH O} : ∀ {bs : List Nat} {rs : List (List Int)} {vs : List AV}, Lits σ bs rs vs → vs.length = rs.length
  | _, _, _, .nil => rfl
  | _, _, _, .cons h hb hn t => by simp [t.len]
theorem Lits.bld {σ : AH O} {bs : List Nat} {rs : List (List Int)} {vs : List AV} {k base n : Nat} (h : Lits σ bs rs vs) (hd : bs.Nodup) (hk : σ.blk k = some (.cells true 24 vs)) (hl : k < σ.next) (hn : k ∉ bs) (hb : base ≤ k ∧ ∀ b ∈ bs, base ≤ b) : BldO base σ 24 1 rrow (.loc (.n k) 0 1) rs :=
  ⟨rrow_len, vs, bs, (OwnS.new (by rw [h.len, Nat.mul_one]) hk hl).p, h.ow hd, by simpa [SA.bk] using hn, fun b hm => by
    rcases List.mem_append.1 hm with hm | hm
    · simp [SA.bk] at hm; subst hm; exact hb.1
    · exact hb.2 b hm⟩
def one_ (i site : Int) : List (List Int) := [[0, 1, 1, 1, site], [13, 1, 0, i], [11, 1, 0, 0], [8, 0, 1]]
theorem rone_ok {σ : AH O} {i site : Int} : Ok (haymowref44_one [.i .i64 i, .i .i64 site] σ) fun r => (∃ a, r.1 = .sl a 4 ∧ Recs a (one_ i site)) ∧ Ext σ r.2 := by
  have fin : Ok (haymowref44_one [.i .i64 i, .i .i64 site] σ) fun r => Im (.sl 24 1 (one_ i site).length ((one_ i site).flatMap rrow)) r.1 ∧ Ext σ r.2 := by
    refine frz_sl (recs_deep _ _ _ 5 _) ?_
    simp (config := { maxSteps := 2000000 }) -implicitDefEqProofs (disch := (first | omega | rfl | assumption | (simp only [rsD]; first | omega | assumption))) only [haymowref44_one_c, Nat.reduceAdd, Nat.reduceMul, Nat.reduceLT, Int.reduceToNat, Int.reduceAdd, Int.reduceSub, Int.reduceMul, rsU, rsC]
    generalize hσ : AH.put _ (σ.next + 1 + 1 + 1 + 1) _ = σ1
    have E : Ext σ σ1 := by rw [← hσ]; exact (ext_of (by (try simp only [rsD] at *); omega) (fun b hb => by (try simp only [rsD] at *); simp -implicitDefEqProofs (disch := (first | omega | rfl | assumption | (simp only [rsD]; first | omega | assumption))) only [s_bn, s_kn, bump_blk]))
    have n1 : σ1.next = σ.next + 5 := by rw [← hσ]; rfl
    have L : Lits σ1 [σ.next, σ.next + 1, σ.next + 1 + 1, σ.next + 1 + 1 + 1] (one_ i site) [.sl (.loc (.n σ.next) 0 1) 5, .sl (.loc (.n (σ.next + 1)) 0 1) 4, .sl (.loc (.n (σ.next + 1 + 1)) 0 1) 4, .sl (.loc (.n (σ.next + 1 + 1 + 1)) 0 1) 3] := by
      subst hσ
      refine .cons ?_ (by omega) rfl (.cons ?_ (by omega) rfl (.cons ?_ (by omega) rfl (.cons ?_ (by omega) rfl .nil)))
      all_goals (((try simp only [rsD] at *); simp -implicitDefEqProofs (disch := (first | omega | rfl | assumption | (simp only [rsD]; first | omega | assumption))) only [s_bs, s_bn, s_kn, bump_blk]); try rfl)
    have hk : σ1.blk (σ.next + 1 + 1 + 1 + 1) = some (.cells true 24 [.sl (.loc (.n σ.next) 0 1) 5, .sl (.loc (.n (σ.next + 1)) 0 1) 4, .sl (.loc (.n (σ.next + 1 + 1)) 0 1) 4, .sl (.loc (.n (σ.next + 1 + 1 + 1)) 0 1) 3]) := by rw [← hσ]; exact s_bs
    have B : BldO σ.next σ1 24 1 rrow (.loc (.n (σ.next + 1 + 1 + 1 + 1)) 0 1) (one_ i site) := L.bld (n := 0) (by simp; omega) hk (by omega) (by simp; omega) ⟨by omega, by simp; omega⟩
    exact Ok_some.2 (B.out E (Nat.le_refl _))
  refine fin.mono ?_
  rintro ⟨v, σ'⟩ ⟨h1, h2⟩
  exact ⟨Row.of rrow_len h1 rfl, h2⟩
def ones (n : Nat) (site : Int) : List (List Int) := (List.range n).flatMap fun (i : Nat) => one_ (i : Int) site
theorem ones_succ (n : Nat) (site : Int) : ones (n + 1) site = ones n site ++ one_ (n : Int) site := by simp [ones, List.range_succ]
theorem ones_len (site : Int) : ∀ n, (ones n site).length = 4 * n
  | 0 => rfl
  | n + 1 => by rw [ones_succ, List.length_append, ones_len site n]; simp [one_]; omega
def list_ (n : Int) (site : Int) : List (List Int) := if n < 0 ∨ n > 200 then [] else [[1], [1]] ++ ones n.toNat site ++ [[2, 1]]
theorem list_len (n site : Int) : (list_ n site).length ≤ 803 := by
  unfold list_
  split
  · simp
  · simp only [List.length_append, ones_len]; simp; omega
/-- a slice of records, or none -/
structure Script (v : AV) (l : List (List Int)) : Prop where
  it : ∃ a, v = .sl a l.length ∧ Recs a l
theorem rlist_ok {σ : AH O} {n site : Int} : Ok (haymowref44_List [.i .i64 n, .i .i64 site] σ) fun r => Script r.1 (list_ n site) ∧ Ext σ r.2 := by
  have fin : Ok (haymowref44_List [.i .i64 n, .i .i64 site] σ) fun r => Im (.sl 24 1 (list_ n site).length ((list_ n site).flatMap rrow)) r.1 ∧ Ext σ r.2 := by
    refine frz_sl (recs_deep _ _ _ 5 _) ?_
    by_cases c : n < 0 ∨ n > 200
    · have e : list_ n site = [] := if_pos c
      rw [e]
      have cc : (bif !decide (n < 0) then decide (n > 200) else true) = true := by
        rcases c with c | c
        · rw [decide_eq_true c]; rfl
        · rw [decide_eq_true c]; cases decide (n < 0) <;> rfl
      simp (config := { maxSteps := 2000000 }) -implicitDefEqProofs (disch := (first | omega | rfl | assumption | (simp only [rsD]; first | omega | assumption))) only [haymowref44_List_c, cc, Nat.reduceAdd, Nat.reduceMul, Nat.reduceLT, Int.reduceToNat, Int.reduceAdd, Int.reduceSub, Int.reduceMul, rsU, rsC]
      exact Ok_some.2 ((BldO.nil σ.next σ 24 rrow_len).out (Ext.refl σ) (Nat.le_refl _))
    · obtain ⟨m, rfl⟩ : ∃ m : Nat, n = m := ⟨n.toNat, by omega⟩
      have e : list_ m site = [[1], [1]] ++ ones m site ++ [[2, 1]] := by unfold list_; rw [if_neg c, Int.toNat_natCast]
      have c1 := decide_eq_false (show ¬ ((m : Int) < 0) by omega)
      have c2 := decide_eq_false (show ¬ ((m : Int) > 200) by omega)
      simp (config := { maxSteps := 2000000 }) -implicitDefEqProofs (disch := (first | omega | rfl | assumption | (simp only [rsD]; first | omega | assumption))) only [haymowref44_List_c, c1, c2, Nat.reduceAdd, Nat.reduceMul, Nat.reduceLT, Int.reduceToNat, Int.reduceAdd, Int.reduceSub, Int.reduceMul, rsU, rsC]
      generalize hσ : AH.put _ (σ.next + 1 + 1) _ = σ1
      have E : Ext σ σ1 := by rw [← hσ]; exact (ext_of (by (try simp only [rsD] at *); omega) (fun b hb => by (try simp only [rsD] at *); simp -implicitDefEqProofs (disch := (first | omega | rfl | assumption | (simp only [rsD]; first | omega | assumption))) only [s_bn, s_kn, bump_blk]))
      have n1 : σ1.next = σ.next + 3 := by rw [← hσ]; rfl
      have L : Lits σ1 [σ.next, σ.next + 1] [[1], [1]] [.sl (.loc (.n σ.next) 0 1) 1, .sl (.loc (.n (σ.next + 1)) 0 1) 1] := by
        subst hσ
        refine .cons ?_ (by omega) rfl (.cons ?_ (by omega) rfl .nil)
        all_goals (((try simp only [rsD] at *); simp -implicitDefEqProofs (disch := (first | omega | rfl | assumption | (simp only [rsD]; first | omega | assumption))) only [s_bs, s_bn, s_kn, bump_blk]); try rfl)
      have hk : σ1.blk (σ.next + 1 + 1) = some (.cells true 24 [.sl (.loc (.n σ.next) 0 1) 1, .sl (.loc (.n (σ.next + 1)) 0 1) 1]) := by rw [← hσ]; exact s_bs
      have B : BldO σ.next σ1 24 1 rrow (.loc (.n (σ.next + 1 + 1)) 0 1) [[1], [1]] := L.bld (n := 0) (by simp) hk (by omega) (by simp <;> omega) ⟨by omega, by simp⟩
      clear hσ L hk
      have lp : Ok (loopF (S := List AV × AH O) (T := List AV × AH O) (haymowref44_List_L1 (m : Int) haymowref44_one site) ([.sl (.loc (.n (σ.next + 1 + 1)) 0 1) 2, .i .i64 0], σ1)) fun r => ∃ a σ', r = ([.sl a ([[1], [1]] ++ ones m site).length], σ') ∧ BldO σ.next σ' 24 1 rrow a ([[1], [1]] ++ ones m site) ∧ Ext σ σ' := by
        refine Ok.count m (fun k s => ∃ a σ', s = ([.sl a ([[1], [1]] ++ ones k site).length, .i .i64 (k : Int)], σ') ∧ BldO σ.next σ' 24 1 rrow a ([[1], [1]] ++ ones k site) ∧ Ext σ σ') ?_ ?_ ⟨_, σ1, rfl, by simpa [ones] using B, E⟩
        · rintro k s hk ⟨a, σ2, rfl, B, E2⟩
          have hl : ([[1], [1]] ++ ones k site).length = 4 * k + 2 := by rw [List.length_append, ones_len]; simp; omega
          have eq : [[1], [1]] ++ ones (k + 1) site = [[1], [1]] ++ ones k site ++ one_ (k : Int) site := by rw [ones_succ, List.append_assoc]
          rw [eq]
          clear eq
          generalize [[1], [1]] ++ ones k site = Lk at *
          simp (config := { maxSteps := 2000000 }) -implicitDefEqProofs (disch := (first | omega | rfl | assumption | (simp only [rsD]; first | omega | assumption))) only [haymowref44_List_L1, Nat.reduceAdd, Nat.reduceMul, Nat.reduceLT, Int.reduceToNat, Int.reduceAdd, Int.reduceSub, Int.reduceMul, rsU, rsC]
          refine Ok.step rone_ok fun r ⟨⟨o, g1, g2⟩, g3⟩ => ?_
          obtain ⟨z, σ3⟩ := r
          simp only at g1 g3
          subst g1
          obtain ⟨new, w1, w2, w3⟩ := g2.all
          have w3' : ∀ σ : AH O, σ.rdSl o 4 1 = some new := fun σ => w3 O σ
          have n3 := g3.next
          have n2 := E2.next
          simp only [rsD] at n3
          have E3 : Ext σ σ3 := (ext_of (by (have x0 := (g3).next); (have x1 := (E2).next); (try simp only [rsD] at *); omega) (fun b hb => by (have x0 := (g3).next); (have x1 := (E2).next); (try simp only [rsD] at *); simp -implicitDefEqProofs (disch := (first | omega | rfl | assumption | (simp only [rsD]; first | omega | assumption))) only [s_bn, s_kn, bump_blk, s_ext (g3), s_ext (E2)]))
          simp (config := { maxSteps := 2000000 }) -implicitDefEqProofs (disch := (first | omega | rfl | assumption | (simp only [rsD]; first | omega | assumption))) only [w3', Nat.reduceAdd, Nat.reduceMul, Nat.reduceLT, Int.reduceToNat, Int.reduceAdd, Int.reduceSub, Int.reduceMul, rsU, rsC]
          have app := B.app' (σ3 := σ3) (nid := σ2.next) (new := new) (m := one_ k site) n2 (by omega) (fun b _ hb => by ((have x0 := (g3).next); (try simp only [rsD] at *); simp -implicitDefEqProofs (disch := (first | omega | rfl | assumption | (simp only [rsD]; first | omega | assumption))) only [s_bs, s_bn, s_kn, bump_blk, s_ext (g3)])) ⟨[], OwL.im w2, by simp⟩ (Nat.le_refl _) (by omega)
          rw [show (one_ (k : Int) site).length = 4 from rfl] at app
          refine Ok.step app fun r ⟨a', h1, h2, h3, h4, h5⟩ => ?_
          obtain ⟨z, σ4⟩ := r
          simp only at h1 h2 h3 h4
          subst h1
          have hbk := B.bk
          simp (config := { maxSteps := 2000000 }) -implicitDefEqProofs (disch := (first | omega | rfl | assumption | (simp only [rsD]; first | omega | assumption))) only [Nat.reduceAdd, Nat.reduceMul, Nat.reduceLT, Int.reduceToNat, Int.reduceAdd, Int.reduceSub, Int.reduceMul, rsU, rsC]
          refine Ok_some.2 ⟨a', σ4, by simp [one_], h2, ⟨by omega, fun b hb => ?_⟩⟩
          rw [h4 b (by omega) (fun hm => by have := hbk b hm; omega)]; exact E3.blk b hb
        · rintro s ⟨a, σ2, rfl, B, E2⟩
          simp (config := { maxSteps := 2000000 }) -implicitDefEqProofs (disch := (first | omega | rfl | assumption | (simp only [rsD]; first | omega | assumption))) only [haymowref44_List_L1, Nat.reduceAdd, Nat.reduceMul, Nat.reduceLT, Int.reduceToNat, Int.reduceAdd, Int.reduceSub, Int.reduceMul, rsU, rsC]
          exact Ok_some.2 ⟨a, σ2, rfl, B, E2⟩
      refine Ok.step lp ?_
      rintro _ ⟨a, σ2, rfl, B2, E2⟩
      have hl : ([[1], [1]] ++ ones m site).length = 4 * m + 2 := by rw [List.length_append, ones_len]; simp; omega
      have n2 := E2.next
      rw [e]
      generalize [[1], [1]] ++ ones m site = Lm at *
      simp (config := { maxSteps := 2000000 }) -implicitDefEqProofs (disch := (first | omega | rfl | assumption | (simp only [rsD]; first | omega | assumption))) only [Nat.reduceAdd, Nat.reduceMul, Nat.reduceLT, Int.reduceToNat, Int.reduceAdd, Int.reduceSub, Int.reduceMul, rsU, rsC]
      refine Ok.step (B2.app' (m := [[2, 1]]) n2 (by simp) (fun b _ hb => by ((try simp only [rsD] at *); simp -implicitDefEqProofs (disch := (first | omega | rfl | assumption | (simp only [rsD]; first | omega | assumption))) only [s_bs, s_bn, s_kn, bump_blk])) ⟨[σ2.next], (Lits.cons (r := [2, 1]) (by ((try simp only [rsD] at *); simp -implicitDefEqProofs (disch := (first | omega | rfl | assumption | (simp only [rsD]; first | omega | assumption))) only [s_bs, s_bn, s_kn, bump_blk]); rfl) (by simp) rfl .nil).ow (by simp), by simp <;> omega⟩ (by omega) (by simp)) fun r ⟨a', h1, h2, h3, h4, h5⟩ => ?_
      obtain ⟨z, σ3⟩ := r
      simp only at h1 h2 h3 h4
      subst h1
      have hbk := B2.bk
      simp (config := { maxSteps := 2000000 }) -implicitDefEqProofs (disch := (first | omega | rfl | assumption | (simp only [rsD]; first | omega | assumption))) only [Nat.reduceAdd, Nat.reduceMul, Nat.reduceLT, Int.reduceToNat, Int.reduceAdd, Int.reduceSub, Int.reduceMul, rsU, rsC]
      refine Ok_some.2 ?_
      have := h2.out (σ0 := σ) ⟨by rw [h3]; simp; omega, fun b hb => by rw [h4 b (by omega) (fun hm => by have := hbk b hm; omega)]; ((have x0 := (E2).next); (try simp only [rsD] at *); simp -implicitDefEqProofs (disch := (first | omega | rfl | assumption | (simp only [rsD]; first | omega | assumption))) only [s_bs, s_bn, s_kn, bump_blk, s_ext (E2)])⟩ (Nat.le_refl _)
      simpa using this
  refine fin.mono ?_
  rintro ⟨v, σ'⟩ ⟨h1, h2⟩
  obtain ⟨a, g1, g2⟩ := Row.of rrow_len h1 rfl
  exact ⟨⟨a, g1, g2⟩, h2⟩
end Go.Abs.Try
