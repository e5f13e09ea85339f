/-
  Layer 44: the script of a ring. No conditions.
-/
import Derived.Test.YteklninbijohcaaG3
set_option linter.unusedVariables false
set_option linter.unusedSimpArgs false
set_option linter.constructorNameAsVariable false
set_option linter.unusedSimpArgs false
set_option linter.unusedVariables false
set_option linter.unusedSectionVars false
set_option maxHeartbeats 1000000
namespace Go.Abs.Try
open Go Go.Abs
variable {O : Type}

def onesB (n : Nat) (site : Int) : List (List Int) := (List.range n).flatMap fun (i : Nat) => one_ ((i : Int) + 1) site
theorem onesB_succ (n : Nat) (site : Int) : onesB (n + 1) site = onesB n site ++ one_ ((n : Int) + 1) site := by simp [onesB, List.range_succ]
theorem onesB_len (site : Int) : ∀ n, (onesB n site).length = 4 * n
  | 0 => rfl
  | n + 1 => by rw [onesB_succ, List.length_append, onesB_len site n]; simp [one_]; omega
theorem ones_head (n : Nat) (site : Int) : ones (n + 1) site = one_ 0 site ++ onesB n site := by
  unfold ones onesB
  rw [List.range_succ_eq_map, List.flatMap_cons, List.flatMap_map]
  simp
def ring_ (n site : Int) : List (List Int) := if n < 1 ∨ n > 200 then list_ n site else [[1], [1], [1]] ++ one_ 0 site ++ [[8, 2, 0]] ++ onesB (n.toNat - 1) site ++ [[11, 2, 0, 0], [2, 2], [2, 1]]
theorem range_out1 {n : Int} {k : Int} (c : n < 1 ∨ n > k) : (bif !decide (n < 1) then decide (n > k) else true) = true := by
  rcases c with c | c
  · rw [decide_eq_true c]; rfl
  · rw [decide_eq_true c]; cases decide (n < 1) <;> rfl
theorem Script.im {v : AV} {l : List (List Int)} (h : Script v l) : Im (.sl 24 1 l.length (l.flatMap rrow)) v := by
  obtain ⟨a, rfl, h2⟩ := h.it; exact h2.im 24
theorem rring_ok {σ : AH O} {n site : Int} : Ok (haymowref44_Ring [.i .i64 n, .i .i64 site] σ) fun r => Script r.1 (ring_ n site) ∧ Ext σ r.2 := by
  have fin : Ok (haymowref44_Ring [.i .i64 n, .i .i64 site] σ) fun r => Im (.sl 24 1 (ring_ n site).length ((ring_ n site).flatMap rrow)) r.1 ∧ Ext σ r.2 := by
    refine frz_sl (recs_deep _ _ _ 5 _) ?_
    by_cases c : n < 1 ∨ n > 200
    · have e : ring_ n site = list_ n site := if_pos c
      rw [e]
      have cc := range_out1 c
      simp (config := { maxSteps := 2000000 }) -implicitDefEqProofs (disch := (first | omega | rfl | assumption | (simp only [rsD]; first | omega | assumption))) only [haymowref44_Ring_c, cc, Nat.reduceAdd, Nat.reduceMul, Nat.reduceLT, Int.reduceToNat, Int.reduceAdd, Int.reduceSub, Int.reduceMul, rsU, rsC]
      refine Ok.step rlist_ok fun r ⟨⟨a, g1, g2⟩, g3⟩ => ?_
      obtain ⟨q, σ1⟩ := r
      simp only at g1 g3
      subst g1
      simp (config := { maxSteps := 2000000 }) -implicitDefEqProofs (disch := (first | omega | rfl | assumption | (simp only [rsD]; first | omega | assumption))) only [Nat.reduceAdd, Nat.reduceMul, Nat.reduceLT, Int.reduceToNat, Int.reduceAdd, Int.reduceSub, Int.reduceMul, rsU, rsC]
      exact Ok_some.2 (New.im (.cons (g2.im 24) .nil) g3)
    · obtain ⟨m, rfl⟩ : ∃ m : Nat, n = (m : Int) + 1 := ⟨(n - 1).toNat, by omega⟩
      have e : ring_ ((m : Int) + 1) site = [[1], [1], [1]] ++ one_ 0 site ++ [[8, 2, 0]] ++ onesB m site ++ [[11, 2, 0, 0], [2, 2], [2, 1]] := by
        unfold ring_; rw [if_neg c, show ((m : Int) + 1).toNat - 1 = m by omega]
      have c1 := decide_eq_false (show ¬ ((m : Int) + 1 < 1) by omega)
      have c2 := decide_eq_false (show ¬ ((m : Int) + 1 > 200) by omega)
      simp (config := { maxSteps := 2000000 }) -implicitDefEqProofs (disch := (first | omega | rfl | assumption | (simp only [rsD]; first | omega | assumption))) only [haymowref44_Ring_c, c1, c2, Nat.reduceAdd, Nat.reduceMul, Nat.reduceLT, Int.reduceToNat, Int.reduceAdd, Int.reduceSub, Int.reduceMul, rsU, rsC]
      generalize hσ : AH.put _ (σ.next + 1 + 1 + 1) _ = σ1
      have E : Ext σ σ1 := by rw [← hσ]; exact (ext_of (by (try simp only [rsD] at *); omega) (fun b hb => by (try simp only [rsD] at *); simp -implicitDefEqProofs (disch := (first | omega | rfl | assumption | (simp only [rsD]; first | omega | assumption))) only [s_bn, s_kn, bump_blk]))
      have n1 : σ1.next = σ.next + 5 := by rw [← hσ]; rfl
      have L : Lits σ1 [σ.next, σ.next + 1, σ.next + 1 + 1] [[1], [1], [1]] [.sl (.loc (.n σ.next) 0 1) 1, .sl (.loc (.n (σ.next + 1)) 0 1) 1, .sl (.loc (.n (σ.next + 1 + 1)) 0 1) 1] := by
        subst hσ
        refine .cons ?_ (by omega) rfl (.cons ?_ (by omega) rfl (.cons ?_ (by omega) rfl .nil))
        all_goals (((try simp only [rsD] at *); simp -implicitDefEqProofs (disch := (first | omega | rfl | assumption | (simp only [rsD]; first | omega | assumption))) only [s_bs, s_bn, s_kn, bump_blk]); try rfl)
      have hk : σ1.blk (σ.next + 1 + 1 + 1) = some (.cells true 24 [.sl (.loc (.n σ.next) 0 1) 1, .sl (.loc (.n (σ.next + 1)) 0 1) 1, .sl (.loc (.n (σ.next + 1 + 1)) 0 1) 1]) := by rw [← hσ]; exact s_bs
      have B : BldO σ.next σ1 24 1 rrow (.loc (.n (σ.next + 1 + 1 + 1)) 0 1) [[1], [1], [1]] := L.bld (n := 0) (by simp; omega) hk (by omega) (by simp <;> omega) ⟨by omega, by simp; omega⟩
      -- the block that is reserved is not in use
      have free : ∀ nid, nid = σ.next + 1 + 1 + 1 + 1 → ∀ {σ2 : AH O} {new : List AV}, Ext σ1 σ2 → ImL ((one_ 0 site).flatMap rrow) new → Ok (σ2.appSl nid 24 1 (.loc (.n (σ.next + 1 + 1 + 1)) 0 1) 3 4 new) fun r => ∃ a', r.1 = .sl a' 7 ∧ BldO σ.next r.2 24 1 rrow a' ([[1], [1], [1]] ++ one_ 0 site) ∧ Ext σ r.2 := by
        intro nid hnid σ2 new E2 hnew
        have n2 := E2.next
        have vs := OwnP.new (σ := σ2) (el := 24) (es := 1) (n := 3) (b := σ.next + 1 + 1 + 1) (cs := [.sl (.loc (.n σ.next) 0 1) 1, .sl (.loc (.n (σ.next + 1)) 0 1) 1, .sl (.loc (.n (σ.next + 1 + 1)) 0 1) 1]) (rest := []) rfl (by rw [E2.blk _ (by omega)]; exact hk) (by omega)
        have ow : OwL σ2 ([[1], [1], [1]].flatMap rrow) [.sl (.loc (.n σ.next) 0 1) 1, .sl (.loc (.n (σ.next + 1)) 0 1) 1, .sl (.loc (.n (σ.next + 1 + 1)) 0 1) 1] [σ.next, σ.next + 1, σ.next + 1 + 1] := (L.ow (by simp; omega)).of n2 fun b hb => E2.blk b (by simp at hb; omega)
        have all := ow.app (OwL.im (σ := σ2) hnew) (by simp)
        refine (app_okP vs (nid := nid) (new := new) (m := 4) (by simp [SA.bk]; omega) (by omega) (by rw [hnew.len, fmt_len rrow_len]; rfl)).mono ?_
        rintro ⟨q, σ3⟩ ⟨a', g1, g2, g3, g4, g5⟩
        simp only at g1 g2 g3 g4
        refine ⟨a', g1, ⟨rrow_len, _, _, g2, by rw [List.flatMap_append]; exact all.of (by show σ2.next ≤ σ3.next; omega) fun b hb => g4 b (by simp at hb; omega) (by simp [SA.bk] at hb ⊢; omega), fun b hb hm => by have := g5 b hb; simp at hm; omega, fun b hb => ?_⟩, ⟨by show σ.next ≤ σ3.next; omega, fun b hb => ?_⟩⟩
        · rcases List.mem_append.1 hb with hb | hb
          · have := g5 b hb; omega
          · simp at hb; omega
        · show σ3.blk b = _
          rw [g4 b (by omega) (by simp [SA.bk]; omega), E2.blk b (by omega), E.blk b hb]
      clear hσ
      refine Ok.step rone_ok fun r ⟨⟨o, g1, g2⟩, g3⟩ => ?_
      obtain ⟨z, σ2⟩ := r
      simp only at g1 g3
      subst g1
      obtain ⟨new, w1, w2, w3⟩ := g2.all
      have w3' : ∀ σ : AH O, σ.rdSl o 4 1 = some new := fun σ => w3 O σ
      simp (config := { maxSteps := 2000000 }) -implicitDefEqProofs (disch := (first | omega | rfl | assumption | (simp only [rsD]; first | omega | assumption))) only [w3', Nat.reduceAdd, Nat.reduceMul, Nat.reduceLT, Int.reduceToNat, Int.reduceAdd, Int.reduceSub, Int.reduceMul, rsU, rsC]
      refine Ok.step (free _ rfl g3 w2) fun r ⟨a', h1, B, E3⟩ => ?_
      obtain ⟨z, σ3⟩ := r
      simp only at h1 B E3
      subst h1
      have n3 := E3.next
      simp (config := { maxSteps := 2000000 }) -implicitDefEqProofs (disch := (first | omega | rfl | assumption | (simp only [rsD]; first | omega | assumption))) only [Nat.reduceAdd, Nat.reduceMul, Nat.reduceLT, Int.reduceToNat, Int.reduceAdd, Int.reduceSub, Int.reduceMul, rsU, rsC]
      refine Ok.step (B.app' (m := [[8, 2, 0]]) n3 (by simp) (fun b _ hb => by ((try simp only [rsD] at *); simp -implicitDefEqProofs (disch := (first | omega | rfl | assumption | (simp only [rsD]; first | omega | assumption))) only [s_bs, s_bn, s_kn, bump_blk])) ⟨[σ3.next], (Lits.cons (r := [8, 2, 0]) (by ((try simp only [rsD] at *); simp -implicitDefEqProofs (disch := (first | omega | rfl | assumption | (simp only [rsD]; first | omega | assumption))) only [s_bs, s_bn, s_kn, bump_blk]); rfl) (by simp) rfl .nil).ow (by simp), by simp <;> omega⟩ (by omega) (by simp)) fun r ⟨a4, h1, h2, h3, h4, h5⟩ => ?_
      obtain ⟨z, σ4⟩ := r
      simp only at h1 h2 h3 h4
      subst h1
      have hbk := B.bk
      have E4 : Ext σ σ4 := ⟨by rw [h3]; simp; omega, fun b hb => by rw [h4 b (by omega) (fun hm => by have := hbk b hm; omega)]; ((have x0 := (E3).next); (try simp only [rsD] at *); simp -implicitDefEqProofs (disch := (first | omega | rfl | assumption | (simp only [rsD]; first | omega | assumption))) only [s_bs, s_bn, s_kn, bump_blk, s_ext (E3)])⟩
      have hb4 : σ4.blk = σ4.blk := rfl
      clear h3 h4 h5 hbk B
      have hlen0 : ([[1], [1], [1]] ++ one_ 0 site ++ [[8, 2, 0]]).length = 8 := rfl
      simp (config := { maxSteps := 2000000 }) -implicitDefEqProofs (disch := (first | omega | rfl | assumption | (simp only [rsD]; first | omega | assumption))) only [Nat.reduceAdd, Nat.reduceMul, Nat.reduceLT, Int.reduceToNat, Int.reduceAdd, Int.reduceSub, Int.reduceMul, rsU, rsC]
      have lp : Ok (loopF (S := List AV × AH O) (T := List AV × AH O) (haymowref44_Ring_L1 ((m : Int) + 1) haymowref44_one site) ([.sl a4 8, .i .i64 1], σ4)) fun r => ∃ a σ', r = ([.sl a ([[1], [1], [1]] ++ one_ 0 site ++ [[8, 2, 0]] ++ onesB m site).length], σ') ∧ BldO σ.next σ' 24 1 rrow a ([[1], [1], [1]] ++ one_ 0 site ++ [[8, 2, 0]] ++ onesB m site) ∧ Ext σ σ' := by
        refine Ok.count m (fun k s => ∃ a σ', s = ([.sl a ([[1], [1], [1]] ++ one_ 0 site ++ [[8, 2, 0]] ++ onesB k site).length, .i .i64 ((k : Int) + 1)], σ') ∧ BldO σ.next σ' 24 1 rrow a ([[1], [1], [1]] ++ one_ 0 site ++ [[8, 2, 0]] ++ onesB k site) ∧ Ext σ σ') ?_ ?_ ⟨a4, σ4, by simp [onesB, one_], by simpa [onesB] using h2, E4⟩
        · rintro k s hk ⟨a, σ5, rfl, B, E5⟩
          have hl : ([[1], [1], [1]] ++ one_ 0 site ++ [[8, 2, 0]] ++ onesB k site).length = 4 * k + 8 := by rw [List.length_append, onesB_len, hlen0]; omega
          have eq : [[1], [1], [1]] ++ one_ 0 site ++ [[8, 2, 0]] ++ onesB (k + 1) site = [[1], [1], [1]] ++ one_ 0 site ++ [[8, 2, 0]] ++ onesB k site ++ one_ ((k : Int) + 1) site := by rw [onesB_succ]; simp only [List.append_assoc]
          rw [eq]
          clear eq
          generalize [[1], [1], [1]] ++ one_ 0 site ++ [[8, 2, 0]] ++ onesB k site = Lk at *
          simp (config := { maxSteps := 2000000 }) -implicitDefEqProofs (disch := (first | omega | rfl | assumption | (simp only [rsD]; first | omega | assumption))) only [haymowref44_Ring_L1, Nat.reduceAdd, Nat.reduceMul, Nat.reduceLT, Int.reduceToNat, Int.reduceAdd, Int.reduceSub, Int.reduceMul, rsU, rsC]
          refine Ok.step rone_ok fun r ⟨⟨o, g1, g2⟩, g3⟩ => ?_
          obtain ⟨z, σ6⟩ := r
          simp only at g1 g3
          subst g1
          obtain ⟨new, w1, w2, w3⟩ := g2.all
          have w3' : ∀ σ : AH O, σ.rdSl o 4 1 = some new := fun σ => w3 O σ
          have n3 := g3.next
          have n2 := E5.next
          simp only [rsD] at n3
          have E6 : Ext σ σ6 := (ext_of (by (have x0 := (g3).next); (have x1 := (E5).next); (try simp only [rsD] at *); omega) (fun b hb => by (have x0 := (g3).next); (have x1 := (E5).next); (try simp only [rsD] at *); simp -implicitDefEqProofs (disch := (first | omega | rfl | assumption | (simp only [rsD]; first | omega | assumption))) only [s_bn, s_kn, bump_blk, s_ext (g3), s_ext (E5)]))
          simp (config := { maxSteps := 2000000 }) -implicitDefEqProofs (disch := (first | omega | rfl | assumption | (simp only [rsD]; first | omega | assumption))) only [w3', Nat.reduceAdd, Nat.reduceMul, Nat.reduceLT, Int.reduceToNat, Int.reduceAdd, Int.reduceSub, Int.reduceMul, rsU, rsC]
          have app := B.app' (σ3 := σ6) (nid := σ5.next) (new := new) (m := one_ ((k : Int) + 1) site) n2 (by omega) (fun b _ hb => by ((have x0 := (g3).next); (try simp only [rsD] at *); simp -implicitDefEqProofs (disch := (first | omega | rfl | assumption | (simp only [rsD]; first | omega | assumption))) only [s_bs, s_bn, s_kn, bump_blk, s_ext (g3)])) ⟨[], OwL.im w2, by simp⟩ (Nat.le_refl _) (by omega)
          rw [show (one_ ((k : Int) + 1) site).length = 4 from rfl] at app
          refine Ok.step app fun r ⟨a', h1, h2, h3, h4, h5⟩ => ?_
          obtain ⟨z, σ7⟩ := r
          simp only at h1 h2 h3 h4
          subst h1
          have hbk := B.bk
          simp (config := { maxSteps := 2000000 }) -implicitDefEqProofs (disch := (first | omega | rfl | assumption | (simp only [rsD]; first | omega | assumption))) only [Nat.reduceAdd, Nat.reduceMul, Nat.reduceLT, Int.reduceToNat, Int.reduceAdd, Int.reduceSub, Int.reduceMul, rsU, rsC]
          refine Ok_some.2 ⟨a', σ7, by simp [one_], h2, ⟨by omega, fun b hb => ?_⟩⟩
          rw [h4 b (by omega) (fun hm => by have := hbk b hm; omega)]; exact E6.blk b hb
        · rintro s ⟨a, σ5, rfl, B, E5⟩
          simp (config := { maxSteps := 2000000 }) -implicitDefEqProofs (disch := (first | omega | rfl | assumption | (simp only [rsD]; first | omega | assumption))) only [haymowref44_Ring_L1, Nat.reduceAdd, Nat.reduceMul, Nat.reduceLT, Int.reduceToNat, Int.reduceAdd, Int.reduceSub, Int.reduceMul, rsU, rsC]
          exact Ok_some.2 ⟨a, σ5, rfl, B, E5⟩
      refine Ok.step lp ?_
      rintro _ ⟨a, σ5, rfl, B2, E5⟩
      have hl : ([[1], [1], [1]] ++ one_ 0 site ++ [[8, 2, 0]] ++ onesB m site).length = 4 * m + 8 := by rw [List.length_append, onesB_len, hlen0]; omega
      have n2 := E5.next
      rw [e]
      generalize [[1], [1], [1]] ++ one_ 0 site ++ [[8, 2, 0]] ++ onesB m site = Lm at *
      simp (config := { maxSteps := 2000000 }) -implicitDefEqProofs (disch := (first | omega | rfl | assumption | (simp only [rsD]; first | omega | assumption))) only [Nat.reduceAdd, Nat.reduceMul, Nat.reduceLT, Int.reduceToNat, Int.reduceAdd, Int.reduceSub, Int.reduceMul, rsU, rsC]
      refine Ok.step (B2.app' (m := [[11, 2, 0, 0], [2, 2], [2, 1]]) n2 (by simp) (fun b _ hb => by ((try simp only [rsD] at *); simp -implicitDefEqProofs (disch := (first | omega | rfl | assumption | (simp only [rsD]; first | omega | assumption))) only [s_bs, s_bn, s_kn, bump_blk])) ⟨[σ5.next, σ5.next + 1, σ5.next + 1 + 1], (Lits.cons (r := [11, 2, 0, 0]) (by ((try simp only [rsD] at *); simp -implicitDefEqProofs (disch := (first | omega | rfl | assumption | (simp only [rsD]; first | omega | assumption))) only [s_bs, s_bn, s_kn, bump_blk]); rfl) (by simp) rfl (Lits.cons (r := [2, 2]) (by ((try simp only [rsD] at *); simp -implicitDefEqProofs (disch := (first | omega | rfl | assumption | (simp only [rsD]; first | omega | assumption))) only [s_bs, s_bn, s_kn, bump_blk]); rfl) (by simp) rfl (Lits.cons (r := [2, 1]) (by ((try simp only [rsD] at *); simp -implicitDefEqProofs (disch := (first | omega | rfl | assumption | (simp only [rsD]; first | omega | assumption))) only [s_bs, s_bn, s_kn, bump_blk]); rfl) (by simp) rfl .nil))).ow (by simp <;> omega), by simp <;> omega⟩ (by omega) (by simp)) fun r ⟨a', h1, h2, h3, h4, h5⟩ => ?_
      obtain ⟨z, σ6⟩ := r
      simp only at h1 h2 h3 h4
      subst h1
      have hbk := B2.bk
      simp (config := { maxSteps := 2000000 }) -implicitDefEqProofs (disch := (first | omega | rfl | assumption | (simp only [rsD]; first | omega | assumption))) only [Nat.reduceAdd, Nat.reduceMul, Nat.reduceLT, Int.reduceToNat, Int.reduceAdd, Int.reduceSub, Int.reduceMul, rsU, rsC]
      refine Ok_some.2 ?_
      have := h2.out (σ0 := σ) ⟨by rw [h3]; simp; omega, fun b hb => by rw [h4 b (by omega) (fun hm => by have := hbk b hm; omega)]; ((have x0 := (E5).next); (try simp only [rsD] at *); simp -implicitDefEqProofs (disch := (first | omega | rfl | assumption | (simp only [rsD]; first | omega | assumption))) only [s_bs, s_bn, s_kn, bump_blk, s_ext (E5)])⟩ (Nat.le_refl _)
      simpa using this
  refine fin.mono ?_
  rintro ⟨v, σ'⟩ ⟨h1, h2⟩
  obtain ⟨a, g1, g2⟩ := Row.of rrow_len h1 rfl
  exact ⟨⟨a, g1, g2⟩, h2⟩
/-- frozen records are gathered -/
theorem Mk.appf {σ : AH O} {mb base : Nat} {L m : List (List Int)} (h : Mk base σ mb L) {new : List AV} (hm : ImL (m.flatMap rrow) new) : ∃ a el, σ.blk mb = some (.cells true el [.sl a L.length]) ∧ Ok ((σ.bump 1).appSl σ.next 24 1 a L.length m.length new) fun r => ∃ a', r.1 = .sl a' (L.length + m.length) ∧ r.2.blk mb = some (.cells true el [.sl a L.length]) ∧ Made base σ mb (L ++ m) (r.2.put mb (.cells true el [.sl a' (L.length + m.length)])) := by
  obtain ⟨⟨a, el, hb, B⟩, hlt, htop⟩ := h
  refine ⟨a, el, hb, (B.app' htop (by simp) (fun b _ _ => by ((try simp only [rsD] at *); simp -implicitDefEqProofs (disch := (first | omega | rfl | assumption | (simp only [rsD]; first | omega | assumption))) only [s_bs, s_bn, s_kn, bump_blk])) ⟨[], OwL.im hm, by simp⟩ (Nat.le_refl _) (by simp)).mono ?_⟩
  rintro ⟨q, σ2⟩ ⟨a', h1, h2, h3, h4, h5⟩
  simp only at h1 h2 h3 h4
  have hbk := B.bk
  have n2 : σ2.next = σ.next + 1 := by rw [h3]; simp
  have keep : ∀ b, b < base → σ2.blk b = σ.blk b := fun b hb => by rw [h4 b (by omega) (fun hm => by have := hbk b hm; omega)]; ((try simp only [rsD] at *); simp -implicitDefEqProofs (disch := (first | omega | rfl | assumption | (simp only [rsD]; first | omega | assumption))) only [s_bs, s_bn, s_kn, bump_blk])
  refine ⟨a', h1, (keep mb hlt).trans hb, ⟨⟨a', el, by rw [s_bs]; simp, h2.keep (by simp) fun b hb hm => s_bn (by omega)⟩, hlt, by simp; omega⟩, by simp; omega, fun b hb hne => by rw [s_bn hne]; exact keep b hb⟩
theorem lring_ok {σ : AH O} {n site : Int} : Ok (load_Ring [.i .i64 n, .i .i64 site] σ) fun r => Script r.1 (ring_ n site) ∧ Ext σ r.2 := by
  have fin : Ok (load_Ring [.i .i64 n, .i .i64 site] σ) fun r => Im (.sl 24 1 (ring_ n site).length ((ring_ n site).flatMap rrow)) r.1 ∧ Ext σ r.2 := by
    refine frz_sl (recs_deep _ _ _ 5 _) ?_
    simp (config := { maxSteps := 2000000 }) -implicitDefEqProofs (disch := (first | omega | rfl | assumption | (simp only [rsD]; first | omega | assumption))) only [load_Ring_c, Nat.reduceAdd, Nat.reduceMul, Nat.reduceLT, Int.reduceToNat, Int.reduceAdd, Int.reduceSub, Int.reduceMul, rsU, rsC]
    refine Ok.step lload_ok fun r ⟨⟨⟨o, g1, g2⟩, g0⟩, g3⟩ => ?_
    obtain ⟨q, σ1⟩ := r
    simp only at g1 g0 g3
    subst g1
    by_cases c : n < 1 ∨ n > 200
    · have e : ring_ n site = list_ n site := if_pos c
      rw [e]
      have cc : (bif !decide (n < 1) then SA.isNil o else true) = true := by
        by_cases c1 : n < 1
        · rw [decide_eq_true c1]; rfl
        · rw [decide_eq_false c1]
          have := g0 (.inr (by omega))
          simp only [AV.sl.injEq] at this
          rw [this.1]; rfl
      simp (config := { maxSteps := 2000000 }) -implicitDefEqProofs (disch := (first | omega | rfl | assumption | (simp only [rsD]; first | omega | assumption))) only [cc, Nat.reduceAdd, Nat.reduceMul, Nat.reduceLT, Int.reduceToNat, Int.reduceAdd, Int.reduceSub, Int.reduceMul, rsU, rsC]
      exact Ok_some.2 (New.im (.cons (g2.im 24) .nil) g3)
    · obtain ⟨m, rfl⟩ : ∃ m : Nat, n = (m : Int) + 1 := ⟨(n - 1).toNat, by omega⟩
      have e : ring_ ((m : Int) + 1) site = [] ++ [[1]] ++ [[1]] ++ [[1]] ++ one_ 0 site ++ [[8, 2, 0]] ++ onesB m site ++ [[11, 2, 0, 0]] ++ [[2, 2]] ++ [[2, 1]] := by
        unfold ring_; rw [if_neg c, show ((m : Int) + 1).toNat - 1 = m by omega]; simp
      have el : list_ ((m : Int) + 1) site = [[1], [1]] ++ one_ 0 site ++ onesB m site ++ [[2, 1]] := by
        unfold list_; rw [if_neg (by omega), show ((m : Int) + 1).toNat = m + 1 by omega, ones_head]; simp
      have ll : (list_ ((m : Int) + 1) site).length = 4 * m + 7 := by rw [el]; simp [onesB_len, one_] <;> omega
      have nn : SA.isNil o = false := Row.some g2 (by intro h; rw [h] at ll; simp at ll)
      have c1 := decide_eq_false (show ¬ ((m : Int) + 1 < 1) by omega)
      simp (config := { maxSteps := 2000000 }) -implicitDefEqProofs (disch := (first | omega | rfl | assumption | (simp only [rsD]; first | omega | assumption))) only [c1, nn, Nat.reduceAdd, Nat.reduceMul, Nat.reduceLT, Int.reduceToNat, Int.reduceAdd, Int.reduceSub, Int.reduceMul, rsU, rsC]
      refine Ok.step (add_nil Mk.start (by simp)) fun r ⟨g1, k1⟩ => ?_
      obtain ⟨q, σ2⟩ := r
      simp only at g1 k1
      subst g1
      simp (config := { maxSteps := 2000000 }) -implicitDefEqProofs (disch := (first | omega | rfl | assumption | (simp only [rsD]; first | omega | assumption))) only [Nat.reduceAdd, Nat.reduceMul, Nat.reduceLT, Int.reduceToNat, Int.reduceAdd, Int.reduceSub, Int.reduceMul, rsU, rsC]
      refine Ok.step (add_nil k1.m (by simp)) fun r ⟨g1, k2⟩ => ?_
      obtain ⟨q, σ3⟩ := r
      simp only at g1 k2
      subst g1
      simp (config := { maxSteps := 2000000 }) -implicitDefEqProofs (disch := (first | omega | rfl | assumption | (simp only [rsD]; first | omega | assumption))) only [Nat.reduceAdd, Nat.reduceMul, Nat.reduceLT, Int.reduceToNat, Int.reduceAdd, Int.reduceSub, Int.reduceMul, rsU, rsC]
      refine Ok.step (add_nil k2.m (by simp)) fun r ⟨g1, k3⟩ => ?_
      obtain ⟨q, σ4⟩ := r
      simp only at g1 k3
      subst g1
      -- the first object's calls
      obtain ⟨a1, p1, p2⟩ := g2.part (lo := 2) (n := 4) (by omega)
      have t1 : ((list_ ((m : Int) + 1) site).drop 2).take 4 = one_ 0 site := by rw [el]; simp [one_]
      rw [t1] at p2
      obtain ⟨new1, w1, w2, w3⟩ := p2.all
      have w3' : ∀ σ : AH O, σ.rdSl a1 4 1 = some new1 := fun σ => w3 O σ
      obtain ⟨b1, e1, y1, y2⟩ := k3.m.appf w2
      have d6 : decide ((6 : Int) ≤ ((list_ ((m : Int) + 1) site).length : Int)) = true := decide_eq_true (by omega)
      simp (config := { maxSteps := 2000000 }) -implicitDefEqProofs (disch := (first | omega | rfl | assumption | (simp only [rsD]; first | omega | assumption))) only [y1, d6, p1, w3', Nat.reduceSub, Nat.reduceAdd, Nat.reduceMul, Nat.reduceLT, Int.reduceToNat, Int.reduceAdd, Int.reduceSub, Int.reduceMul, rsU, rsC]
      refine Ok.step y2 fun r ⟨b2, g1, z1, k4⟩ => ?_
      obtain ⟨q, σ5⟩ := r
      simp only at g1 z1 k4
      subst g1
      simp (config := { maxSteps := 2000000 }) -implicitDefEqProofs (disch := (first | omega | rfl | assumption | (simp only [rsD]; first | omega | assumption))) only [z1, Nat.reduceAdd, Nat.reduceMul, Nat.reduceLT, Int.reduceToNat, Int.reduceAdd, Int.reduceSub, Int.reduceMul, rsU, rsC]
      refine Ok.step (add_new (args := [2, 0]) k4.m (by simp [one_]) (by simp) rfl) fun r ⟨g1, k5⟩ => ?_
      obtain ⟨q, σ6⟩ := r
      simp only at g1 k5
      subst g1
      -- the others'
      obtain ⟨a2, p3, p4⟩ := g2.part (lo := 6) (n := 4 * m) (by omega)
      have t2 : ((list_ ((m : Int) + 1) site).drop 6).take (4 * m) = onesB m site := by
        rw [el]
        have h6 : ([[1], [1]] ++ one_ 0 site).length = 6 := rfl
        rw [List.append_assoc ([[1], [1]] ++ one_ 0 site), ← h6, List.drop_left, ← onesB_len site m, List.take_left]
      rw [t2] at p4
      obtain ⟨new2, w4, w5, w6⟩ := p4.all
      rw [onesB_len] at w6
      have w6' : ∀ σ : AH O, σ.rdSl a2 (4 * m) 1 = some new2 := fun σ => w6 O σ
      obtain ⟨b3, e3, y3, y4⟩ := k5.m.appf w5
      rw [onesB_len] at y4
      have v1 : ((((list_ ((m : Int) + 1) site).length : Int) - 1).toNat - 6) = 4 * m := by omega
      have d7 : decide ((6 : Int) ≤ (((list_ ((m : Int) + 1) site).length : Int) - 1)) = true := decide_eq_true (by omega)
      have hL : ([] ++ [[1]] ++ [[1]] ++ [[1]] ++ one_ 0 site ++ [[8, 2, 0]]).length = 8 := rfl
      generalize [] ++ [[1]] ++ [[1]] ++ [[1]] ++ one_ 0 site ++ [[8, 2, 0]] = L8 at *
      simp (config := { maxSteps := 2000000 }) -implicitDefEqProofs (disch := (first | omega | rfl | assumption | (simp only [rsD]; first | omega | assumption))) only [y3, d7, p3, v1, w6', Nat.reduceAdd, Nat.reduceMul, Nat.reduceLT, Int.reduceToNat, Int.reduceAdd, Int.reduceSub, Int.reduceMul, rsU, rsC]
      refine Ok.step y4 fun r ⟨b4, g1, z2, k6⟩ => ?_
      obtain ⟨q, σ7⟩ := r
      simp only at g1 z2 k6
      subst g1
      have h4m := onesB_len site m
      simp (config := { maxSteps := 2000000 }) -implicitDefEqProofs (disch := (first | omega | rfl | assumption | (simp only [rsD]; first | omega | assumption))) only [z2, Nat.reduceAdd, Nat.reduceMul, Nat.reduceLT, Int.reduceToNat, Int.reduceAdd, Int.reduceSub, Int.reduceMul, rsU, rsC]
      refine Ok.step (add_new (args := [2, 0, 0]) k6.m (by simp; omega) (by simp) rfl) fun r ⟨g1, k7⟩ => ?_
      obtain ⟨q, σ8⟩ := r
      simp only at g1 k7
      subst g1
      simp (config := { maxSteps := 2000000 }) -implicitDefEqProofs (disch := (first | omega | rfl | assumption | (simp only [rsD]; first | omega | assumption))) only [Nat.reduceAdd, Nat.reduceMul, Nat.reduceLT, Int.reduceToNat, Int.reduceAdd, Int.reduceSub, Int.reduceMul, rsU, rsC]
      refine Ok.step (add_new (args := [2]) k7.m (by simp; omega) (by simp) rfl) fun r ⟨g1, k8⟩ => ?_
      obtain ⟨q, σ9⟩ := r
      simp only at g1 k8
      subst g1
      simp (config := { maxSteps := 2000000 }) -implicitDefEqProofs (disch := (first | omega | rfl | assumption | (simp only [rsD]; first | omega | assumption))) only [Nat.reduceAdd, Nat.reduceMul, Nat.reduceLT, Int.reduceToNat, Int.reduceAdd, Int.reduceSub, Int.reduceMul, rsU, rsC]
      refine Ok.step (add_new (args := [1]) k8.m (by simp; omega) (by simp) rfl) fun r ⟨g1, k9⟩ => ?_
      obtain ⟨q, σ10⟩ := r
      simp only at g1 k9
      subst g1
      obtain ⟨a, elt, h1, h2⟩ := (k1.trans (k2.trans (k3.trans (k4.trans (k5.trans (k6.trans (k7.trans (k8.trans k9)))))))).out (σ0 := σ) (ext_of (by (have x0 := (g3).next); (try simp only [rsD] at *); omega) (fun b hb => by (have x0 := (g3).next); (try simp only [rsD] at *); simp -implicitDefEqProofs (disch := (first | omega | rfl | assumption | (simp only [rsD]; first | omega | assumption))) only [s_bn, s_kn, bump_blk, s_ext (g3)])) g3.next
      rw [← e] at h1 h2
      simp (config := { maxSteps := 2000000 }) -implicitDefEqProofs (disch := (first | omega | rfl | assumption | (simp only [rsD]; first | omega | assumption))) only [h1, Nat.reduceAdd, Nat.reduceMul, Nat.reduceLT, Int.reduceToNat, Int.reduceAdd, Int.reduceSub, Int.reduceMul, rsU, rsC]
      exact Ok_some.2 h2
  refine fin.mono ?_
  rintro ⟨v, σ'⟩ ⟨h1, h2⟩
  obtain ⟨a, g1, g2⟩ := Row.of rrow_len h1 rfl
  exact ⟨⟨a, g1, g2⟩, h2⟩
end Go.Abs.Try
