/-
  PoolLinks. No conditions.
-/
import Derived.Test.YtkbkdbjneeineaaL10r
set_option linter.unusedVariables false
set_option linter.unusedSimpArgs false
set_option linter.constructorNameAsVariable false
set_option linter.unusedSimpArgs false
set_option linter.unusedVariables false
set_option linter.unusedSectionVars false
set_option maxHeartbeats 2000000
namespace Go.Abs.Try
open Go Go.Abs
variable {O : Type}

theorem s_nf {a b : Nat} (h : a ≠ b) : Nat.beq a b = false := by
  cases e : Nat.beq a b with
  | false => rfl
  | true => exact absurd (Nat.eq_of_beq_eq_true e) h
theorem mod_nat {x : Int} {W : Nat} (hx : 0 ≤ x ∧ x ≤ 255) : Int.tmod (IntKind.i64.wrap x) (W : Int) = ((x.toNat % W : Nat) : Int) := by
  rw [s_i64 (by omega), s_tmod hx.1]
  obtain ⟨n, rfl⟩ := Int.eq_ofNat_of_zero_le hx.1
  simp
theorem poolLinks_ok {σ : AH O} {W0 n a b : Int} (hn : 0 ≤ n ∧ n ≤ 255) (ha : 0 ≤ a ∧ a ≤ 255) (hb : 0 ≤ b ∧ b ≤ 255) : Ok (law10_PoolLinks [.i .i64 W0, .i .u8 n, .agg [.i .u8 a, .i .u8 b]] σ) fun r => r.1 = .b true := by
  simp (config := { maxSteps := 2000000 }) -implicitDefEqProofs (disch := (first | omega | rfl | assumption | (simp only [rsD]; first | omega | assumption))) only [law10_PoolLinks, law10_PoolLinks_c, Nat.reduceAdd, Nat.reduceMul, Nat.reduceLT, Int.reduceToNat, Int.reduceAdd, Int.reduceSub, Int.reduceMul, rsU, rsC]
  generalize hσ : (σ.bump 1).put σ.next (.cells true _ _) = σ0
  obtain ⟨E0, b0, n0⟩ := boxed hσ
  clear hσ
  refine Ok.step (awake10x (X := [σ.next]) (by simp; omega)) fun r ⟨g1, g2⟩ => ?_
  obtain ⟨q, σ1⟩ := r
  simp only at g1 g2
  subst g1
  have b1 : σ1.blk σ.next = _ := (g2.blk _ (by simp)).trans b0
  have n1 := g2.next
  simp (config := { maxSteps := 2000000 }) -implicitDefEqProofs (disch := (first | omega | rfl | assumption | (simp only [rsD]; first | omega | assumption))) only [Nat.reduceAdd, Nat.reduceMul, Nat.reduceLT, Int.reduceToNat, Int.reduceAdd, Int.reduceSub, Int.reduceMul, rsU, rsC]
  refine Ok.step (newX (X := [σ.next]) (by simp; omega)) fun r ⟨g3, g4, g5⟩ => ?_
  obtain ⟨q, σ2⟩ := r
  simp only at g3 g4 g5
  subst g3
  have b2 : σ2.blk σ.next = _ := (g5.blk _ (by omega)).trans b1
  have e0 : ((0 : Int) != 0) = false := rfl
  have e1 : ((1 : Int) != 1) = false := rfl
  have e2 : ((1 : Int) == 1) = true := rfl
  by_cases c : W0 < 1 ∨ W0 > 60
  · have pn := pnew_bad (σ := σ2) (p := some (.n σ1.next, 0)) (n := W0) (.inr c)
    have pn2 := pnew_bad (σ := σ2) (p := none) (n := 2) (.inl rfl)
    simp (config := { maxSteps := 2000000 }) -implicitDefEqProofs (disch := (first | omega | rfl | assumption | (simp only [rsD]; first | omega | assumption))) only [pn, pn2, beq_self_eq_true, Nat.reduceAdd, Nat.reduceMul, Nat.reduceLT, Int.reduceToNat, Int.reduceAdd, Int.reduceSub, Int.reduceMul, rsU, rsC]
    rcases Int.lt_or_le W0 1 with c1 | c1
    · have d1 : decide (W0 < 1) = true := decide_eq_true c1
      simp (config := { maxSteps := 2000000 }) -implicitDefEqProofs (disch := (first | omega | rfl | assumption | (simp only [rsD]; first | omega | assumption))) only [d1, beq_self_eq_true, Option.isNone_none, Nat.reduceAdd, Nat.reduceMul, Nat.reduceLT, Int.reduceToNat, Int.reduceAdd, Int.reduceSub, Int.reduceMul, rsU, rsC]
      exact Ok_some.2 rfl
    · have d1 : decide (W0 < 1) = false := decide_eq_false (by omega)
      have d2 : decide (W0 > 60) = true := decide_eq_true (by omega)
      simp (config := { maxSteps := 2000000 }) -implicitDefEqProofs (disch := (first | omega | rfl | assumption | (simp only [rsD]; first | omega | assumption))) only [d1, d2, beq_self_eq_true, Option.isNone_none, Nat.reduceAdd, Nat.reduceMul, Nat.reduceLT, Int.reduceToNat, Int.reduceAdd, Int.reduceSub, Int.reduceMul, rsU, rsC]
      exact Ok_some.2 rfl
  obtain ⟨W, rfl⟩ : ∃ W : Nat, W0 = W := ⟨W0.toNat, by omega⟩
  have hW : 1 ≤ W ∧ W ≤ 60 := by omega
  simp (config := { maxSteps := 2000000 }) -implicitDefEqProofs (disch := (first | omega | rfl | assumption | (simp only [rsD]; first | omega | assumption))) only [Nat.reduceAdd, Nat.reduceMul, Nat.reduceLT, Int.reduceToNat, Int.reduceAdd, Int.reduceSub, Int.reduceMul, rsU, rsC]
  refine Ok.step (pnew_ok g4 ⟨by decide, by decide⟩ (by decide) hW) fun r ⟨pb, k1, k2, k3, k4⟩ => ?_
  obtain ⟨q, σ3⟩ := r
  simp only at k1 k2 k3 k4
  subst k1
  have b3 : σ3.blk σ.next = _ := (k4.blk _ (by simp)).trans b2
  have pn2 := pnew_bad (σ := σ3) (p := none) (n := 2) (.inl rfl)
  have d1 : decide ((W : Int) < 1) = false := decide_eq_false (by omega)
  have d2 : decide ((W : Int) > 60) = false := decide_eq_false (by omega)
  have pm := pmade_ok k2
  have pc := pcount_ok k2
  simp only [List.length_nil] at pm pc
  have z0 : (((0 : Nat) : Int) != 0) = false := rfl
  have w0 : ((W : Int) == 0) = false := beq_eq_false_iff_ne.2 (by omega)
  have m1 := mod_nat (W := W) ha
  have m2 := mod_nat (W := W) hb
  have hx1 : a.toNat % W < W := Nat.mod_lt _ (by omega)
  have hx2 : b.toNat % W < W := Nat.mod_lt _ (by omega)
  generalize a.toNat % W = nx at m1 hx1
  generalize b.toNat % W = pv at m2 hx2
  generalize hS0 : (⟨ff MemS.new.sp, W, 0, [], [], 0⟩ : PoolS) = S0 at k2
  have hS0w : S0.words = W := by rw [← hS0]
  have ps := pspace_ok (σ := σ3) k2
  have m1' : Int.tmod a (W : Int) = (nx : Int) := by rw [← m1, s_i64 (by omega)]
  have m2' : Int.tmod b (W : Int) = (pv : Int) := by rw [← m2, s_i64 (by omega)]
  simp (config := { maxSteps := 2000000 }) -implicitDefEqProofs (disch := (first | omega | rfl | assumption | (simp only [rsD]; first | omega | assumption))) only [pn2, d1, d2, Option.isNone_some, beq_self_eq_true, pm, pc, z0, w0, b3, m1', m2', Int.cast_ofNat_Int, Nat.reduceAdd, Nat.reduceMul, Nat.reduceLT, Int.reduceToNat, Int.reduceAdd, Int.reduceSub, Int.reduceMul, rsU, rsC]
  have pt := k2.ext ((Ext.refl σ3).bump 1)
  refine Ok.step (ptable_ok pt (nx := nx) (pv := pv) (by omega) (by omega)) fun r ⟨h3, h4⟩ => ?_
  obtain ⟨q, σ4⟩ := r
  simp only at h3 h4
  subst h3
  have n4 := h4.next
  simp only [bump_next] at n4
  have hw1 : ((S0.words : Int) + 1 == (W : Int) + 1) = true := by rw [hS0w]; exact beq_self_eq_true _
  simp (config := { maxSteps := 2000000 }) -implicitDefEqProofs (disch := (first | omega | rfl | assumption | (simp only [rsD]; first | omega | assumption))) only [tbl, Nat.reduceAdd, Nat.reduceMul, Nat.reduceLT, Int.reduceToNat, Int.reduceAdd, Int.reduceSub, Int.reduceMul, rsU, rsC]
  generalize hσ : σ4.put σ3.next (.cells true _ _) = σ5
  have n5 : σ5.next = σ4.next := by rw [← hσ]; rfl
  have b5 : σ5.blk σ3.next = some (.cells true T_chain_Table (tblc S0 σ1.next nx pv)) := by rw [← hσ]; exact s_bs
  have o5 : ∀ b, b ≠ σ3.next → σ5.blk b = σ4.blk b := fun b hb => by rw [← hσ]; exact s_bn hb
  clear hσ
  have p5 : PoolAt σ5 pb σ1.next _ S0 [] [σ3.next] := k2.turn (L := []) (Y := [σ3.next]) ⟨by omega, fun b hb _ => by rw [o5 b (by omega), h4.blk b (by simp; omega)]; rfl⟩ (by simp) (fun b hb => by simp at hb; subst hb; exact .inr (by omega))
  simp only [tblc] at b5
  by_cases hne : nx = pv
  · subst hne
    have hs : ((nx : Int) == nx) = true := beq_self_eq_true _
    refine Ok.step (tright_no (by omega) (by omega)) fun r ⟨g6, g7⟩ => ?_
    obtain ⟨q, σ6⟩ := r
    simp only at g6 g7
    subst g6
    have b6 : σ6.blk σ3.next = _ := (g7.blk _ (by omega)).trans b5
    have ps6 := pspace_ok (p5.ext g7)
    simp (config := { maxSteps := 2000000 }) -implicitDefEqProofs (disch := (first | omega | rfl | assumption | (simp only [rsD]; first | omega | assumption))) only [b6, hs, hw1, ps6, s_chk, beq_self_eq_true, Nat.reduceAdd, Nat.reduceMul, Nat.reduceLT, Int.reduceToNat, Int.reduceAdd, Int.reduceSub, Int.reduceMul, rsU, rsC]
    refine Ok.step (tright_no (by omega) (by omega)) fun r ⟨g8, g9⟩ => ?_
    obtain ⟨q, σ7⟩ := r
    simp only at g8 g9
    subst g8
    simp (config := { maxSteps := 2000000 }) -implicitDefEqProofs (disch := (first | omega | rfl | assumption | (simp only [rsD]; first | omega | assumption))) only [Nat.reduceAdd, Nat.reduceMul, Nat.reduceLT, Int.reduceToNat, Int.reduceAdd, Int.reduceSub, Int.reduceMul, rsU, rsC]
    exact Ok_some.2 rfl
  have hs : ((nx : Int) == pv) = false := beq_eq_false_iff_ne.2 (by omega)
  refine Ok.step (tright_ok (by omega) (by omega) (by omega) (by omega)) fun r ⟨g6, g7⟩ => ?_
  obtain ⟨q, σ6⟩ := r
  simp only at g6 g7
  subst g6
  have b6 : σ6.blk σ3.next = _ := (g7.blk _ (by omega)).trans b5
  have p6 := p5.ext g7
  have ps6 := pspace_ok p6
  simp (config := { maxSteps := 2000000 }) -implicitDefEqProofs (disch := (first | omega | rfl | assumption | (simp only [rsD]; first | omega | assumption))) only [b6, hs, hw1, ps6, s_chk, beq_self_eq_true, Nat.reduceAdd, Nat.reduceMul, Nat.reduceLT, Int.reduceToNat, Int.reduceAdd, Int.reduceSub, Int.reduceMul, rsU, rsC]
  generalize hσ : (σ6.bump 1).put σ6.next (.cells true _ _) = σ7
  obtain ⟨E7, b7, n7⟩ := boxed hσ
  clear hσ
  have n6 := g7.next
  have lt5 : σ3.next < σ5.next := by omega
  have p7 := p6.turn (L := []) (Y := σ3.next :: σ6.next :: SA.bk .nil) E7.chg (by simp) (fun b hb => by
    simp [SA.bk] at hb
    rcases hb with rfl | rfl
    · exact .inl (by simp)
    · exact .inr (by omega))
  have t7 : σ7.blk σ3.next = some (.cells true T_chain_Table (tblc S0 σ1.next nx pv)) := (E7.blk _ (by omega)).trans b6
  obtain ⟨N, hN, h20⟩ : ∃ N : Nat, N ≤ 19 ∧ IntKind.i64.wrap (Int.tmod n 20) = (N : Int) := ⟨(n % 20).toNat, by omega, by rw [s_tmod hn.1, s_i64 (by omega)]; omega⟩
  refine Ok.bindS (Q := fun r => ∃ σ' M' S' w' ai', r = .inl ([.sl ai' N], σ') ∧ PLk σ' pb σ1.next nx pv W σ3.next σ6.next N M' S' w' ai') ?_ ?_ (fun r h => by obtain ⟨_, _, _, _, _, h, _⟩ := h; cases h)
  · refine Ok.count N (fun k s => ∃ σ' M' S' w' ai', s = ([.sl ai' k, .i .i64 (k : Int)], σ') ∧ PLk σ' pb σ1.next nx pv W σ3.next σ6.next k M' S' w' ai') ?_ ?_ ⟨σ7, _, S0, [], .nil, rfl, ⟨p7, hS0w, by rw [← hS0], by rw [← hS0]; rfl, by rw [← hS0]; exact Nat.zero_le _, Linked.nil _ _ _, OwnS.nil _ _ _, t7, b7, by omega, Int.le_refl _, Int.le_refl _⟩⟩
    · rintro k s hk ⟨σ', M', S', w', ai', rfl, hp⟩
      refine (plinks_step hp hx1 hx2 hne hk hN h20 rfl rfl).mono fun r ⟨σ'', M'', S'', w'', ai'', e, h, _⟩ => ?_
      subst e
      exact ⟨σ'', M'', S'', w'', ai'', rfl, h⟩
    · rintro s ⟨σ', M', S', w', ai', rfl, hp⟩
      simp (config := { maxSteps := 2000000 }) -implicitDefEqProofs (disch := (first | omega | rfl | assumption | (simp only [rsD]; first | omega | assumption))) only [law10_PoolLinks_L1, h20, Nat.reduceAdd, Nat.reduceMul, Nat.reduceLT, Int.reduceToNat, Int.reduceAdd, Int.reduceSub, Int.reduceMul, rsU, rsC]
      exact Ok_some.2 ⟨σ', M', S', w', ai', rfl, hp⟩
  rintro s ⟨σ8, M8, S8, w8, ai, e, hp⟩
  cases e
  have htb := hp.btb
  have hcc := hp.bcc
  have ta := tall_ok (σ := σ8) (S := S8) (mb := σ1.next) (nx := nx) (pv := pv) (C := List.range N)
  simp only [tbl, chn] at ta
  have htb' := htb
  have hcc' := hcc
  simp only [tblc] at htb'
  simp only [chnc] at hcc'
  simp (config := { maxSteps := 2000000 }) -implicitDefEqProofs (disch := (first | omega | rfl | assumption | (simp only [rsD]; first | omega | assumption))) only [htb', hcc', ta, Option.isNone_some, s_rangeV, getG, s_nf, Nat.reduceAdd, Nat.reduceMul, Nat.reduceLT, Int.reduceToNat, Int.reduceAdd, Int.reduceSub, Int.reduceMul, rsU, rsC]
  generalize hH : (((((((σ8.bump 2).put σ8.next (.cells true T_chain_Table (tblc S8 σ1.next nx pv))).put (σ8.next + 1) (.cells true T_chain_Chain (chnc (List.range N)))).bump 1).put (σ8.next + 2) (.cells true 36 [.sl .nil 0])).bump 1).put (σ8.next + 2 + 1) (.loop 3000 [(22, .p (some (.n (σ8.next + 2), 0)))] .ready)) = σ9
  have n9 : σ9.next = σ8.next + 4 := by rw [← hH]; rfl
  have o9 : ∀ b, b < σ8.next → σ9.blk b = σ8.blk b := fun b hb => by rw [← hH]; simp -implicitDefEqProofs (disch := omega) only [s_bn, s_bs, s_kn, bump_blk]
  have bt9 : σ9.blk σ8.next = some (.cells true T_chain_Table (tblc S8 σ1.next nx pv)) := by rw [← hH]; simp -implicitDefEqProofs (disch := omega) only [s_bn, s_bs, s_kn, bump_blk]
  have bc9 : σ9.blk (σ8.next + 1) = some (.cells true T_chain_Chain (chnc (List.range N))) := by rw [← hH]; simp -implicitDefEqProofs (disch := omega) only [s_bn, s_bs, s_kn, bump_blk]
  have bg9 : σ9.blk (σ8.next + 2) = some (.cells true 36 [.sl .nil 0]) := by rw [← hH]; simp -implicitDefEqProofs (disch := omega) only [s_bn, s_bs, s_kn, bump_blk]
  have bl9 : σ9.blk (σ8.next + 2 + 1) = some (.loop 3000 [(22, .p (some (.n (σ8.next + 2), 0)))] .ready) := by rw [← hH]; exact s_bs
  clear hH
  have r8 := hp.r
  have w8' := hp.wm
  have lai := hp.own.lt
  have p9 := hp.p.turn (L := []) (Y := σ8.next :: (σ8.next + 2) :: (σ8.next + 2 + 1) :: (SA.bk ai ++ SA.bk .nil)) ⟨by omega, fun b hb _ => o9 b hb⟩ (by simp) (fun b hb => by
    rw [show SA.bk (.nil : SA) = [] from rfl, List.append_nil] at hb
    simp only [List.mem_cons] at hb
    rcases hb with rfl | rfl | rfl | hb
    · exact .inr (by omega)
    · exact .inr (by omega)
    · exact .inr (by omega)
    · exact .inl (by simp [hb]))
  have hd9 : Hd σ9 pb σ1.next nx pv (σ8.next + 1) σ8.next (σ8.next + 2) (σ8.next + 2 + 1) N 0 M8 S8 w8 ai .nil 400 :=
    ⟨p9, hp.own.of (by omega) fun b hb => o9 b (lai b hb), OwnS.nil _ _ _, bg9, bl9, bt9, by omega, by omega, by omega, ⟨fun hm => by have := lai _ hm; omega, fun hm => by have := lai _ hm; omega, fun hm => by have := lai _ hm; omega⟩, by simp [SA.bk], fun b hb => by simp [SA.bk], by omega, by omega⟩
  have hw8 := hp.words
  refine Ok.step (range_ok hd9 ⟨by omega, by omega⟩ hN (by omega) (by omega) hne hp.lk bc9) fun r ⟨u1, M10, ag, u2⟩ => ?_
  obtain ⟨q, σ10⟩ := r
  simp only at u1 u2
  subst u1
  have bl10 := u2.bl
  simp (config := { maxSteps := 2000000 }) -implicitDefEqProofs (disch := (first | omega | rfl | assumption | (simp only [rsD]; first | omega | assumption))) only [lstN, bl10, LSt.code, Nat.reduceAdd, Nat.reduceMul, Nat.reduceLT, Int.reduceToNat, Int.reduceAdd, Int.reduceSub, Int.reduceMul, rsU, rsC]
  have o11 : ∀ b, b ≠ σ8.next + 2 + 1 → (σ10.kill (σ8.next + 2 + 1)).blk b = σ10.blk b := fun b hb => by simp -implicitDefEqProofs (disch := omega) only [s_bn, s_bs, s_kn, bump_blk]
  have p11 := u2.p.turn (L := [σ8.next + 2 + 1]) (σ' := σ10.kill (σ8.next + 2 + 1)) (Y := (σ8.next + 2) :: (SA.bk ai ++ SA.bk ag)) ⟨Nat.le_refl _, fun b hb hm => o11 b (by simpa using hm)⟩ (fun b hb => .inl (by simp at hb; simp [hb])) (fun b hb => .inl (by
    simp only [List.mem_cons] at hb
    rcases hb with rfl | hb
    · simp
    · simp [hb]))
  have oi11 : OwnS (σ10.kill (σ8.next + 2 + 1)) 3 1 ai N (ids N) := u2.oi.of (Nat.le_refl _) fun b hb => o11 b (fun e => u2.xi.2.1 (e ▸ hb))
  have og11 : OwnS (σ10.kill (σ8.next + 2 + 1)) 3 1 ag N (ids N) := u2.og.of (Nat.le_refl _) fun b hb => o11 b (fun e => u2.xg.2.1 (e ▸ hb))
  have bg11 := (o11 (σ8.next + 2) (by omega)).trans u2.bg
  have r10 := u2.r
  have w10 := u2.wm
  generalize σ10.kill (σ8.next + 2 + 1) = σ11 at p11 oi11 og11 bg11 ⊢
  refine Ok.bindS (back_loop p11 oi11 (fun b hb => by simp [hb]) hN (by omega) (by omega) hp.lk (by omega) (by omega) m1 m2) ?_ (fun r h => by obtain ⟨_, _, h, _⟩ := h; cases h)
  rintro s ⟨σ12, M12, e, p12, k12⟩
  cases e
  have bg12 := (k12.blk (σ8.next + 2) (by simp)).trans bg11
  have oi12 := oi11.of k12.next fun b hb => k12.blk b (by simp [hb])
  have og12 := og11.of k12.next fun b hb => k12.blk b (by simp [hb])
  simp (config := { maxSteps := 2000000 }) -implicitDefEqProofs (disch := (first | omega | rfl | assumption | (simp only [rsD]; first | omega | assumption))) only [bg12, Nat.reduceAdd, Nat.reduceMul, Nat.reduceLT, Int.reduceToNat, Int.reduceAdd, Int.reduceSub, Int.reduceMul, rsU, rsC]
  refine Ok.step (same_own og12 oi12 (by omega)) fun r hr => ?_
  subst hr
  simp (config := { maxSteps := 2000000 }) -implicitDefEqProofs (disch := (first | omega | rfl | assumption | (simp only [rsD]; first | omega | assumption))) only [Nat.reduceAdd, Nat.reduceMul, Nat.reduceLT, Int.reduceToNat, Int.reduceAdd, Int.reduceSub, Int.reduceMul, rsU, rsC]
  exact Ok_some.2 rfl
end Go.Abs.Try
