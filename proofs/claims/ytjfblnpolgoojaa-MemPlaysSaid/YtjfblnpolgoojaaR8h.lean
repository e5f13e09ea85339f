/-
  The document's answer for layer 8, as it is run: Open. No conditions.
-/
import Derived.Test.YtjfblnpolgoojaaR8e
set_option linter.unusedVariables false
set_option linter.unusedSimpArgs false
set_option linter.constructorNameAsVariable false
set_option linter.unusedSimpArgs false
set_option linter.unusedVariables false
set_option maxHeartbeats 8000000
set_option maxRecDepth 100000
namespace Go.Abs.Try
open Go Go.Abs
variable {O : Type}

theorem ropen_T {σ : AH O} {a : SA} {L : List RSp} {M : MemS} (h : RM a L M) {n : Int} :
    Ok (haymowref08_Open [rst a L.length M.met, .i .i64 n] σ) (RGives σ (M.opnR n).1 [.i .i64 (M.opnR n).2.1, .i .i64 (M.opnR n).2.2]) := by
  unfold haymowref08_Open
  refine frz_ok (Q := RQ (M.opnR n).1 [.i .i64 (M.opnR n).2.1, .i .i64 (M.opnR n).2.2]) ?_
  have B := boxes_new (σ := σ) (a := a) (n := L.length) (m := M.met)
  simp only [Met.cells] at B
  unfold MemS.opnR
  by_cases c1 : n < 0
  · rw [if_pos c1]
    simp (config := { maxSteps := 2000000 }) -implicitDefEqProofs (disch := (first | omega | rfl | assumption | (simp only [put_next, bump_next, kill_next, List.length_cons, List.length_nil, List.mem_cons, List.not_mem_nil, or_false, not_false_eq_true]; first | omega | assumption))) only [haymowref08_Open_c, rst, Met.cells, Nat.reduceAdd, Nat.reduceMul, Nat.reduceLT, Int.reduceToNat, Int.reduceAdd, Int.reduceSub, Int.reduceMul, s_beq, List.length_cons, List.length_nil, List.getD_cons_zero, List.getD_cons_succ, List.getElem?_cons_zero, List.getElem?_cons_succ, Option.bind_some, Option.bind_assoc, s_bindN, asI_i, asB_b, asS_s, asP_p, asPS_p, asSl_sl, s_agg, s_tup, s_fn, joinB, joinI, joinR, beq_true, beq_false, Bool.not_true, Bool.not_false, Bool.not_not, cond_true, cond_false, neI, s_mapS, bindS_inl, bindS_inr, Bool.and_true, Bool.true_and, Bool.and_false, Bool.false_and, s_isNoneS, s_isNoneN, s_ref, s_adv, s_ldf, s_ld, s_ldM, s_st, s_stM, s_bs, s_bn, s_pp, bump_blk, bump_next, put_next, splice_z, splice_zz, splice_s, s_decT, s_decF, s_eqT, s_eqF, s_i64, s_u64, s_u8, Int.toNat_natCast, Nat.zero_add, s_room, s_chkT, s_rdSl, s_wrSl, s_ldN, s_ldNM, s_ldNf, List.drop_zero, List.take_succ_cons, List.take_zero, List.take_nil, List.take_length, Nat.mul_one, List.flatten_cons, List.flatten_nil, List.append_nil, List.nil_append, List.cons_append]
    exact Ok_some.2 (fin0 (m := M.met) h.imm rfl (ext_of (by simp only [put_next, bump_next, kill_next]; omega) (fun b hb => by simp -implicitDefEqProofs (disch := (first | omega | rfl | assumption | (simp only [put_next, bump_next, kill_next, List.length_cons, List.length_nil, List.mem_cons, List.not_mem_nil, or_false, not_false_eq_true]; first | omega | assumption))) only [s_bn, s_kn, bump_blk, s_ext])) ⟨a, L, rfl, h.imm, h.sp⟩)
  rw [if_neg c1]
  by_cases c2 : n > 4194304
  · rw [if_pos c2]
    simp (config := { maxSteps := 2000000 }) -implicitDefEqProofs (disch := (first | omega | rfl | assumption | (simp only [put_next, bump_next, kill_next, List.length_cons, List.length_nil, List.mem_cons, List.not_mem_nil, or_false, not_false_eq_true]; first | omega | assumption))) only [haymowref08_Open_c, rst, Met.cells, Nat.reduceAdd, Nat.reduceMul, Nat.reduceLT, Int.reduceToNat, Int.reduceAdd, Int.reduceSub, Int.reduceMul, s_beq, List.length_cons, List.length_nil, List.getD_cons_zero, List.getD_cons_succ, List.getElem?_cons_zero, List.getElem?_cons_succ, Option.bind_some, Option.bind_assoc, s_bindN, asI_i, asB_b, asS_s, asP_p, asPS_p, asSl_sl, s_agg, s_tup, s_fn, joinB, joinI, joinR, beq_true, beq_false, Bool.not_true, Bool.not_false, Bool.not_not, cond_true, cond_false, neI, s_mapS, bindS_inl, bindS_inr, Bool.and_true, Bool.true_and, Bool.and_false, Bool.false_and, s_isNoneS, s_isNoneN, s_ref, s_adv, s_ldf, s_ld, s_ldM, s_st, s_stM, s_bs, s_bn, s_pp, bump_blk, bump_next, put_next, splice_z, splice_zz, splice_s, s_decT, s_decF, s_eqT, s_eqF, s_i64, s_u64, s_u8, Int.toNat_natCast, Nat.zero_add, s_room, s_chkT, s_rdSl, s_wrSl, s_ldN, s_ldNM, s_ldNf, List.drop_zero, List.take_succ_cons, List.take_zero, List.take_nil, List.take_length, Nat.mul_one, List.flatten_cons, List.flatten_nil, List.append_nil, List.nil_append, List.cons_append]
    exact Ok_some.2 (fin0 (m := M.met) h.imm rfl (ext_of (by simp only [put_next, bump_next, kill_next]; omega) (fun b hb => by simp -implicitDefEqProofs (disch := (first | omega | rfl | assumption | (simp only [put_next, bump_next, kill_next, List.length_cons, List.length_nil, List.mem_cons, List.not_mem_nil, or_false, not_false_eq_true]; first | omega | assumption))) only [s_bn, s_kn, bump_blk, s_ext])) ⟨a, L, rfl, h.imm, h.sp⟩)
  rw [if_neg c2]
  generalize hσ1 : ((σ.bump 2).put σ.next (.cells true T_haymowref08_State _)).put (σ.next + 1) (.cells true T_haymowref08_State _) = σ1 at B
  simp (config := { maxSteps := 2000000 }) -implicitDefEqProofs (disch := (first | omega | rfl | assumption | (simp only [put_next, bump_next, kill_next, List.length_cons, List.length_nil, List.mem_cons, List.not_mem_nil, or_false, not_false_eq_true]; first | omega | assumption))) only [haymowref08_Open_c, rst, Met.cells, hσ1, Nat.reduceAdd, Nat.reduceMul, Nat.reduceLT, Int.reduceToNat, Int.reduceAdd, Int.reduceSub, Int.reduceMul, s_beq, List.length_cons, List.length_nil, List.getD_cons_zero, List.getD_cons_succ, List.getElem?_cons_zero, List.getElem?_cons_succ, Option.bind_some, Option.bind_assoc, s_bindN, asI_i, asB_b, asS_s, asP_p, asPS_p, asSl_sl, s_agg, s_tup, s_fn, joinB, joinI, joinR, beq_true, beq_false, Bool.not_true, Bool.not_false, Bool.not_not, cond_true, cond_false, neI, s_mapS, bindS_inl, bindS_inr, Bool.and_true, Bool.true_and, Bool.and_false, Bool.false_and, s_isNoneS, s_isNoneN, s_ref, s_adv, s_ldf, s_ld, s_ldM, s_st, s_stM, s_bs, s_bn, s_pp, bump_blk, bump_next, put_next, splice_z, splice_zz, splice_s, s_decT, s_decF, s_eqT, s_eqF, s_i64, s_u64, s_u8, Int.toNat_natCast, Nat.zero_add, s_room, s_chkT, s_rdSl, s_wrSl, s_ldN, s_ldNM, s_ldNf, List.drop_zero, List.take_succ_cons, List.take_zero, List.take_nil, List.take_length, Nat.mul_one, List.flatten_cons, List.flatten_nil, List.append_nil, List.nil_append, List.cons_append]
  clear hσ1
  have bb := B.b
  obtain ⟨cs, hc', cc⟩ := B.c
  have nb := B.n
  refine Ok.step (rcount_ok (m := M.met) h.imm h.few) fun r ⟨g1, g2⟩ => ?_
  obtain ⟨q, σ2⟩ := r
  simp only at g1 g2
  subst g1
  have B2 := B.ext g2
  obtain ⟨cs, hc', c3⟩ := B2.c
  obtain ⟨x0, x1, x2, x3, x4, x5, x6, rfl⟩ := seven hc'
  have b2 := B2.b
  have n2 := B2.n
  have E := B2.e
  rw [h.sp, ← h.ok.count]
  by_cases c4 : M.count ≥ 262144
  · rw [if_pos c4]
    simp (config := { maxSteps := 2000000 }) -implicitDefEqProofs (disch := (first | omega | rfl | assumption | (simp only [put_next, bump_next, kill_next, List.length_cons, List.length_nil, List.mem_cons, List.not_mem_nil, or_false, not_false_eq_true]; first | omega | assumption))) only [b2, c3, Met.cells, Nat.reduceAdd, Nat.reduceMul, Nat.reduceLT, Int.reduceToNat, Int.reduceAdd, Int.reduceSub, Int.reduceMul, s_beq, List.length_cons, List.length_nil, List.getD_cons_zero, List.getD_cons_succ, List.getElem?_cons_zero, List.getElem?_cons_succ, Option.bind_some, Option.bind_assoc, s_bindN, asI_i, asB_b, asS_s, asP_p, asPS_p, asSl_sl, s_agg, s_tup, s_fn, joinB, joinI, joinR, beq_true, beq_false, Bool.not_true, Bool.not_false, Bool.not_not, cond_true, cond_false, neI, s_mapS, bindS_inl, bindS_inr, Bool.and_true, Bool.true_and, Bool.and_false, Bool.false_and, s_isNoneS, s_isNoneN, s_ref, s_adv, s_ldf, s_ld, s_ldM, s_st, s_stM, s_bs, s_bn, s_pp, bump_blk, bump_next, put_next, splice_z, splice_zz, splice_s, s_decT, s_decF, s_eqT, s_eqF, s_i64, s_u64, s_u8, Int.toNat_natCast, Nat.zero_add, s_room, s_chkT, s_rdSl, s_wrSl, s_ldN, s_ldNM, s_ldNf, List.drop_zero, List.take_succ_cons, List.take_zero, List.take_nil, List.take_length, Nat.mul_one, List.flatten_cons, List.flatten_nil, List.append_nil, List.nil_append, List.cons_append]
    exact Ok_some.2 (fin0 (m := M.met) h.imm rfl (ext_of (by simp only [put_next, bump_next, kill_next]; omega) (fun b hb => by simp -implicitDefEqProofs (disch := (first | omega | rfl | assumption | (simp only [put_next, bump_next, kill_next, List.length_cons, List.length_nil, List.mem_cons, List.not_mem_nil, or_false, not_false_eq_true]; first | omega | assumption))) only [s_bn, s_kn, bump_blk, s_ext])) ⟨a, L, rfl, h.imm, h.sp⟩)
  rw [if_neg c4]
  have hroom : M.met.held + n ≤ 281474976710656 := by have := h.ok.bound; omega
  have hheld2 := h.ok.met.held
  simp (config := { maxSteps := 2000000 }) -implicitDefEqProofs (disch := (first | omega | rfl | assumption | (simp only [put_next, bump_next, kill_next, List.length_cons, List.length_nil, List.mem_cons, List.not_mem_nil, or_false, not_false_eq_true]; first | omega | assumption))) only [b2, Met.cells, Nat.reduceAdd, Nat.reduceMul, Nat.reduceLT, Int.reduceToNat, Int.reduceAdd, Int.reduceSub, Int.reduceMul, s_beq, List.length_cons, List.length_nil, List.getD_cons_zero, List.getD_cons_succ, List.getElem?_cons_zero, List.getElem?_cons_succ, Option.bind_some, Option.bind_assoc, s_bindN, asI_i, asB_b, asS_s, asP_p, asPS_p, asSl_sl, s_agg, s_tup, s_fn, joinB, joinI, joinR, beq_true, beq_false, Bool.not_true, Bool.not_false, Bool.not_not, cond_true, cond_false, neI, s_mapS, bindS_inl, bindS_inr, Bool.and_true, Bool.true_and, Bool.and_false, Bool.false_and, s_isNoneS, s_isNoneN, s_ref, s_adv, s_ldf, s_ld, s_ldM, s_st, s_stM, s_bs, s_bn, s_pp, bump_blk, bump_next, put_next, splice_z, splice_zz, splice_s, s_decT, s_decF, s_eqT, s_eqF, s_i64, s_u64, s_u8, Int.toNat_natCast, Nat.zero_add, s_room, s_chkT, s_rdSl, s_wrSl, s_ldN, s_ldNM, s_ldNf, List.drop_zero, List.take_succ_cons, List.take_zero, List.take_nil, List.take_length, Nat.mul_one, List.flatten_cons, List.flatten_nil, List.append_nil, List.nil_append, List.cons_append]
  refine Ok.step (copied_ok (m := M.met) h.imm h.few h.size) fun r ⟨a', L', k1, k2, k3, k4, k5⟩ => ?_
  obtain ⟨q, σ3⟩ := r
  simp only at k1 k2 k5
  subst k1
  have n23 := k5.next
  have B3 := B2.ext k5
  obtain ⟨cs, hc', cc3⟩ := B3.c
  obtain ⟨y0, y1, y2, y3, y4, y5, y6, rfl⟩ := seven hc'
  have b3 := B3.b
  have n3 := B3.n
  have hfew := h.few
  simp (config := { maxSteps := 2000000 }) -implicitDefEqProofs (disch := (first | omega | rfl | assumption | (simp only [put_next, bump_next, kill_next, List.length_cons, List.length_nil, List.mem_cons, List.not_mem_nil, or_false, not_false_eq_true]; first | omega | assumption))) only [rst, b3, cc3, Met.cells, Nat.reduceAdd, Nat.reduceMul, Nat.reduceLT, Int.reduceToNat, Int.reduceAdd, Int.reduceSub, Int.reduceMul, s_beq, List.length_cons, List.length_nil, List.getD_cons_zero, List.getD_cons_succ, List.getElem?_cons_zero, List.getElem?_cons_succ, Option.bind_some, Option.bind_assoc, s_bindN, asI_i, asB_b, asS_s, asP_p, asPS_p, asSl_sl, s_agg, s_tup, s_fn, joinB, joinI, joinR, beq_true, beq_false, Bool.not_true, Bool.not_false, Bool.not_not, cond_true, cond_false, neI, s_mapS, bindS_inl, bindS_inr, Bool.and_true, Bool.true_and, Bool.and_false, Bool.false_and, s_isNoneS, s_isNoneN, s_ref, s_adv, s_ldf, s_ld, s_ldM, s_st, s_stM, s_bs, s_bn, s_pp, bump_blk, bump_next, put_next, splice_z, splice_zz, splice_s, s_decT, s_decF, s_eqT, s_eqF, s_i64, s_u64, s_u8, Int.toNat_natCast, Nat.zero_add, s_room, s_chkT, s_rdSl, s_wrSl, s_ldN, s_ldNM, s_ldNf, List.drop_zero, List.take_succ_cons, List.take_zero, List.take_nil, List.take_length, Nat.mul_one, List.flatten_cons, List.flatten_nil, List.append_nil, List.nil_append, List.cons_append]
  generalize hσ4 : σ3.put σ.next (.cells true T_haymowref08_State _) = σ4
  have b4 : σ4.blk σ.next = some (.cells true T_haymowref08_State (.sl a' L.length :: M.met.cells)) := by rw [← hσ4, s_bs]; rfl
  have k4' : ∀ b, b ≠ σ.next → σ4.blk b = σ3.blk b := fun b hb => by rw [← hσ4, s_bn hb]
  have n4 : σ4.next = σ3.next := by rw [← hσ4]; rfl
  clear hσ4
  have O4 : ROwn σ4 σ2.next a' L' := k2.of (by omega) fun b hb => k4' b (by have := (k2.lt b hb).1; omega)
  have c4' := (k4' (σ.next + 1) (by omega)).trans cc3
  have E3 := B3.e
  have E4 : Ext σ σ4 := ⟨by have := E3.next; omega, fun b hb => (k4' b (by omega)).trans (E3.blk b hb)⟩
  have hspL : L'.map RSp.v = M.sp := k3.trans h.sp
  have hfr := ff_free M.sp
  have hlenM : M.sp.length = L'.length := by rw [← hspL, List.length_map]
  -- the first that is free
  refine Ok.step (Q := fun r => r = ([.i .i64 ((ff M.sp : Nat) : Int)], σ4)) ?_ fun r e => ?_
  · refine Ok.loop (fun k s => ∃ j : Nat, s = ([.i .i64 (j : Int)], σ4) ∧ j ≤ ff M.sp ∧ k = ff M.sp - j) ?_ (ff M.sp) _ ⟨0, rfl, Nat.zero_le _, rfl⟩
    rintro k s ⟨j, rfl, hj, rfl⟩
    have hle := hfr.le
    by_cases hjl : j < ff M.sp
    · obtain ⟨w, hw⟩ := hfr.below j hjl
      rw [← hspL, List.getElem?_map] at hw
      obtain ⟨s, hs, hsv⟩ := Option.map_eq_some_iff.1 hw
      simp only [RSp.v, Prod.mk.injEq] at hsv
      obtain ⟨kk, rfl, q1, q2, q3, q4, q5⟩ := O4.at hs
      rw [hsv.1] at q3
      simp (config := { maxSteps := 2000000 }) -implicitDefEqProofs (disch := (first | omega | rfl | assumption | (simp only [put_next, bump_next, kill_next, List.length_cons, List.length_nil, List.mem_cons, List.not_mem_nil, or_false, not_false_eq_true]; first | omega | assumption))) only [haymowref08_Open_L1, b4, q1, q3, Nat.reduceAdd, Nat.reduceMul, Nat.reduceLT, Int.reduceToNat, Int.reduceAdd, Int.reduceSub, Int.reduceMul, s_beq, List.length_cons, List.length_nil, List.getD_cons_zero, List.getD_cons_succ, List.getElem?_cons_zero, List.getElem?_cons_succ, Option.bind_some, Option.bind_assoc, s_bindN, asI_i, asB_b, asS_s, asP_p, asPS_p, asSl_sl, s_agg, s_tup, s_fn, joinB, joinI, joinR, beq_true, beq_false, Bool.not_true, Bool.not_false, Bool.not_not, cond_true, cond_false, neI, s_mapS, bindS_inl, bindS_inr, Bool.and_true, Bool.true_and, Bool.and_false, Bool.false_and, s_isNoneS, s_isNoneN, s_ref, s_adv, s_ldf, s_ld, s_ldM, s_st, s_stM, s_bs, s_bn, s_pp, bump_blk, bump_next, put_next, splice_z, splice_zz, splice_s, s_decT, s_decF, s_eqT, s_eqF, s_i64, s_u64, s_u8, Int.toNat_natCast, Nat.zero_add, s_room, s_chkT, s_rdSl, s_wrSl, s_ldN, s_ldNM, s_ldNf, List.drop_zero, List.take_succ_cons, List.take_zero, List.take_nil, List.take_length, Nat.mul_one, List.flatten_cons, List.flatten_nil, List.append_nil, List.nil_append, List.cons_append]
      exact Ok_some.2 ⟨_, (by omega : ff M.sp - (j + 1) < ff M.sp - j), j + 1, by simp, by omega, rfl⟩
    · obtain rfl : j = ff M.sp := by omega
      by_cases hlt : ff M.sp < L'.length
      · have hs := List.getElem?_eq_getElem hlt
        have h9 : (L'.map RSp.v)[ff M.sp]? = some L'[ff M.sp].v := by rw [List.getElem?_map, hs]; rfl
        rw [hspL] at h9
        have hop : L'[ff M.sp].op = false := hfr.here _ h9
        clear h9
        generalize L'[ff M.sp] = s at hs hop
        obtain ⟨kk, rfl, q1, q2, q3, q4, q5⟩ := O4.at hs
        rw [hop] at q3
        simp (config := { maxSteps := 2000000 }) -implicitDefEqProofs (disch := (first | omega | rfl | assumption | (simp only [put_next, bump_next, kill_next, List.length_cons, List.length_nil, List.mem_cons, List.not_mem_nil, or_false, not_false_eq_true]; first | omega | assumption))) only [haymowref08_Open_L1, b4, q1, q3, Nat.reduceAdd, Nat.reduceMul, Nat.reduceLT, Int.reduceToNat, Int.reduceAdd, Int.reduceSub, Int.reduceMul, s_beq, List.length_cons, List.length_nil, List.getD_cons_zero, List.getD_cons_succ, List.getElem?_cons_zero, List.getElem?_cons_succ, Option.bind_some, Option.bind_assoc, s_bindN, asI_i, asB_b, asS_s, asP_p, asPS_p, asSl_sl, s_agg, s_tup, s_fn, joinB, joinI, joinR, beq_true, beq_false, Bool.not_true, Bool.not_false, Bool.not_not, cond_true, cond_false, neI, s_mapS, bindS_inl, bindS_inr, Bool.and_true, Bool.true_and, Bool.and_false, Bool.false_and, s_isNoneS, s_isNoneN, s_ref, s_adv, s_ldf, s_ld, s_ldM, s_st, s_stM, s_bs, s_bn, s_pp, bump_blk, bump_next, put_next, splice_z, splice_zz, splice_s, s_decT, s_decF, s_eqT, s_eqF, s_i64, s_u64, s_u8, Int.toNat_natCast, Nat.zero_add, s_room, s_chkT, s_rdSl, s_wrSl, s_ldN, s_ldNM, s_ldNf, List.drop_zero, List.take_succ_cons, List.take_zero, List.take_nil, List.take_length, Nat.mul_one, List.flatten_cons, List.flatten_nil, List.append_nil, List.nil_append, List.cons_append]
        exact Ok_some.2 rfl
      · simp (config := { maxSteps := 2000000 }) -implicitDefEqProofs (disch := (first | omega | rfl | assumption | (simp only [put_next, bump_next, kill_next, List.length_cons, List.length_nil, List.mem_cons, List.not_mem_nil, or_false, not_false_eq_true]; first | omega | assumption))) only [haymowref08_Open_L1, b4, Nat.reduceAdd, Nat.reduceMul, Nat.reduceLT, Int.reduceToNat, Int.reduceAdd, Int.reduceSub, Int.reduceMul, s_beq, List.length_cons, List.length_nil, List.getD_cons_zero, List.getD_cons_succ, List.getElem?_cons_zero, List.getElem?_cons_succ, Option.bind_some, Option.bind_assoc, s_bindN, asI_i, asB_b, asS_s, asP_p, asPS_p, asSl_sl, s_agg, s_tup, s_fn, joinB, joinI, joinR, beq_true, beq_false, Bool.not_true, Bool.not_false, Bool.not_not, cond_true, cond_false, neI, s_mapS, bindS_inl, bindS_inr, Bool.and_true, Bool.true_and, Bool.and_false, Bool.false_and, s_isNoneS, s_isNoneN, s_ref, s_adv, s_ldf, s_ld, s_ldM, s_st, s_stM, s_bs, s_bn, s_pp, bump_blk, bump_next, put_next, splice_z, splice_zz, splice_s, s_decT, s_decF, s_eqT, s_eqF, s_i64, s_u64, s_u8, Int.toNat_natCast, Nat.zero_add, s_room, s_chkT, s_rdSl, s_wrSl, s_ldN, s_ldNM, s_ldNf, List.drop_zero, List.take_succ_cons, List.take_zero, List.take_nil, List.take_length, Nat.mul_one, List.flatten_cons, List.flatten_nil, List.append_nil, List.nil_append, List.cons_append]
        exact Ok_some.2 rfl
  subst e
  have hle := hfr.le
  simp (config := { maxSteps := 2000000 }) -implicitDefEqProofs (disch := (first | omega | rfl | assumption | (simp only [put_next, bump_next, kill_next, List.length_cons, List.length_nil, List.mem_cons, List.not_mem_nil, or_false, not_false_eq_true]; first | omega | assumption))) only [b4, Nat.reduceAdd, Nat.reduceMul, Nat.reduceLT, Int.reduceToNat, Int.reduceAdd, Int.reduceSub, Int.reduceMul, s_beq, List.length_cons, List.length_nil, List.getD_cons_zero, List.getD_cons_succ, List.getElem?_cons_zero, List.getElem?_cons_succ, Option.bind_some, Option.bind_assoc, s_bindN, asI_i, asB_b, asS_s, asP_p, asPS_p, asSl_sl, s_agg, s_tup, s_fn, joinB, joinI, joinR, beq_true, beq_false, Bool.not_true, Bool.not_false, Bool.not_not, cond_true, cond_false, neI, s_mapS, bindS_inl, bindS_inr, Bool.and_true, Bool.true_and, Bool.and_false, Bool.false_and, s_isNoneS, s_isNoneN, s_ref, s_adv, s_ldf, s_ld, s_ldM, s_st, s_stM, s_bs, s_bn, s_pp, bump_blk, bump_next, put_next, splice_z, splice_zz, splice_s, s_decT, s_decF, s_eqT, s_eqF, s_i64, s_u64, s_u8, Int.toNat_natCast, Nat.zero_add, s_room, s_chkT, s_rdSl, s_wrSl, s_ldN, s_ldNM, s_ldNf, List.drop_zero, List.take_succ_cons, List.take_zero, List.take_nil, List.take_length, Nat.mul_one, List.flatten_cons, List.flatten_nil, List.append_nil, List.nil_append, List.cons_append]
  -- there is an element for it
  refine Ok.step (Q := fun r => r.1 = [] ∧ ∃ a2 L2 s, r.2.blk σ.next = some (.cells true T_haymowref08_State (.sl a2 L2.length :: M.met.cells)) ∧ r.2.blk (σ.next + 1) = some (.cells true T_haymowref08_State [y0, y1, y2, y3, y4, y5, y6]) ∧ Ext σ r.2 ∧ σ3.next ≤ r.2.next ∧ ROwn r.2 σ2.next a2 L2 ∧ L2[ff M.sp]? = some s ∧ (∀ x, (L2.map RSp.v).set (ff M.sp) x = putAt M.sp (ff M.sp) x) ∧ L2.length ≤ 262145) ?_ ?_
  · by_cases hi : ff M.sp = L'.length
    · have rm : Nat.ble ((L.length + 1) * 33) 35184372088832 = true := s_room (by omega)
      have hLL : L.length = L'.length := k4.symm
      generalize hσ5 : (σ4.bump 2).put σ4.next (.cells true T_haymowref08_Space [.b false, .sl .nil 0]) = σ5
      have n5 : σ5.next = σ4.next + 2 := by rw [← hσ5]; rfl
      have b5 : ∀ b, b < σ4.next → σ5.blk b = σ4.blk b := fun b hb => by rw [← hσ5, s_bn (by omega)]; rfl
      simp (config := { maxSteps := 2000000 }) -implicitDefEqProofs (disch := (first | omega | rfl | assumption | (simp only [put_next, bump_next, kill_next, List.length_cons, List.length_nil, List.mem_cons, List.not_mem_nil, or_false, not_false_eq_true]; first | omega | assumption))) only [b4, rm, hσ5, Nat.reduceAdd, Nat.reduceMul, Nat.reduceLT, Int.reduceToNat, Int.reduceAdd, Int.reduceSub, Int.reduceMul, s_beq, List.length_cons, List.length_nil, List.getD_cons_zero, List.getD_cons_succ, List.getElem?_cons_zero, List.getElem?_cons_succ, Option.bind_some, Option.bind_assoc, s_bindN, asI_i, asB_b, asS_s, asP_p, asPS_p, asSl_sl, s_agg, s_tup, s_fn, joinB, joinI, joinR, beq_true, beq_false, Bool.not_true, Bool.not_false, Bool.not_not, cond_true, cond_false, neI, s_mapS, bindS_inl, bindS_inr, Bool.and_true, Bool.true_and, Bool.and_false, Bool.false_and, s_isNoneS, s_isNoneN, s_ref, s_adv, s_ldf, s_ld, s_ldM, s_st, s_stM, s_bs, s_bn, s_pp, bump_blk, bump_next, put_next, splice_z, splice_zz, splice_s, s_decT, s_decF, s_eqT, s_eqF, s_i64, s_u64, s_u8, Int.toNat_natCast, Nat.zero_add, s_room, s_chkT, s_rdSl, s_wrSl, s_ldN, s_ldNM, s_ldNf, List.drop_zero, List.take_succ_cons, List.take_zero, List.take_nil, List.take_length, Nat.mul_one, List.flatten_cons, List.flatten_nil, List.append_nil, List.nil_append, List.cons_append]
      have O5 : ROwn σ5 σ2.next a' L' := O4.of (by omega) fun b hb => b5 b (O4.lt b hb).2
      rw [hLL]
      have hnn : σ4.next + 1 ∉ SA.bk a' := fun hb => by have := (O4.lt _ (.inl hb)).2; omega
      have hbx : ∀ b, b < σ.next + 2 → b ∉ SA.bk a' := fun b hb hb' => by have := (O4.lt _ (.inl hb')).1; omega
      refine Ok.step (app_ok (nid := σ4.next + 1) O5.own hnn (by omega) (m := 1) (new := [.b false, .sl .nil 0]) (by simp)) fun r ⟨a2, v1, v2, v3, v4, v5⟩ => ?_
      obtain ⟨q, σ6⟩ := r
      simp only at v1 v2 v3 v4 v5
      subst v1
      have b6 := (v4 σ.next (by omega) (hbx _ (by omega))).trans ((b5 _ (by omega)).trans b4)
      have c6 := (v4 (σ.next + 1) (by omega) (hbx _ (by omega))).trans ((b5 _ (by omega)).trans c4')
      simp (config := { maxSteps := 2000000 }) -implicitDefEqProofs (disch := (first | omega | rfl | assumption | (simp only [put_next, bump_next, kill_next, List.length_cons, List.length_nil, List.mem_cons, List.not_mem_nil, or_false, not_false_eq_true]; first | omega | assumption))) only [b6, Nat.reduceAdd, Nat.reduceMul, Nat.reduceLT, Int.reduceToNat, Int.reduceAdd, Int.reduceSub, Int.reduceMul, s_beq, List.length_cons, List.length_nil, List.getD_cons_zero, List.getD_cons_succ, List.getElem?_cons_zero, List.getElem?_cons_succ, Option.bind_some, Option.bind_assoc, s_bindN, asI_i, asB_b, asS_s, asP_p, asPS_p, asSl_sl, s_agg, s_tup, s_fn, joinB, joinI, joinR, beq_true, beq_false, Bool.not_true, Bool.not_false, Bool.not_not, cond_true, cond_false, neI, s_mapS, bindS_inl, bindS_inr, Bool.and_true, Bool.true_and, Bool.and_false, Bool.false_and, s_isNoneS, s_isNoneN, s_ref, s_adv, s_ldf, s_ld, s_ldM, s_st, s_stM, s_bs, s_bn, s_pp, bump_blk, bump_next, put_next, splice_z, splice_zz, splice_s, s_decT, s_decF, s_eqT, s_eqF, s_i64, s_u64, s_u8, Int.toNat_natCast, Nat.zero_add, s_room, s_chkT, s_rdSl, s_wrSl, s_ldN, s_ldNM, s_ldNf, List.drop_zero, List.take_succ_cons, List.take_zero, List.take_nil, List.take_length, Nat.mul_one, List.flatten_cons, List.flatten_nil, List.append_nil, List.nil_append, List.cons_append]
      refine Ok_some.2 ⟨rfl, a2, L' ++ [⟨.nil, false, []⟩], ⟨.nil, false, []⟩, by rw [s_bs]; simp, by rw [s_bn (by omega)]; exact c6, ?_, (by show σ3.next ≤ σ6.next; omega), ?_, by rw [hi]; simp, fun x => ?_, by simp; omega⟩
      · refine ext_of (by simp only [put_next]; have := E4.next; omega) fun b hb => ?_
        rw [s_bn (by omega), v4 b (by omega) (hbx b (by omega)), b5 b (by have := E4.next; omega)]; exact E4.blk b hb
      · refine O5.snoc (by simp only [put_next]; omega) (fun b hb => ?_) (v2.of (Nat.le_refl _) fun b hb => s_bn (by have := v5 b hb; omega)) v5 (by omega) (fun hb => by have := (O4.lt _ (.inr hb)).2; omega)
        have := (O5.lt b (.inr hb))
        have := (O4.lt b (.inr hb)).2
        rw [s_bn (by omega), v4 b (by omega) (fun hb' => (O5.nb b hb').2 hb)]
      · rw [hi, List.map_append, putAt, if_neg (by omega), hspL]
        rw [← hlenM]; simp [List.set_append]
    · have hlt : ff M.sp < L'.length := by omega
      simp (config := { maxSteps := 2000000 }) -implicitDefEqProofs (disch := (first | omega | rfl | assumption | (simp only [put_next, bump_next, kill_next, List.length_cons, List.length_nil, List.mem_cons, List.not_mem_nil, or_false, not_false_eq_true]; first | omega | assumption))) only [Nat.reduceAdd, Nat.reduceMul, Nat.reduceLT, Int.reduceToNat, Int.reduceAdd, Int.reduceSub, Int.reduceMul, s_beq, List.length_cons, List.length_nil, List.getD_cons_zero, List.getD_cons_succ, List.getElem?_cons_zero, List.getElem?_cons_succ, Option.bind_some, Option.bind_assoc, s_bindN, asI_i, asB_b, asS_s, asP_p, asPS_p, asSl_sl, s_agg, s_tup, s_fn, joinB, joinI, joinR, beq_true, beq_false, Bool.not_true, Bool.not_false, Bool.not_not, cond_true, cond_false, neI, s_mapS, bindS_inl, bindS_inr, Bool.and_true, Bool.true_and, Bool.and_false, Bool.false_and, s_isNoneS, s_isNoneN, s_ref, s_adv, s_ldf, s_ld, s_ldM, s_st, s_stM, s_bs, s_bn, s_pp, bump_blk, bump_next, put_next, splice_z, splice_zz, splice_s, s_decT, s_decF, s_eqT, s_eqF, s_i64, s_u64, s_u8, Int.toNat_natCast, Nat.zero_add, s_room, s_chkT, s_rdSl, s_wrSl, s_ldN, s_ldNM, s_ldNf, List.drop_zero, List.take_succ_cons, List.take_zero, List.take_nil, List.take_length, Nat.mul_one, List.flatten_cons, List.flatten_nil, List.append_nil, List.nil_append, List.cons_append]
      refine Ok_some.2 ⟨rfl, a', L', L'[ff M.sp], by rw [k4]; exact b4, c4', E4, (by show σ3.next ≤ σ4.next; omega), O4, List.getElem?_eq_getElem hlt, fun x => ?_, by omega⟩
      rw [putAt, if_pos (by omega), hspL]
  rintro ⟨q, σ7⟩ ⟨g0, a2, L2, s, b7, c7, E7, n7, O7, hs, hput, hl2⟩
  simp only at g0 b7 c7 E7 n7 O7
  subst g0
  obtain ⟨k, rfl, q1, q2, q3, q4, q5⟩ := O7.at hs
  have kge := (O7.nb k (by simp [SA.bk])).1
  have hlt := (List.getElem?_eq_some_iff.1 hs).1
  have hfl := fm_len RSp.len L2
  have hsp : splice (L2.flatMap RSp.cells) (ff M.sp * 2) [.b true, .sl (.loc (.n σ7.next) 0 1) n.toNat] = (L2.set (ff M.sp) ⟨.loc (.n σ7.next) 0 1, true, List.replicate n.toNat 0⟩).flatMap RSp.cells := by
    have := fm_splice RSp.len L2 (ff M.sp) 0 [.b true, .sl (.loc (.n σ7.next) 0 1) n.toNat] s ⟨.loc (.n σ7.next) 0 1, true, List.replicate n.toNat 0⟩ hs (by simp) (by simp [splice, RSp.cells])
    simpa using this
  simp (config := { maxSteps := 2000000 }) -implicitDefEqProofs (disch := (first | omega | rfl | assumption | (simp only [put_next, bump_next, kill_next, List.length_cons, List.length_nil, List.mem_cons, List.not_mem_nil, or_false, not_false_eq_true]; first | omega | assumption))) only [b7, q1, u64s_rep, hfl, hsp, Met.cells, Nat.reduceAdd, Nat.reduceMul, Nat.reduceLT, Int.reduceToNat, Int.reduceAdd, Int.reduceSub, Int.reduceMul, s_beq, List.length_cons, List.length_nil, List.getD_cons_zero, List.getD_cons_succ, List.getElem?_cons_zero, List.getElem?_cons_succ, Option.bind_some, Option.bind_assoc, s_bindN, asI_i, asB_b, asS_s, asP_p, asPS_p, asSl_sl, s_agg, s_tup, s_fn, joinB, joinI, joinR, beq_true, beq_false, Bool.not_true, Bool.not_false, Bool.not_not, cond_true, cond_false, neI, s_mapS, bindS_inl, bindS_inr, Bool.and_true, Bool.true_and, Bool.and_false, Bool.false_and, s_isNoneS, s_isNoneN, s_ref, s_adv, s_ldf, s_ld, s_ldM, s_st, s_stM, s_bs, s_bn, s_pp, bump_blk, bump_next, put_next, splice_z, splice_zz, splice_s, s_decT, s_decF, s_eqT, s_eqF, s_i64, s_u64, s_u8, Int.toNat_natCast, Nat.zero_add, s_room, s_chkT, s_rdSl, s_wrSl, s_ldN, s_ldNM, s_ldNf, List.drop_zero, List.take_succ_cons, List.take_zero, List.take_nil, List.take_length, Nat.mul_one, List.flatten_cons, List.flatten_nil, List.append_nil, List.nil_append, List.cons_append]
  generalize hσ8 : ((σ7.bump 1).put σ7.next (.cells true _ (u64s (List.replicate n.toNat 0)))).put k (.cells true T_haymowref08_Space _) = σ8
  have n8 : σ8.next = σ7.next + 1 := by rw [← hσ8]; rfl
  have k8 : ∀ b, b ≠ k → b < σ7.next → σ8.blk b = σ7.blk b := fun b hb hb' => by rw [← hσ8, s_bn hb, s_bn (by omega)]; rfl
  have O8 : ROwn σ8 σ2.next (.loc (.n k) 0 2) (L2.set (ff M.sp) ⟨.loc (.n σ7.next) 0 1, true, List.replicate n.toNat 0⟩) := by
    refine O7.repl hs rfl (by omega) (fun b hb _ => k8 b (fun e => (O7.nb k (by simp [SA.bk])).2 (e ▸ hb)) (O7.lt b (.inr hb)).2) (by rw [← hσ8, s_bs]) ⟨n.toNat, ?_⟩ (by simp [SA.bk])
    exact OwnS.new (by simp [u64s_len]) (by rw [← hσ8, s_bn (by omega), s_bs]) (by omega)
  clear hσ8
  have b8 := (k8 σ.next (by omega) (by omega)).trans b7
  have c8 := (k8 (σ.next + 1) (by omega) (by omega)).trans c7
  have E8 : Ext σ σ8 := ⟨by have := E7.next; omega, fun b hb => (k8 b (by omega) (by have := E7.next; omega)).trans (E7.blk b hb)⟩
  refine Ok.step (r7_hold (m := M.met) (n := n) hheld2.1 hheld2.2 (by omega) hroom) fun r ⟨p1, p2⟩ => ?_
  obtain ⟨q, σ9⟩ := r
  simp only at p1 p2
  subst p1
  have n9 := p2.next
  have b9 := (p2.blk σ.next (by omega)).trans b8
  have c9 := (p2.blk (σ.next + 1) (by omega)).trans c8
  simp (config := { maxSteps := 2000000 }) -implicitDefEqProofs (disch := (first | omega | rfl | assumption | (simp only [put_next, bump_next, kill_next, List.length_cons, List.length_nil, List.mem_cons, List.not_mem_nil, or_false, not_false_eq_true]; first | omega | assumption))) only [Met.hold, Met.cells, b9, c9, Nat.reduceAdd, Nat.reduceMul, Nat.reduceLT, Int.reduceToNat, Int.reduceAdd, Int.reduceSub, Int.reduceMul, s_beq, List.length_cons, List.length_nil, List.getD_cons_zero, List.getD_cons_succ, List.getElem?_cons_zero, List.getElem?_cons_succ, Option.bind_some, Option.bind_assoc, s_bindN, asI_i, asB_b, asS_s, asP_p, asPS_p, asSl_sl, s_agg, s_tup, s_fn, joinB, joinI, joinR, beq_true, beq_false, Bool.not_true, Bool.not_false, Bool.not_not, cond_true, cond_false, neI, s_mapS, bindS_inl, bindS_inr, Bool.and_true, Bool.true_and, Bool.and_false, Bool.false_and, s_isNoneS, s_isNoneN, s_ref, s_adv, s_ldf, s_ld, s_ldM, s_st, s_stM, s_bs, s_bn, s_pp, bump_blk, bump_next, put_next, splice_z, splice_zz, splice_s, s_decT, s_decF, s_eqT, s_eqF, s_i64, s_u64, s_u8, Int.toNat_natCast, Nat.zero_add, s_room, s_chkT, s_rdSl, s_wrSl, s_ldN, s_ldNM, s_ldNf, List.drop_zero, List.take_succ_cons, List.take_zero, List.take_nil, List.take_length, Nat.mul_one, List.flatten_cons, List.flatten_nil, List.append_nil, List.nil_append, List.cons_append]
  have O9 := O8.ext p2
  have E9 := E8.trans p2
  have hlen' : L2.length = (L2.set (ff M.sp) ⟨.loc (.n σ7.next) 0 1, true, List.replicate n.toNat 0⟩).length := by rw [List.length_set]
  rw [hlen']
  refine Ok_some.2 (fin3 (m := M.met.hold n) (L := L2.set (ff M.sp) ⟨.loc (.n σ7.next) 0 1, true, List.replicate n.toNat 0⟩) (base := σ2.next) ?_ rfl (by omega) ?_ fun a'' L'' z1 z2 => ⟨a'', L'', rfl, z1, ?_⟩)
  · refine O9.of (by simp) fun b hb => ?_
    have := (O9.lt b hb).1
    simp -implicitDefEqProofs (disch := omega) only [s_bn, s_bs, s_kn, bump_blk]
  · refine ext_of (by simp only [put_next]; exact E9.next) fun b hb => ?_
    simp -implicitDefEqProofs (disch := omega) only [s_bn, s_bs, s_kn, bump_blk]
    exact E9.blk b hb
  · rw [z2, List.map_set, hput]; rfl
end Go.Abs.Try
