/-
  The document's answer for layer 8, as it is run: Copy. No conditions.
-/
import Derived.Test.YtjfblnpolgoojaaR8f
set_option linter.unusedVariables false
set_option linter.unusedSimpArgs false
set_option linter.constructorNameAsVariable false
set_option linter.unusedSimpArgs false
set_option linter.unusedVariables false
set_option maxHeartbeats 8000000
set_option maxRecDepth 100000
namespace Go.Abs.Try
open Go Go.Abs
variable {O : Type}

theorem take_snoc {w : List Int} {j : Nat} {x : Int} (h : w[j]? = some x) : w.take (j + 1) = w.take j ++ [x] := by rw [List.take_add_one, h]; rfl
theorem rcopy_T {σ : AH O} {a : SA} {L : List RSp} {M : MemS} (h : RM a L M) (hc : M.calm) {fr at_ to de n : Int} (hn : -9223372036854775808 ≤ n ∧ n ≤ 9223372036854775807) :
    Ok (haymowref08_Copy [rst a L.length M.met, .i .i64 fr, .i .i64 at_, .i .i64 to, .i .i64 de, .i .i64 n] σ) (RGives σ (M.copyR fr at_ to de n).1 [.i .i64 (M.copyR fr at_ to de n).2]) := by
  unfold haymowref08_Copy
  refine frz_ok (Q := RQ (M.copyR fr at_ to de n).1 [.i .i64 (M.copyR fr at_ to de n).2]) ?_
  have B := boxes_new (σ := σ) (a := a) (n := L.length) (m := M.met)
  simp only [Met.cells] at B
  generalize hσ1 : ((σ.bump 2).put σ.next (.cells true T_haymowref08_State _)).put (σ.next + 1) (.cells true T_haymowref08_State _) = σ1 at B
  simp (config := { maxSteps := 2000000 }) -implicitDefEqProofs (disch := (first | omega | rfl | assumption | (simp only [put_next, bump_next, kill_next, List.length_cons, List.length_nil, List.mem_cons, List.not_mem_nil, or_false, not_false_eq_true]; first | omega | assumption))) only [haymowref08_Copy_c, rst, Met.cells, hσ1, Nat.reduceAdd, Nat.reduceMul, Nat.reduceLT, Int.reduceToNat, Int.reduceAdd, Int.reduceSub, Int.reduceMul, s_beq, List.length_cons, List.length_nil, List.getD_cons_zero, List.getD_cons_succ, List.getElem?_cons_zero, List.getElem?_cons_succ, Option.bind_some, Option.bind_assoc, s_bindN, asI_i, asB_b, asS_s, asP_p, asPS_p, asSl_sl, s_agg, s_tup, s_fn, joinB, joinI, joinR, beq_true, beq_false, Bool.not_true, Bool.not_false, Bool.not_not, cond_true, cond_false, neI, s_mapS, bindS_inl, bindS_inr, Bool.and_true, Bool.true_and, Bool.and_false, Bool.false_and, s_isNoneS, s_isNoneN, s_ref, s_adv, s_ldf, s_ld, s_ldM, s_st, s_stM, s_bs, s_bn, s_pp, bump_blk, bump_next, put_next, splice_z, splice_zz, splice_s, s_decT, s_decF, s_eqT, s_eqF, s_i64, s_u64, s_u8, Int.toNat_natCast, Nat.zero_add, s_room, s_chkT, s_rdSl, s_wrSl, s_ldN, s_ldNM, s_ldNf, List.drop_zero, List.take_succ_cons, List.take_zero, List.take_nil, List.take_length, Nat.mul_one, List.flatten_cons, List.flatten_nil, List.append_nil, List.nil_append, List.cons_append]
  clear hσ1
  refine Ok.step (ris_ok (m := M.met) (id := fr) h.imm) fun r ⟨g1, g2⟩ => ?_
  obtain ⟨q, σ2⟩ := r
  simp only at g1 g2
  subst g1
  have B2 := B.ext g2
  clear B
  obtain ⟨cs, hc', c2⟩ := B2.c
  obtain ⟨x0, x1, x2, x3, x4, x5, x6, rfl⟩ := seven hc'
  have b2 := B2.b
  have n2 := B2.n
  have E := B2.e
  rw [h.sp]
  unfold MemS.copyR
  cases hwf : wordsOf M.sp fr with
  | none =>
    rw [if_pos (.inl (wrong_10.2 hwf))]
    simp (config := { maxSteps := 2000000 }) -implicitDefEqProofs (disch := (first | omega | rfl | assumption | (simp only [put_next, bump_next, kill_next, List.length_cons, List.length_nil, List.mem_cons, List.not_mem_nil, or_false, not_false_eq_true]; first | omega | assumption))) only [Option.isSome_none, b2, c2, Met.cells, Nat.reduceAdd, Nat.reduceMul, Nat.reduceLT, Int.reduceToNat, Int.reduceAdd, Int.reduceSub, Int.reduceMul, s_beq, List.length_cons, List.length_nil, List.getD_cons_zero, List.getD_cons_succ, List.getElem?_cons_zero, List.getElem?_cons_succ, Option.bind_some, Option.bind_assoc, s_bindN, asI_i, asB_b, asS_s, asP_p, asPS_p, asSl_sl, s_agg, s_tup, s_fn, joinB, joinI, joinR, beq_true, beq_false, Bool.not_true, Bool.not_false, Bool.not_not, cond_true, cond_false, neI, s_mapS, bindS_inl, bindS_inr, Bool.and_true, Bool.true_and, Bool.and_false, Bool.false_and, s_isNoneS, s_isNoneN, s_ref, s_adv, s_ldf, s_ld, s_ldM, s_st, s_stM, s_bs, s_bn, s_pp, bump_blk, bump_next, put_next, splice_z, splice_zz, splice_s, s_decT, s_decF, s_eqT, s_eqF, s_i64, s_u64, s_u8, Int.toNat_natCast, Nat.zero_add, s_room, s_chkT, s_rdSl, s_wrSl, s_ldN, s_ldNM, s_ldNf, List.drop_zero, List.take_succ_cons, List.take_zero, List.take_nil, List.take_length, Nat.mul_one, List.flatten_cons, List.flatten_nil, List.append_nil, List.nil_append, List.cons_append]
    exact Ok_some.2 (fin0 (m := M.met) h.imm rfl (ext_of (by simp only [put_next, bump_next, kill_next]; omega) (fun b hb => by simp -implicitDefEqProofs (disch := (first | omega | rfl | assumption | (simp only [put_next, bump_next, kill_next, List.length_cons, List.length_nil, List.mem_cons, List.not_mem_nil, or_false, not_false_eq_true]; first | omega | assumption))) only [s_bn, s_kn, bump_blk, s_ext])) ⟨a, L, rfl, h.imm, h.sp⟩)
  | some wf =>
  simp (config := { maxSteps := 2000000 }) -implicitDefEqProofs (disch := (first | omega | rfl | assumption | (simp only [put_next, bump_next, kill_next, List.length_cons, List.length_nil, List.mem_cons, List.not_mem_nil, or_false, not_false_eq_true]; first | omega | assumption))) only [Option.isSome_some, b2, Met.cells, Nat.reduceAdd, Nat.reduceMul, Nat.reduceLT, Int.reduceToNat, Int.reduceAdd, Int.reduceSub, Int.reduceMul, s_beq, List.length_cons, List.length_nil, List.getD_cons_zero, List.getD_cons_succ, List.getElem?_cons_zero, List.getElem?_cons_succ, Option.bind_some, Option.bind_assoc, s_bindN, asI_i, asB_b, asS_s, asP_p, asPS_p, asSl_sl, s_agg, s_tup, s_fn, joinB, joinI, joinR, beq_true, beq_false, Bool.not_true, Bool.not_false, Bool.not_not, cond_true, cond_false, neI, s_mapS, bindS_inl, bindS_inr, Bool.and_true, Bool.true_and, Bool.and_false, Bool.false_and, s_isNoneS, s_isNoneN, s_ref, s_adv, s_ldf, s_ld, s_ldM, s_st, s_stM, s_bs, s_bn, s_pp, bump_blk, bump_next, put_next, splice_z, splice_zz, splice_s, s_decT, s_decF, s_eqT, s_eqF, s_i64, s_u64, s_u8, Int.toNat_natCast, Nat.zero_add, s_room, s_chkT, s_rdSl, s_wrSl, s_ldN, s_ldNM, s_ldNf, List.drop_zero, List.take_succ_cons, List.take_zero, List.take_nil, List.take_length, Nat.mul_one, List.flatten_cons, List.flatten_nil, List.append_nil, List.nil_append, List.cons_append]
  refine Ok.step (ris_ok (m := M.met) (id := to) h.imm) fun r ⟨g3, g4⟩ => ?_
  obtain ⟨q, σ3⟩ := r
  simp only at g3 g4
  subst g3
  have B3 := B2.ext g4
  clear B2 b2 c2 E n2
  obtain ⟨cs, hc', c3⟩ := B3.c
  obtain ⟨x0, x1, x2, x3, x4, x5, x6, rfl⟩ := seven hc'
  have b3 := B3.b
  have n3 := B3.n
  have E := B3.e
  rw [h.sp]
  cases hwt : wordsOf M.sp to with
  | none =>
    rw [if_pos (.inr (wrong_10.2 hwt))]
    simp (config := { maxSteps := 2000000 }) -implicitDefEqProofs (disch := (first | omega | rfl | assumption | (simp only [put_next, bump_next, kill_next, List.length_cons, List.length_nil, List.mem_cons, List.not_mem_nil, or_false, not_false_eq_true]; first | omega | assumption))) only [Option.isSome_none, b3, c3, Met.cells, Nat.reduceAdd, Nat.reduceMul, Nat.reduceLT, Int.reduceToNat, Int.reduceAdd, Int.reduceSub, Int.reduceMul, s_beq, List.length_cons, List.length_nil, List.getD_cons_zero, List.getD_cons_succ, List.getElem?_cons_zero, List.getElem?_cons_succ, Option.bind_some, Option.bind_assoc, s_bindN, asI_i, asB_b, asS_s, asP_p, asPS_p, asSl_sl, s_agg, s_tup, s_fn, joinB, joinI, joinR, beq_true, beq_false, Bool.not_true, Bool.not_false, Bool.not_not, cond_true, cond_false, neI, s_mapS, bindS_inl, bindS_inr, Bool.and_true, Bool.true_and, Bool.and_false, Bool.false_and, s_isNoneS, s_isNoneN, s_ref, s_adv, s_ldf, s_ld, s_ldM, s_st, s_stM, s_bs, s_bn, s_pp, bump_blk, bump_next, put_next, splice_z, splice_zz, splice_s, s_decT, s_decF, s_eqT, s_eqF, s_i64, s_u64, s_u8, Int.toNat_natCast, Nat.zero_add, s_room, s_chkT, s_rdSl, s_wrSl, s_ldN, s_ldNM, s_ldNf, List.drop_zero, List.take_succ_cons, List.take_zero, List.take_nil, List.take_length, Nat.mul_one, List.flatten_cons, List.flatten_nil, List.append_nil, List.nil_append, List.cons_append]
    exact Ok_some.2 (fin0 (m := M.met) h.imm rfl (ext_of (by simp only [put_next, bump_next, kill_next]; omega) (fun b hb => by simp -implicitDefEqProofs (disch := (first | omega | rfl | assumption | (simp only [put_next, bump_next, kill_next, List.length_cons, List.length_nil, List.mem_cons, List.not_mem_nil, or_false, not_false_eq_true]; first | omega | assumption))) only [s_bn, s_kn, bump_blk, s_ext])) ⟨a, L, rfl, h.imm, h.sp⟩)
  | some wt =>
  rw [if_neg (by rw [wrong_10, wrong_10, hwf, hwt]; simp)]
  simp (config := { maxSteps := 2000000 }) -implicitDefEqProofs (disch := (first | omega | rfl | assumption | (simp only [put_next, bump_next, kill_next, List.length_cons, List.length_nil, List.mem_cons, List.not_mem_nil, or_false, not_false_eq_true]; first | omega | assumption))) only [Option.isSome_some, b3, Met.cells, Nat.reduceAdd, Nat.reduceMul, Nat.reduceLT, Int.reduceToNat, Int.reduceAdd, Int.reduceSub, Int.reduceMul, s_beq, List.length_cons, List.length_nil, List.getD_cons_zero, List.getD_cons_succ, List.getElem?_cons_zero, List.getElem?_cons_succ, Option.bind_some, Option.bind_assoc, s_bindN, asI_i, asB_b, asS_s, asP_p, asPS_p, asSl_sl, s_agg, s_tup, s_fn, joinB, joinI, joinR, beq_true, beq_false, Bool.not_true, Bool.not_false, Bool.not_not, cond_true, cond_false, neI, s_mapS, bindS_inl, bindS_inr, Bool.and_true, Bool.true_and, Bool.and_false, Bool.false_and, s_isNoneS, s_isNoneN, s_ref, s_adv, s_ldf, s_ld, s_ldM, s_st, s_stM, s_bs, s_bn, s_pp, bump_blk, bump_next, put_next, splice_z, splice_zz, splice_s, s_decT, s_decF, s_eqT, s_eqF, s_i64, s_u64, s_u8, Int.toNat_natCast, Nat.zero_add, s_room, s_chkT, s_rdSl, s_wrSl, s_ldN, s_ldNM, s_ldNf, List.drop_zero, List.take_succ_cons, List.take_zero, List.take_nil, List.take_length, Nat.mul_one, List.flatten_cons, List.flatten_nil, List.append_nil, List.nil_append, List.cons_append]
  refine Ok.step (rwrong_ok (m := M.met) (id := fr) (at_ := at_) (n := n) h.imm h.size hn) fun r ⟨g5, g6⟩ => ?_
  obtain ⟨q, σ4⟩ := r
  simp only at g5 g6
  subst g5
  have B4 := B3.ext g6
  clear B3 b3 c3 E n3
  obtain ⟨cs, hc', c4⟩ := B4.c
  obtain ⟨x0, x1, x2, x3, x4, x5, x6, rfl⟩ := seven hc'
  have b4 := B4.b
  have n4 := B4.n
  have E := B4.e
  rw [h.sp]
  by_cases hz1 : wrongR M.sp fr at_ n ≠ 0
  · rw [if_pos (.inl hz1)]
    simp (config := { maxSteps := 2000000 }) -implicitDefEqProofs (disch := (first | omega | rfl | assumption | (simp only [put_next, bump_next, kill_next, List.length_cons, List.length_nil, List.mem_cons, List.not_mem_nil, or_false, not_false_eq_true]; first | omega | assumption))) only [b4, c4, Met.cells, Nat.reduceAdd, Nat.reduceMul, Nat.reduceLT, Int.reduceToNat, Int.reduceAdd, Int.reduceSub, Int.reduceMul, s_beq, List.length_cons, List.length_nil, List.getD_cons_zero, List.getD_cons_succ, List.getElem?_cons_zero, List.getElem?_cons_succ, Option.bind_some, Option.bind_assoc, s_bindN, asI_i, asB_b, asS_s, asP_p, asPS_p, asSl_sl, s_agg, s_tup, s_fn, joinB, joinI, joinR, beq_true, beq_false, Bool.not_true, Bool.not_false, Bool.not_not, cond_true, cond_false, neI, s_mapS, bindS_inl, bindS_inr, Bool.and_true, Bool.true_and, Bool.and_false, Bool.false_and, s_isNoneS, s_isNoneN, s_ref, s_adv, s_ldf, s_ld, s_ldM, s_st, s_stM, s_bs, s_bn, s_pp, bump_blk, bump_next, put_next, splice_z, splice_zz, splice_s, s_decT, s_decF, s_eqT, s_eqF, s_i64, s_u64, s_u8, Int.toNat_natCast, Nat.zero_add, s_room, s_chkT, s_rdSl, s_wrSl, s_ldN, s_ldNM, s_ldNf, List.drop_zero, List.take_succ_cons, List.take_zero, List.take_nil, List.take_length, Nat.mul_one, List.flatten_cons, List.flatten_nil, List.append_nil, List.nil_append, List.cons_append]
    exact Ok_some.2 (fin0 (m := M.met) h.imm rfl (ext_of (by simp only [put_next, bump_next, kill_next]; omega) (fun b hb => by simp -implicitDefEqProofs (disch := (first | omega | rfl | assumption | (simp only [put_next, bump_next, kill_next, List.length_cons, List.length_nil, List.mem_cons, List.not_mem_nil, or_false, not_false_eq_true]; first | omega | assumption))) only [s_bn, s_kn, bump_blk, s_ext])) ⟨a, L, rfl, h.imm, h.sp⟩)
  have hz1 : wrongR M.sp fr at_ n = 0 := by omega
  rw [hz1]
  simp (config := { maxSteps := 2000000 }) -implicitDefEqProofs (disch := (first | omega | rfl | assumption | (simp only [put_next, bump_next, kill_next, List.length_cons, List.length_nil, List.mem_cons, List.not_mem_nil, or_false, not_false_eq_true]; first | omega | assumption))) only [b4, Met.cells, Nat.reduceAdd, Nat.reduceMul, Nat.reduceLT, Int.reduceToNat, Int.reduceAdd, Int.reduceSub, Int.reduceMul, s_beq, List.length_cons, List.length_nil, List.getD_cons_zero, List.getD_cons_succ, List.getElem?_cons_zero, List.getElem?_cons_succ, Option.bind_some, Option.bind_assoc, s_bindN, asI_i, asB_b, asS_s, asP_p, asPS_p, asSl_sl, s_agg, s_tup, s_fn, joinB, joinI, joinR, beq_true, beq_false, Bool.not_true, Bool.not_false, Bool.not_not, cond_true, cond_false, neI, s_mapS, bindS_inl, bindS_inr, Bool.and_true, Bool.true_and, Bool.and_false, Bool.false_and, s_isNoneS, s_isNoneN, s_ref, s_adv, s_ldf, s_ld, s_ldM, s_st, s_stM, s_bs, s_bn, s_pp, bump_blk, bump_next, put_next, splice_z, splice_zz, splice_s, s_decT, s_decF, s_eqT, s_eqF, s_i64, s_u64, s_u8, Int.toNat_natCast, Nat.zero_add, s_room, s_chkT, s_rdSl, s_wrSl, s_ldN, s_ldNM, s_ldNf, List.drop_zero, List.take_succ_cons, List.take_zero, List.take_nil, List.take_length, Nat.mul_one, List.flatten_cons, List.flatten_nil, List.append_nil, List.nil_append, List.cons_append]
  refine Ok.step (rwrong_ok (m := M.met) (id := to) (at_ := de) (n := n) h.imm h.size hn) fun r ⟨g7, g8⟩ => ?_
  obtain ⟨q, σ5⟩ := r
  simp only at g7 g8
  subst g7
  have B5 := B4.ext g8
  clear B4 b4 c4 E n4
  obtain ⟨cs, hc', c5⟩ := B5.c
  obtain ⟨x0, x1, x2, x3, x4, x5, x6, rfl⟩ := seven hc'
  have b5 := B5.b
  have n5 := B5.n
  have E := B5.e
  rw [h.sp]
  by_cases hz2 : wrongR M.sp to de n ≠ 0
  · rw [if_pos (.inr hz2)]
    simp (config := { maxSteps := 2000000 }) -implicitDefEqProofs (disch := (first | omega | rfl | assumption | (simp only [put_next, bump_next, kill_next, List.length_cons, List.length_nil, List.mem_cons, List.not_mem_nil, or_false, not_false_eq_true]; first | omega | assumption))) only [b5, c5, Met.cells, Nat.reduceAdd, Nat.reduceMul, Nat.reduceLT, Int.reduceToNat, Int.reduceAdd, Int.reduceSub, Int.reduceMul, s_beq, List.length_cons, List.length_nil, List.getD_cons_zero, List.getD_cons_succ, List.getElem?_cons_zero, List.getElem?_cons_succ, Option.bind_some, Option.bind_assoc, s_bindN, asI_i, asB_b, asS_s, asP_p, asPS_p, asSl_sl, s_agg, s_tup, s_fn, joinB, joinI, joinR, beq_true, beq_false, Bool.not_true, Bool.not_false, Bool.not_not, cond_true, cond_false, neI, s_mapS, bindS_inl, bindS_inr, Bool.and_true, Bool.true_and, Bool.and_false, Bool.false_and, s_isNoneS, s_isNoneN, s_ref, s_adv, s_ldf, s_ld, s_ldM, s_st, s_stM, s_bs, s_bn, s_pp, bump_blk, bump_next, put_next, splice_z, splice_zz, splice_s, s_decT, s_decF, s_eqT, s_eqF, s_i64, s_u64, s_u8, Int.toNat_natCast, Nat.zero_add, s_room, s_chkT, s_rdSl, s_wrSl, s_ldN, s_ldNM, s_ldNf, List.drop_zero, List.take_succ_cons, List.take_zero, List.take_nil, List.take_length, Nat.mul_one, List.flatten_cons, List.flatten_nil, List.append_nil, List.nil_append, List.cons_append]
    exact Ok_some.2 (fin0 (m := M.met) h.imm rfl (ext_of (by simp only [put_next, bump_next, kill_next]; omega) (fun b hb => by simp -implicitDefEqProofs (disch := (first | omega | rfl | assumption | (simp only [put_next, bump_next, kill_next, List.length_cons, List.length_nil, List.mem_cons, List.not_mem_nil, or_false, not_false_eq_true]; first | omega | assumption))) only [s_bn, s_kn, bump_blk, s_ext])) ⟨a, L, rfl, h.imm, h.sp⟩)
  have hz2 : wrongR M.sp to de n = 0 := by omega
  rw [hz2, if_neg (by omega)]
  obtain ⟨w1, hw1, f1, f2, f3⟩ := wrong_0 hz1
  rw [hwf] at hw1; cases hw1
  obtain ⟨w2, hw2, e1, e2, e3⟩ := wrong_0 hz2
  rw [hwt] at hw2; cases hw2
  have hwfL := hwf
  rw [← h.sp] at hwfL
  obtain ⟨fr0, s1, hs1, ho1, rfl⟩ := getR hwfL
  obtain ⟨bb, oo, rfl, u0, u1, u2⟩ := h.imm.at hs1
  have hlt1 := (List.getElem?_eq_some_iff.1 hs1).1
  have hfew := h.few
  have hlen1 := h.ok.len (wordsOf_some hwf).2
  have hlen2 := h.ok.len (wordsOf_some hwt).2
  simp (config := { maxSteps := 2000000 }) -implicitDefEqProofs (disch := (first | omega | rfl | assumption | (simp only [put_next, bump_next, kill_next, List.length_cons, List.length_nil, List.mem_cons, List.not_mem_nil, or_false, not_false_eq_true]; first | omega | assumption))) only [b5, u1, Met.cells, Nat.reduceAdd, Nat.reduceMul, Nat.reduceLT, Int.reduceToNat, Int.reduceAdd, Int.reduceSub, Int.reduceMul, s_beq, List.length_cons, List.length_nil, List.getD_cons_zero, List.getD_cons_succ, List.getElem?_cons_zero, List.getElem?_cons_succ, Option.bind_some, Option.bind_assoc, s_bindN, asI_i, asB_b, asS_s, asP_p, asPS_p, asSl_sl, s_agg, s_tup, s_fn, joinB, joinI, joinR, beq_true, beq_false, Bool.not_true, Bool.not_false, Bool.not_not, cond_true, cond_false, neI, s_mapS, bindS_inl, bindS_inr, Bool.and_true, Bool.true_and, Bool.and_false, Bool.false_and, s_isNoneS, s_isNoneN, s_ref, s_adv, s_ldf, s_ld, s_ldM, s_st, s_stM, s_bs, s_bn, s_pp, bump_blk, bump_next, put_next, splice_z, splice_zz, splice_s, s_decT, s_decF, s_eqT, s_eqF, s_i64, s_u64, s_u8, Int.toNat_natCast, Nat.zero_add, s_room, s_chkT, s_rdSl, s_wrSl, s_ldN, s_ldNM, s_ldNf, List.drop_zero, List.take_succ_cons, List.take_zero, List.take_nil, List.take_length, Nat.mul_one, List.flatten_cons, List.flatten_nil, List.append_nil, List.nil_append, List.cons_append]
  refine Ok.step (copied_ok (m := M.met) h.imm h.few h.size) fun r ⟨a', L', k1, k2, k3, k4, k5⟩ => ?_
  obtain ⟨q, σ6⟩ := r
  simp only at k1 k2 k5
  subst k1
  have B6 := B5.ext k5
  have n5' := B5.n
  clear B5 b5 c5 E n5
  obtain ⟨cs, hc', c6⟩ := B6.c
  obtain ⟨y0, y1, y2, y3, y4, y5, y6, rfl⟩ := seven hc'
  have b6 := B6.b
  have n6 := B6.n
  have hwtL := hwt
  rw [← h.sp, ← k3] at hwtL
  obtain ⟨h0, s, hs, ho, rfl⟩ := getR hwtL
  have hlt := (List.getElem?_eq_some_iff.1 hs).1
  simp (config := { maxSteps := 2000000 }) -implicitDefEqProofs (disch := (first | omega | rfl | assumption | (simp only [put_next, bump_next, kill_next, List.length_cons, List.length_nil, List.mem_cons, List.not_mem_nil, or_false, not_false_eq_true]; first | omega | assumption))) only [rst, b6, c6, Met.cells, Nat.reduceAdd, Nat.reduceMul, Nat.reduceLT, Int.reduceToNat, Int.reduceAdd, Int.reduceSub, Int.reduceMul, s_beq, List.length_cons, List.length_nil, List.getD_cons_zero, List.getD_cons_succ, List.getElem?_cons_zero, List.getElem?_cons_succ, Option.bind_some, Option.bind_assoc, s_bindN, asI_i, asB_b, asS_s, asP_p, asPS_p, asSl_sl, s_agg, s_tup, s_fn, joinB, joinI, joinR, beq_true, beq_false, Bool.not_true, Bool.not_false, Bool.not_not, cond_true, cond_false, neI, s_mapS, bindS_inl, bindS_inr, Bool.and_true, Bool.true_and, Bool.and_false, Bool.false_and, s_isNoneS, s_isNoneN, s_ref, s_adv, s_ldf, s_ld, s_ldM, s_st, s_stM, s_bs, s_bn, s_pp, bump_blk, bump_next, put_next, splice_z, splice_zz, splice_s, s_decT, s_decF, s_eqT, s_eqF, s_i64, s_u64, s_u8, Int.toNat_natCast, Nat.zero_add, s_room, s_chkT, s_rdSl, s_wrSl, s_ldN, s_ldNM, s_ldNf, List.drop_zero, List.take_succ_cons, List.take_zero, List.take_nil, List.take_length, Nat.mul_one, List.flatten_cons, List.flatten_nil, List.append_nil, List.nil_append, List.cons_append]
  generalize hσ7 : σ6.put σ.next (.cells true T_haymowref08_State _) = σ7
  have b7 : σ7.blk σ.next = some (.cells true T_haymowref08_State (.sl a' L.length :: M.met.cells)) := by rw [← hσ7, s_bs]; rfl
  have k7' : ∀ b, b ≠ σ.next → σ7.blk b = σ6.blk b := fun b hb => by rw [← hσ7, s_bn hb]
  have n7 : σ7.next = σ6.next := by rw [← hσ7]; rfl
  clear hσ7
  have hcw := hc.w
  have hmw := h.ok.met.w
  have hcr := hc.r
  have hmr := h.ok.met.r
  refine Ok.step (r7_step_r (m := M.met) (n := n) hmr (by omega)) fun r ⟨p1, p2⟩ => ?_
  obtain ⟨q, σ8⟩ := r
  simp only at p1 p2
  subst p1
  simp (config := { maxSteps := 2000000 }) -implicitDefEqProofs (disch := (first | omega | rfl | assumption | (simp only [put_next, bump_next, kill_next, List.length_cons, List.length_nil, List.mem_cons, List.not_mem_nil, or_false, not_false_eq_true]; first | omega | assumption))) only [Met.cells, Nat.reduceAdd, Nat.reduceMul, Nat.reduceLT, Int.reduceToNat, Int.reduceAdd, Int.reduceSub, Int.reduceMul, s_beq, List.length_cons, List.length_nil, List.getD_cons_zero, List.getD_cons_succ, List.getElem?_cons_zero, List.getElem?_cons_succ, Option.bind_some, Option.bind_assoc, s_bindN, asI_i, asB_b, asS_s, asP_p, asPS_p, asSl_sl, s_agg, s_tup, s_fn, joinB, joinI, joinR, beq_true, beq_false, Bool.not_true, Bool.not_false, Bool.not_not, cond_true, cond_false, neI, s_mapS, bindS_inl, bindS_inr, Bool.and_true, Bool.true_and, Bool.and_false, Bool.false_and, s_isNoneS, s_isNoneN, s_ref, s_adv, s_ldf, s_ld, s_ldM, s_st, s_stM, s_bs, s_bn, s_pp, bump_blk, bump_next, put_next, splice_z, splice_zz, splice_s, s_decT, s_decF, s_eqT, s_eqF, s_i64, s_u64, s_u8, Int.toNat_natCast, Nat.zero_add, s_room, s_chkT, s_rdSl, s_wrSl, s_ldN, s_ldNM, s_ldNf, List.drop_zero, List.take_succ_cons, List.take_zero, List.take_nil, List.take_length, Nat.mul_one, List.flatten_cons, List.flatten_nil, List.append_nil, List.nil_append, List.cons_append]
  refine Ok.step (r7_step_w (m := { M.met with r := M.met.r + n }) (n := n) hmw (by omega)) fun r ⟨p3, p4⟩ => ?_
  obtain ⟨q, σ9⟩ := r
  simp only at p3 p4
  subst p3
  have n8 := p2.next
  have n9 := p4.next
  have P := p2.trans p4
  have b9 := (P.blk σ.next (by omega)).trans b7
  have c9 := (P.blk (σ.next + 1) (by omega)).trans ((k7' _ (by omega)).trans c6)
  have O9 : ROwn σ9 σ5.next a' L' := (k2.of (σ' := σ7) (by omega) fun b hb => k7' b (by have := (k2.lt b hb).1; omega)).ext P
  simp (config := { maxSteps := 2000000 }) -implicitDefEqProofs (disch := (first | omega | rfl | assumption | (simp only [put_next, bump_next, kill_next, List.length_cons, List.length_nil, List.mem_cons, List.not_mem_nil, or_false, not_false_eq_true]; first | omega | assumption))) only [Met.cells, b9, Nat.reduceAdd, Nat.reduceMul, Nat.reduceLT, Int.reduceToNat, Int.reduceAdd, Int.reduceSub, Int.reduceMul, s_beq, List.length_cons, List.length_nil, List.getD_cons_zero, List.getD_cons_succ, List.getElem?_cons_zero, List.getElem?_cons_succ, Option.bind_some, Option.bind_assoc, s_bindN, asI_i, asB_b, asS_s, asP_p, asPS_p, asSl_sl, s_agg, s_tup, s_fn, joinB, joinI, joinR, beq_true, beq_false, Bool.not_true, Bool.not_false, Bool.not_not, cond_true, cond_false, neI, s_mapS, bindS_inl, bindS_inr, Bool.and_true, Bool.true_and, Bool.and_false, Bool.false_and, s_isNoneS, s_isNoneN, s_ref, s_adv, s_ldf, s_ld, s_ldM, s_st, s_stM, s_bs, s_bn, s_pp, bump_blk, bump_next, put_next, splice_z, splice_zz, splice_s, s_decT, s_decF, s_eqT, s_eqF, s_i64, s_u64, s_u8, Int.toNat_natCast, Nat.zero_add, s_room, s_chkT, s_rdSl, s_wrSl, s_ldN, s_ldNM, s_ldNf, List.drop_zero, List.take_succ_cons, List.take_zero, List.take_nil, List.take_length, Nat.mul_one, List.flatten_cons, List.flatten_nil, List.append_nil, List.nil_append, List.cons_append]
  generalize hσ10 : σ9.put σ.next (.cells true T_haymowref08_State _) = σ10
  have b10 : σ10.blk σ.next = some (.cells true T_haymowref08_State (.sl a' L.length :: (⟨M.met.r + n, M.met.w + n, M.met.held, M.met.high⟩ : Met).cells)) := by rw [← hσ10, s_bs]; rfl
  have k10' : ∀ b, b ≠ σ.next → σ10.blk b = σ9.blk b := fun b hb => by rw [← hσ10, s_bn hb]
  have n10 : σ10.next = σ9.next := by rw [← hσ10]; rfl
  clear hσ10
  have O10 : ROwn σ10 σ5.next a' L' := O9.of (by omega) fun b hb => k10' b (by have := (O9.lt b hb).1; omega)
  have c10 := (k10' (σ.next + 1) (by omega)).trans c9
  have E6 := B6.e
  have E10 : Ext σ σ10 := ⟨by have := E6.next; omega, fun b hb => (k10' b (by omega)).trans ((P.blk b (by omega)).trans ((k7' b (by omega)).trans (E6.blk b hb)))⟩
  refine Ok.step (Q := fun r => ∃ σ11 : AH O, r = ([], σ11) ∧ σ11.next = σ10.next ∧ (∀ b, b < σ.next + 2 → σ11.blk b = σ10.blk b) ∧ ROwn σ11 σ5.next a' (L'.set to.toNat { s with ws := patched s.ws de.toNat ((s1.ws.drop at_.toNat).take n.toNat) })) ?_ ?_
  · refine Ok.count n.toNat (fun j st => ∃ σ11 : AH O, st = ([.i .i64 (j : Int)], σ11) ∧ σ11.next = σ10.next ∧ (∀ b, b < σ.next + 2 → σ11.blk b = σ10.blk b) ∧ ROwn σ11 σ5.next a' (L'.set to.toNat { s with ws := patched s.ws de.toNat ((s1.ws.drop at_.toNat).take j) })) ?_ ?_
      ⟨σ10, rfl, rfl, fun _ _ => rfl, by rw [List.take_zero, patched_nil]; rw [show ({ s with ws := s.ws } : RSp) = s from rfl, set_self hs]; exact O10⟩
    · rintro j st hj ⟨σ11, rfl, m1, m2, m3⟩
      have b11 := (m2 σ.next (by omega)).trans b10
      have hs7 := set_at (x := { s with ws := patched s.ws de.toNat ((s1.ws.drop at_.toNat).take j) }) hs
      have hvl : ((s1.ws.drop at_.toNat).take j).length = j := by simp; omega
      obtain ⟨k, rfl, q1, q2, q3, q4, q5⟩ := m3.at hs7
      have hpl : (patched s.ws de.toNat ((s1.ws.drop at_.toNat).take j)).length = s.ws.length := patched_len (by rw [hvl]; omega)
      simp only [hpl] at q4 q5
      obtain ⟨kw, ew, q6, q7⟩ := q5.loc (by omega)
      have et : (de + (j : Int)).toNat = de.toNat + j := by omega
      have et2 : (at_ + (j : Int)).toNat = at_.toNat + j := by omega
      have hx : s1.ws[at_.toNat + j]? = some (s1.ws[at_.toNat + j]'(by omega)) := List.getElem?_eq_getElem (by omega)
      generalize s1.ws[at_.toNat + j]'(by omega) = x at hx
      obtain ⟨b12, o12, e12, v12⟩ := (u2 O σ11).at1 (u64s_get hx)
      rw [Nat.mul_one] at v12
      have hrs : SA.ref s1.a = some (b12, o12) := by rw [e12]; rfl
      have hspw : splice (u64s (patched s.ws de.toNat ((s1.ws.drop at_.toNat).take j))) (de.toNat + j) [.i .u64 x] = u64s (patched s.ws de.toNat ((s1.ws.drop at_.toNat).take (j + 1))) := by
        rw [splice_set (by rw [u64s_len, hpl]; omega)]
        have := patched_snoc (w := s.ws) (v := (s1.ws.drop at_.toNat).take j) (a := de.toNat) (x := x) (by rw [hvl]; omega)
        rw [hvl] at this
        rw [take_snoc (x := x) (by rw [List.getElem?_drop]; exact hx), ← this]; simp [u64s, List.map_set]
      have hrf : SA.ref s.a = some (.n kw, 0) := by rw [ew]; rfl
      simp (config := { maxSteps := 2000000 }) -implicitDefEqProofs (disch := (first | omega | rfl | assumption | (simp only [put_next, bump_next, kill_next, List.length_cons, List.length_nil, List.mem_cons, List.not_mem_nil, or_false, not_false_eq_true]; first | omega | assumption))) only [haymowref08_Copy_L1, b11, q1, q4, hrf, hrs, v12, q6, et, et2, u64s_len, hpl, hspw, Nat.reduceAdd, Nat.reduceMul, Nat.reduceLT, Int.reduceToNat, Int.reduceAdd, Int.reduceSub, Int.reduceMul, s_beq, List.length_cons, List.length_nil, List.getD_cons_zero, List.getD_cons_succ, List.getElem?_cons_zero, List.getElem?_cons_succ, Option.bind_some, Option.bind_assoc, s_bindN, asI_i, asB_b, asS_s, asP_p, asPS_p, asSl_sl, s_agg, s_tup, s_fn, joinB, joinI, joinR, beq_true, beq_false, Bool.not_true, Bool.not_false, Bool.not_not, cond_true, cond_false, neI, s_mapS, bindS_inl, bindS_inr, Bool.and_true, Bool.true_and, Bool.and_false, Bool.false_and, s_isNoneS, s_isNoneN, s_ref, s_adv, s_ldf, s_ld, s_ldM, s_st, s_stM, s_bs, s_bn, s_pp, bump_blk, bump_next, put_next, splice_z, splice_zz, splice_s, s_decT, s_decF, s_eqT, s_eqF, s_i64, s_u64, s_u8, Int.toNat_natCast, Nat.zero_add, s_room, s_chkT, s_rdSl, s_wrSl, s_ldN, s_ldNM, s_ldNf, List.drop_zero, List.take_succ_cons, List.take_zero, List.take_nil, List.take_length, Nat.mul_one, List.flatten_cons, List.flatten_nil, List.append_nil, List.nil_append, List.cons_append]
      obtain ⟨f1, f2, f3⟩ := m3.wput hs7 ew (w' := patched s.ws de.toNat ((s1.ws.drop at_.toNat).take (j + 1))) (by rw [patched_len (by simp; omega), hpl])
      refine Ok_some.2 ⟨_, rfl, m1, fun b hb => ?_, ?_⟩
      · rw [s_bn (by omega)]; exact m2 b hb
      · rw [List.set_set] at f1; exact f1
    · rintro st ⟨σ11, rfl, m1, m2, m3⟩
      simp (config := { maxSteps := 2000000 }) -implicitDefEqProofs (disch := (first | omega | rfl | assumption | (simp only [put_next, bump_next, kill_next, List.length_cons, List.length_nil, List.mem_cons, List.not_mem_nil, or_false, not_false_eq_true]; first | omega | assumption))) only [haymowref08_Copy_L1, Nat.reduceAdd, Nat.reduceMul, Nat.reduceLT, Int.reduceToNat, Int.reduceAdd, Int.reduceSub, Int.reduceMul, s_beq, List.length_cons, List.length_nil, List.getD_cons_zero, List.getD_cons_succ, List.getElem?_cons_zero, List.getElem?_cons_succ, Option.bind_some, Option.bind_assoc, s_bindN, asI_i, asB_b, asS_s, asP_p, asPS_p, asSl_sl, s_agg, s_tup, s_fn, joinB, joinI, joinR, beq_true, beq_false, Bool.not_true, Bool.not_false, Bool.not_not, cond_true, cond_false, neI, s_mapS, bindS_inl, bindS_inr, Bool.and_true, Bool.true_and, Bool.and_false, Bool.false_and, s_isNoneS, s_isNoneN, s_ref, s_adv, s_ldf, s_ld, s_ldM, s_st, s_stM, s_bs, s_bn, s_pp, bump_blk, bump_next, put_next, splice_z, splice_zz, splice_s, s_decT, s_decF, s_eqT, s_eqF, s_i64, s_u64, s_u8, Int.toNat_natCast, Nat.zero_add, s_room, s_chkT, s_rdSl, s_wrSl, s_ldN, s_ldNM, s_ldNf, List.drop_zero, List.take_succ_cons, List.take_zero, List.take_nil, List.take_length, Nat.mul_one, List.flatten_cons, List.flatten_nil, List.append_nil, List.nil_append, List.cons_append]
      exact Ok_some.2 ⟨σ11, rfl, m1, m2, m3⟩
  rintro r ⟨σ11, rfl, m1, m2, m3⟩
  have b11 := (m2 σ.next (by omega)).trans b10
  have c11 := (m2 (σ.next + 1) (by omega)).trans c10
  simp (config := { maxSteps := 2000000 }) -implicitDefEqProofs (disch := (first | omega | rfl | assumption | (simp only [put_next, bump_next, kill_next, List.length_cons, List.length_nil, List.mem_cons, List.not_mem_nil, or_false, not_false_eq_true]; first | omega | assumption))) only [b11, c11, Met.cells, Nat.reduceAdd, Nat.reduceMul, Nat.reduceLT, Int.reduceToNat, Int.reduceAdd, Int.reduceSub, Int.reduceMul, s_beq, List.length_cons, List.length_nil, List.getD_cons_zero, List.getD_cons_succ, List.getElem?_cons_zero, List.getElem?_cons_succ, Option.bind_some, Option.bind_assoc, s_bindN, asI_i, asB_b, asS_s, asP_p, asPS_p, asSl_sl, s_agg, s_tup, s_fn, joinB, joinI, joinR, beq_true, beq_false, Bool.not_true, Bool.not_false, Bool.not_not, cond_true, cond_false, neI, s_mapS, bindS_inl, bindS_inr, Bool.and_true, Bool.true_and, Bool.and_false, Bool.false_and, s_isNoneS, s_isNoneN, s_ref, s_adv, s_ldf, s_ld, s_ldM, s_st, s_stM, s_bs, s_bn, s_pp, bump_blk, bump_next, put_next, splice_z, splice_zz, splice_s, s_decT, s_decF, s_eqT, s_eqF, s_i64, s_u64, s_u8, Int.toNat_natCast, Nat.zero_add, s_room, s_chkT, s_rdSl, s_wrSl, s_ldN, s_ldNM, s_ldNf, List.drop_zero, List.take_succ_cons, List.take_zero, List.take_nil, List.take_length, Nat.mul_one, List.flatten_cons, List.flatten_nil, List.append_nil, List.nil_append, List.cons_append]
  have hlen' : L.length = (L'.set to.toNat { s with ws := patched s.ws de.toNat ((s1.ws.drop at_.toNat).take n.toNat) }).length := by rw [List.length_set, k4]
  rw [hlen']
  refine Ok_some.2 (fin3 (m := ⟨M.met.r + n, M.met.w + n, M.met.held, M.met.high⟩) (L := L'.set to.toNat { s with ws := patched s.ws de.toNat ((s1.ws.drop at_.toNat).take n.toNat) }) (base := σ5.next) ?_ rfl (by omega) ?_ fun a'' L'' z1 z2 => ⟨a'', L'', rfl, z1, ?_⟩)
  · refine m3.of (by simp) fun b hb => ?_
    have := (m3.lt b hb).1
    simp -implicitDefEqProofs (disch := omega) only [s_bn, s_bs, s_kn, bump_blk]
  · refine ext_of (by simp only [put_next]; rw [m1]; exact E10.next) fun b hb => ?_
    simp -implicitDefEqProofs (disch := omega) only [s_bn, s_bs, s_kn, bump_blk]
    rw [m2 b (by omega)]; exact E10.blk b hb
  · rw [z2, List.map_set, k3, h.sp]
    simp only [MemS.put, MemS.wr, MemS.rd, RSp.v, Option.getD_some, ho]
end Go.Abs.Try
