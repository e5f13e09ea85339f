/-
  The document's answer for layer 8, as it is run: Grow. No conditions.
-/
import Derived.Test.YtjfblnpolgoojaaR8c
set_option linter.unusedVariables false
set_option linter.unusedSimpArgs false
set_option linter.constructorNameAsVariable false
set_option linter.unusedSimpArgs false
set_option linter.unusedVariables false
set_option maxHeartbeats 4000000
set_option maxRecDepth 100000
namespace Go.Abs.Try
open Go Go.Abs
variable {O : Type}

theorem rgrow_T {σ : AH O} {a : SA} {L : List RSp} {M : MemS} (h : RM a L M) {id n : Int} : Ok (haymowref08_Grow [rst a L.length M.met, .i .i64 id, .i .i64 n] σ) (RGives σ (M.growR id n).1 [.i .i64 (M.growR id n).2]) := by
  unfold haymowref08_Grow
  refine frz_ok (Q := RQ (M.growR id n).1 [.i .i64 (M.growR id n).2]) ?_
  have B := boxes_new (σ := σ) (a := a) (n := L.length) (m := M.met)
  simp only [Met.cells] at B
  generalize hσ1 : ((σ.bump 2).put σ.next (.cells true T_haymowref08_State _)).put (σ.next + 1) (.cells true T_haymowref08_State _) = σ1 at B
  simp (config := { maxSteps := 2000000 }) -implicitDefEqProofs (disch := (first | omega | rfl | assumption | (simp only [put_next, bump_next, kill_next, List.length_cons, List.length_nil, List.mem_cons, List.not_mem_nil, or_false, not_false_eq_true]; first | omega | assumption))) only [haymowref08_Grow_c, rst, Met.cells, hσ1, Nat.reduceAdd, Nat.reduceMul, Nat.reduceLT, Int.reduceToNat, Int.reduceAdd, Int.reduceSub, Int.reduceMul, s_beq, List.length_cons, List.length_nil, List.getD_cons_zero, List.getD_cons_succ, List.getElem?_cons_zero, List.getElem?_cons_succ, Option.bind_some, Option.bind_assoc, s_bindN, asI_i, asB_b, asS_s, asP_p, asPS_p, asSl_sl, s_agg, s_tup, s_fn, joinB, joinI, joinR, beq_true, beq_false, Bool.not_true, Bool.not_false, Bool.not_not, cond_true, cond_false, neI, s_mapS, bindS_inl, bindS_inr, Bool.and_true, Bool.true_and, Bool.and_false, Bool.false_and, s_isNoneS, s_isNoneN, s_ref, s_adv, s_ldf, s_ld, s_ldM, s_st, s_stM, s_bs, s_bn, s_pp, bump_blk, bump_next, put_next, splice_z, splice_zz, splice_s, s_decT, s_decF, s_eqT, s_eqF, s_i64, s_u64, s_u8, Int.toNat_natCast, Nat.zero_add, s_room, s_chkT, s_rdSl, s_wrSl, s_ldN, s_ldNM, s_ldNf, List.drop_zero, List.take_succ_cons, List.take_zero, List.take_nil, List.take_length, Nat.mul_one, List.flatten_cons, List.flatten_nil, List.append_nil, List.nil_append, List.cons_append]
  clear hσ1
  refine Ok.step (ris_ok (m := M.met) (id := id) h.imm) fun r ⟨g1, g2⟩ => ?_
  obtain ⟨q, σ2⟩ := r
  simp only at g1 g2
  subst g1
  have B2 := B.ext g2
  obtain ⟨cs, hc, c2⟩ := B2.c
  obtain ⟨x0, x1, x2, x3, x4, x5, x6, rfl⟩ := seven hc
  have b2 := B2.b
  have n2 := B2.n
  have E := B2.e
  rw [h.sp]
  unfold MemS.growR
  cases hw : wordsOf M.sp id with
  | none =>
    simp (config := { maxSteps := 2000000 }) -implicitDefEqProofs (disch := (first | omega | rfl | assumption | (simp only [put_next, bump_next, kill_next, List.length_cons, List.length_nil, List.mem_cons, List.not_mem_nil, or_false, not_false_eq_true]; first | omega | assumption))) only [Option.isSome_none, b2, c2, Met.cells, Nat.reduceAdd, Nat.reduceMul, Nat.reduceLT, Int.reduceToNat, Int.reduceAdd, Int.reduceSub, Int.reduceMul, s_beq, List.length_cons, List.length_nil, List.getD_cons_zero, List.getD_cons_succ, List.getElem?_cons_zero, List.getElem?_cons_succ, Option.bind_some, Option.bind_assoc, s_bindN, asI_i, asB_b, asS_s, asP_p, asPS_p, asSl_sl, s_agg, s_tup, s_fn, joinB, joinI, joinR, beq_true, beq_false, Bool.not_true, Bool.not_false, Bool.not_not, cond_true, cond_false, neI, s_mapS, bindS_inl, bindS_inr, Bool.and_true, Bool.true_and, Bool.and_false, Bool.false_and, s_isNoneS, s_isNoneN, s_ref, s_adv, s_ldf, s_ld, s_ldM, s_st, s_stM, s_bs, s_bn, s_pp, bump_blk, bump_next, put_next, splice_z, splice_zz, splice_s, s_decT, s_decF, s_eqT, s_eqF, s_i64, s_u64, s_u8, Int.toNat_natCast, Nat.zero_add, s_room, s_chkT, s_rdSl, s_wrSl, s_ldN, s_ldNM, s_ldNf, List.drop_zero, List.take_succ_cons, List.take_zero, List.take_nil, List.take_length, Nat.mul_one, List.flatten_cons, List.flatten_nil, List.append_nil, List.nil_append, List.cons_append]
    exact Ok_some.2 (fin0 (m := M.met) h.imm rfl (ext_of (by simp only [put_next, bump_next, kill_next]; omega) (fun b hb => by simp -implicitDefEqProofs (disch := (first | omega | rfl | assumption | (simp only [put_next, bump_next, kill_next, List.length_cons, List.length_nil, List.mem_cons, List.not_mem_nil, or_false, not_false_eq_true]; first | omega | assumption))) only [s_bn, s_kn, bump_blk, s_ext])) ⟨a, L, rfl, h.imm, h.sp⟩)
  | some w =>
    have hwL := hw
    rw [← h.sp] at hwL
    obtain ⟨h0, s0, hs0, ho0, rfl⟩ := getR hwL
    obtain ⟨bb, oo, rfl, u0, u1, _⟩ := h.imm.at hs0
    have hlt := (List.getElem?_eq_some_iff.1 hs0).1
    have hlen := h.size s0 (List.mem_of_getElem? hs0)
    simp only
    by_cases c1 : n < s0.ws.length
    · rw [if_pos c1]
      simp (config := { maxSteps := 2000000 }) -implicitDefEqProofs (disch := (first | omega | rfl | assumption | (simp only [put_next, bump_next, kill_next, List.length_cons, List.length_nil, List.mem_cons, List.not_mem_nil, or_false, not_false_eq_true]; first | omega | assumption))) only [Option.isSome_some, b2, c2, u1, Met.cells, Nat.reduceAdd, Nat.reduceMul, Nat.reduceLT, Int.reduceToNat, Int.reduceAdd, Int.reduceSub, Int.reduceMul, s_beq, List.length_cons, List.length_nil, List.getD_cons_zero, List.getD_cons_succ, List.getElem?_cons_zero, List.getElem?_cons_succ, Option.bind_some, Option.bind_assoc, s_bindN, asI_i, asB_b, asS_s, asP_p, asPS_p, asSl_sl, s_agg, s_tup, s_fn, joinB, joinI, joinR, beq_true, beq_false, Bool.not_true, Bool.not_false, Bool.not_not, cond_true, cond_false, neI, s_mapS, bindS_inl, bindS_inr, Bool.and_true, Bool.true_and, Bool.and_false, Bool.false_and, s_isNoneS, s_isNoneN, s_ref, s_adv, s_ldf, s_ld, s_ldM, s_st, s_stM, s_bs, s_bn, s_pp, bump_blk, bump_next, put_next, splice_z, splice_zz, splice_s, s_decT, s_decF, s_eqT, s_eqF, s_i64, s_u64, s_u8, Int.toNat_natCast, Nat.zero_add, s_room, s_chkT, s_rdSl, s_wrSl, s_ldN, s_ldNM, s_ldNf, List.drop_zero, List.take_succ_cons, List.take_zero, List.take_nil, List.take_length, Nat.mul_one, List.flatten_cons, List.flatten_nil, List.append_nil, List.nil_append, List.cons_append]
      exact Ok_some.2 (fin0 (m := M.met) h.imm rfl (ext_of (by simp only [put_next, bump_next, kill_next]; omega) (fun b hb => by simp -implicitDefEqProofs (disch := (first | omega | rfl | assumption | (simp only [put_next, bump_next, kill_next, List.length_cons, List.length_nil, List.mem_cons, List.not_mem_nil, or_false, not_false_eq_true]; first | omega | assumption))) only [s_bn, s_kn, bump_blk, s_ext])) ⟨_, L, rfl, h.imm, h.sp⟩)
    rw [if_neg c1]
    by_cases c3 : n > 4194304
    · rw [if_pos c3]
      simp (config := { maxSteps := 2000000 }) -implicitDefEqProofs (disch := (first | omega | rfl | assumption | (simp only [put_next, bump_next, kill_next, List.length_cons, List.length_nil, List.mem_cons, List.not_mem_nil, or_false, not_false_eq_true]; first | omega | assumption))) only [Option.isSome_some, b2, c2, u1, Met.cells, Nat.reduceAdd, Nat.reduceMul, Nat.reduceLT, Int.reduceToNat, Int.reduceAdd, Int.reduceSub, Int.reduceMul, s_beq, List.length_cons, List.length_nil, List.getD_cons_zero, List.getD_cons_succ, List.getElem?_cons_zero, List.getElem?_cons_succ, Option.bind_some, Option.bind_assoc, s_bindN, asI_i, asB_b, asS_s, asP_p, asPS_p, asSl_sl, s_agg, s_tup, s_fn, joinB, joinI, joinR, beq_true, beq_false, Bool.not_true, Bool.not_false, Bool.not_not, cond_true, cond_false, neI, s_mapS, bindS_inl, bindS_inr, Bool.and_true, Bool.true_and, Bool.and_false, Bool.false_and, s_isNoneS, s_isNoneN, s_ref, s_adv, s_ldf, s_ld, s_ldM, s_st, s_stM, s_bs, s_bn, s_pp, bump_blk, bump_next, put_next, splice_z, splice_zz, splice_s, s_decT, s_decF, s_eqT, s_eqF, s_i64, s_u64, s_u8, Int.toNat_natCast, Nat.zero_add, s_room, s_chkT, s_rdSl, s_wrSl, s_ldN, s_ldNM, s_ldNf, List.drop_zero, List.take_succ_cons, List.take_zero, List.take_nil, List.take_length, Nat.mul_one, List.flatten_cons, List.flatten_nil, List.append_nil, List.nil_append, List.cons_append]
      exact Ok_some.2 (fin0 (m := M.met) h.imm rfl (ext_of (by simp only [put_next, bump_next, kill_next]; omega) (fun b hb => by simp -implicitDefEqProofs (disch := (first | omega | rfl | assumption | (simp only [put_next, bump_next, kill_next, List.length_cons, List.length_nil, List.mem_cons, List.not_mem_nil, or_false, not_false_eq_true]; first | omega | assumption))) only [s_bn, s_kn, bump_blk, s_ext])) ⟨_, L, rfl, h.imm, h.sp⟩)
    rw [if_neg c3]
    simp (config := { maxSteps := 2000000 }) -implicitDefEqProofs (disch := (first | omega | rfl | assumption | (simp only [put_next, bump_next, kill_next, List.length_cons, List.length_nil, List.mem_cons, List.not_mem_nil, or_false, not_false_eq_true]; first | omega | assumption))) only [Option.isSome_some, b2, c2, u1, Met.cells, Nat.reduceAdd, Nat.reduceMul, Nat.reduceLT, Int.reduceToNat, Int.reduceAdd, Int.reduceSub, Int.reduceMul, s_beq, List.length_cons, List.length_nil, List.getD_cons_zero, List.getD_cons_succ, List.getElem?_cons_zero, List.getElem?_cons_succ, Option.bind_some, Option.bind_assoc, s_bindN, asI_i, asB_b, asS_s, asP_p, asPS_p, asSl_sl, s_agg, s_tup, s_fn, joinB, joinI, joinR, beq_true, beq_false, Bool.not_true, Bool.not_false, Bool.not_not, cond_true, cond_false, neI, s_mapS, bindS_inl, bindS_inr, Bool.and_true, Bool.true_and, Bool.and_false, Bool.false_and, s_isNoneS, s_isNoneN, s_ref, s_adv, s_ldf, s_ld, s_ldM, s_st, s_stM, s_bs, s_bn, s_pp, bump_blk, bump_next, put_next, splice_z, splice_zz, splice_s, s_decT, s_decF, s_eqT, s_eqF, s_i64, s_u64, s_u8, Int.toNat_natCast, Nat.zero_add, s_room, s_chkT, s_rdSl, s_wrSl, s_ldN, s_ldNM, s_ldNf, List.drop_zero, List.take_succ_cons, List.take_zero, List.take_nil, List.take_length, Nat.mul_one, List.flatten_cons, List.flatten_nil, List.append_nil, List.nil_append, List.cons_append]
    refine Ok.step (copied_ok (m := M.met) h.imm h.few h.size) fun r ⟨a', L', k1, k2, k3, k4, k5⟩ => ?_
    obtain ⟨q, σ3⟩ := r
    simp only at k1 k2 k5
    subst k1
    have B3 := B2.ext k5
    obtain ⟨cs, hc, cc3⟩ := B3.c
    obtain ⟨x0, x1, x2, x3, x4, x5, x6, rfl⟩ := seven hc
    have b3 := B3.b
    have n3 := B3.n
    rw [← k3] at hwL
    obtain ⟨_, s, hs, ho, hws⟩ := getR hwL
    have hw' : M.sp[id.toNat]? = some (true, s0.ws) := (wordsOf_some hw).2
    rw [← hws] at c1 hw' hlen
    rw [← hws]
    have hroom := grow_room h.ok hw' (n := n) (by omega) (by omega)
    have hheld2 := h.ok.met.held
    have hfew := h.few
    obtain ⟨k, rfl, q1, q2, q3, q4, q5⟩ := k2.at hs
    have kge := (k2.nb k (by simp [SA.bk])).1
    simp (config := { maxSteps := 2000000 }) -implicitDefEqProofs (disch := (first | omega | rfl | assumption | (simp only [put_next, bump_next, kill_next, List.length_cons, List.length_nil, List.mem_cons, List.not_mem_nil, or_false, not_false_eq_true]; first | omega | assumption))) only [rst, b3, cc3, q1, q4, Met.cells, Nat.reduceAdd, Nat.reduceMul, Nat.reduceLT, Int.reduceToNat, Int.reduceAdd, Int.reduceSub, Int.reduceMul, s_beq, List.length_cons, List.length_nil, List.getD_cons_zero, List.getD_cons_succ, List.getElem?_cons_zero, List.getElem?_cons_succ, Option.bind_some, Option.bind_assoc, s_bindN, asI_i, asB_b, asS_s, asP_p, asPS_p, asSl_sl, s_agg, s_tup, s_fn, joinB, joinI, joinR, beq_true, beq_false, Bool.not_true, Bool.not_false, Bool.not_not, cond_true, cond_false, neI, s_mapS, bindS_inl, bindS_inr, Bool.and_true, Bool.true_and, Bool.and_false, Bool.false_and, s_isNoneS, s_isNoneN, s_ref, s_adv, s_ldf, s_ld, s_ldM, s_st, s_stM, s_bs, s_bn, s_pp, bump_blk, bump_next, put_next, splice_z, splice_zz, splice_s, s_decT, s_decF, s_eqT, s_eqF, s_i64, s_u64, s_u8, Int.toNat_natCast, Nat.zero_add, s_room, s_chkT, s_rdSl, s_wrSl, s_ldN, s_ldNM, s_ldNf, List.drop_zero, List.take_succ_cons, List.take_zero, List.take_nil, List.take_length, Nat.mul_one, List.flatten_cons, List.flatten_nil, List.append_nil, List.nil_append, List.cons_append]
    generalize hσ4 : σ3.put σ.next (.cells true T_haymowref08_State _) = σ4
    have b4 : σ4.blk σ.next = some (.cells true T_haymowref08_State (.sl (.loc (.n k) 0 2) L.length :: M.met.cells)) := by rw [← hσ4, s_bs]; rfl
    have k4' : ∀ b, b ≠ σ.next → σ4.blk b = σ3.blk b := fun b hb => by rw [← hσ4, s_bn hb]
    have n4 : σ4.next = σ3.next := by rw [← hσ4]; rfl
    clear hσ4
    refine Ok.step (r7_hold (m := M.met) (n := n - s.ws.length) hheld2.1 hheld2.2 (by omega) hroom) fun r ⟨p1, p2⟩ => ?_
    obtain ⟨q, σ5⟩ := r
    simp only at p1 p2
    subst p1
    have n5 := p2.next
    have b5 := (p2.blk σ.next (by omega)).trans b4
    have c5 := (p2.blk (σ.next + 1) (by omega)).trans ((k4' _ (by omega)).trans cc3)
    have q5' := (p2.blk k (by omega)).trans ((k4' _ (by omega)).trans q1)
    have O5 : ROwn σ5 σ2.next (.loc (.n k) 0 2) L' := (k2.of (σ' := σ4) (by omega) fun b hb => k4' b (by have := (k2.lt b hb).1; omega)).ext p2
    have hl2 := fm_len RSp.len L'
    have rm : Nat.ble ((s.ws.length + (n - (s.ws.length : Int)).toNat) * 9) 35184372088832 = true := s_room (by omega)
    simp (config := { maxSteps := 2000000 }) -implicitDefEqProofs (disch := (first | omega | rfl | assumption | (simp only [put_next, bump_next, kill_next, List.length_cons, List.length_nil, List.mem_cons, List.not_mem_nil, or_false, not_false_eq_true]; first | omega | assumption))) only [Met.cells, b5, c5, q5', hl2, q4, rm, u64s_rep, Nat.reduceAdd, Nat.reduceMul, Nat.reduceLT, Int.reduceToNat, Int.reduceAdd, Int.reduceSub, Int.reduceMul, s_beq, List.length_cons, List.length_nil, List.getD_cons_zero, List.getD_cons_succ, List.getElem?_cons_zero, List.getElem?_cons_succ, Option.bind_some, Option.bind_assoc, s_bindN, asI_i, asB_b, asS_s, asP_p, asPS_p, asSl_sl, s_agg, s_tup, s_fn, joinB, joinI, joinR, beq_true, beq_false, Bool.not_true, Bool.not_false, Bool.not_not, cond_true, cond_false, neI, s_mapS, bindS_inl, bindS_inr, Bool.and_true, Bool.true_and, Bool.and_false, Bool.false_and, s_isNoneS, s_isNoneN, s_ref, s_adv, s_ldf, s_ld, s_ldM, s_st, s_stM, s_bs, s_bn, s_pp, bump_blk, bump_next, put_next, splice_z, splice_zz, splice_s, s_decT, s_decF, s_eqT, s_eqF, s_i64, s_u64, s_u8, Int.toNat_natCast, Nat.zero_add, s_room, s_chkT, s_rdSl, s_wrSl, s_ldN, s_ldNM, s_ldNf, List.drop_zero, List.take_succ_cons, List.take_zero, List.take_nil, List.take_length, Nat.mul_one, List.flatten_cons, List.flatten_nil, List.append_nil, List.nil_append, List.cons_append]
    generalize hσ6 : σ5.put σ.next (.cells true T_haymowref08_State _) = σ6
    have b6 : σ6.blk σ.next = some (.cells true T_haymowref08_State (.sl (.loc (.n k) 0 2) L.length :: (M.met.hold (n - s.ws.length)).cells)) := by rw [← hσ6, s_bs]; rfl
    have k6' : ∀ b, b ≠ σ.next → σ6.blk b = σ5.blk b := fun b hb => by rw [← hσ6, s_bn hb]
    have n6 : σ6.next = σ5.next := by rw [← hσ6]; rfl
    clear hσ6
    have O6 : ROwn σ6 σ2.next (.loc (.n k) 0 2) L' := O5.of (by omega) fun b hb => k6' b (by have := (O5.lt b hb).1; omega)
    obtain ⟨k9, e9, r1, r2, r3, r4, r5⟩ := O6.at hs
    cases e9
    have hsmem : ∀ b ∈ SA.bk s.a, b ∈ sbk (L'.map RSp.sl) := fun b hb => mem_sbk.2 ⟨s.sl, List.mem_map.2 ⟨s, List.mem_of_getElem? hs, rfl⟩, hb⟩
    refine Ok.step (app_ok (el := T_uint64) (es := 1) (r5.of (σ' := σ6.bump 1) (by simp) fun _ _ => rfl) (nid := σ5.next) (fun hb => by have := (O6.lt _ (.inr (hsmem _ hb))).2; omega) (by simp; omega) (m := (n - (s.ws.length : Int)).toNat) (new := u64s (List.replicate (n - (s.ws.length : Int)).toNat 0)) (by simp [u64s_len])) fun r ⟨a2, v1, v2, v3, v4, v5⟩ => ?_
    obtain ⟨q, σ7⟩ := r
    simp only at v1 v2 v3 v4 v5
    subst v1
    simp only [bump_next, bump_blk] at v3 v4
    have nsb : ∀ b, b < σ.next + 2 → b ∉ SA.bk s.a := fun b hb hb' => by have := (O6.lt _ (.inr (hsmem _ hb'))).1; omega
    have b7 := (v4 σ.next (by omega) (nsb _ (by omega))).trans b6
    have c7 := (v4 (σ.next + 1) (by omega) (nsb _ (by omega))).trans ((k6' _ (by omega)).trans c5)
    have hks : k ∉ SA.bk s.a := fun hb => (O6.nb k (by simp [SA.bk])).2 (hsmem k hb)
    have q7 := (v4 k (by have := (O6.lt k (.inl (by simp [SA.bk]))).2; omega) hks).trans r1
    have hsp : splice (L'.flatMap RSp.cells) (id.toNat * 2 + 1) [.sl a2 (s.ws.length + (n - (s.ws.length : Int)).toNat)] = (L'.set id.toNat ⟨a2, true, s.ws ++ List.replicate (n - (s.ws.length : Int)).toNat 0⟩).flatMap RSp.cells := by
      refine fm_splice RSp.len L' id.toNat 1 _ s _ hs (by simp) (by simp [splice, RSp.cells, ho])
    simp (config := { maxSteps := 2000000 }) -implicitDefEqProofs (disch := (first | omega | rfl | assumption | (simp only [put_next, bump_next, kill_next, List.length_cons, List.length_nil, List.mem_cons, List.not_mem_nil, or_false, not_false_eq_true]; first | omega | assumption))) only [b7, c7, q7, hl2, hsp, Met.hold, Met.cells, s_chk, Nat.reduceAdd, Nat.reduceMul, Nat.reduceLT, Int.reduceToNat, Int.reduceAdd, Int.reduceSub, Int.reduceMul, s_beq, List.length_cons, List.length_nil, List.getD_cons_zero, List.getD_cons_succ, List.getElem?_cons_zero, List.getElem?_cons_succ, Option.bind_some, Option.bind_assoc, s_bindN, asI_i, asB_b, asS_s, asP_p, asPS_p, asSl_sl, s_agg, s_tup, s_fn, joinB, joinI, joinR, beq_true, beq_false, Bool.not_true, Bool.not_false, Bool.not_not, cond_true, cond_false, neI, s_mapS, bindS_inl, bindS_inr, Bool.and_true, Bool.true_and, Bool.and_false, Bool.false_and, s_isNoneS, s_isNoneN, s_ref, s_adv, s_ldf, s_ld, s_ldM, s_st, s_stM, s_bs, s_bn, s_pp, bump_blk, bump_next, put_next, splice_z, splice_zz, splice_s, s_decT, s_decF, s_eqT, s_eqF, s_i64, s_u64, s_u8, Int.toNat_natCast, Nat.zero_add, s_room, s_chkT, s_rdSl, s_wrSl, s_ldN, s_ldNM, s_ldNf, List.drop_zero, List.take_succ_cons, List.take_zero, List.take_nil, List.take_length, Nat.mul_one, List.flatten_cons, List.flatten_nil, List.append_nil, List.nil_append, List.cons_append]
    have Ofin := O6.repl (σ' := σ7.put k (.cells true T_haymowref08_Space ((L'.set id.toNat ⟨a2, true, s.ws ++ List.replicate (n - (s.ws.length : Int)).toNat 0⟩).flatMap RSp.cells))) hs (s' := ⟨a2, true, s.ws ++ List.replicate (n - (s.ws.length : Int)).toNat 0⟩) rfl (by simp only [put_next]; omega)
      (fun b hb hb' => by
        have := (O6.lt b (.inr hb)).2
        have hbk : b ≠ k := fun e => (O6.nb k (by simp [SA.bk])).2 (e ▸ hb)
        rw [s_bn hbk, v4 b (by omega) hb']) s_bs ⟨_, (v2.of (σ' := σ7.put k (.cells true T_haymowref08_Space ((L'.set id.toNat ⟨a2, true, s.ws ++ List.replicate (n - (s.ws.length : Int)).toNat 0⟩).flatMap RSp.cells))) (Nat.le_refl _) fun b hb => s_bn (by have := v5 b hb; have := (O6.lt k (.inl (by simp [SA.bk]))).2; omega)) |> (fun z => by simpa [u64s] using z)⟩ (fun b hb => .inr (by have := v5 b hb; omega))
    have E3 := B3.e
    have E7 : Ext σ σ7 := ⟨by have := E3.next; omega, fun b hb => by
      rw [v4 b (by omega) (nsb b (by omega)), k6' b (by omega), p2.blk b (by omega), k4' b (by omega)]; exact E3.blk b hb⟩
    have hlen' : L.length = (L'.set id.toNat ⟨a2, true, s.ws ++ List.replicate (n - (s.ws.length : Int)).toNat 0⟩).length := by rw [List.length_set, k4]
    rw [hlen']
    refine Ok_some.2 (fin3 (m := M.met.hold (n - s.ws.length)) (L := L'.set id.toNat ⟨a2, true, s.ws ++ List.replicate (n - (s.ws.length : Int)).toNat 0⟩) (base := σ2.next) ?_ rfl (by omega) ?_ fun a'' L'' z1 z2 => ⟨a'', L'', rfl, z1, ?_⟩)
    · refine Ofin.of (by simp) fun b hb => ?_
      have := (Ofin.lt b hb).1
      by_cases hbk : b = k
      · subst hbk; simp -implicitDefEqProofs (disch := omega) only [s_bn, s_bs, s_kn, bump_blk]
      · simp -implicitDefEqProofs (disch := omega) only [s_bn, s_bs, s_kn, bump_blk]
    · refine ext_of (by simp only [put_next]; exact E7.next) fun b hb => ?_
      simp -implicitDefEqProofs (disch := omega) only [s_bn, s_bs, s_kn, bump_blk]
      exact E7.blk b hb
    · rw [z2, List.map_set, k3, h.sp]
      simp only [MemS.grow, RSp.v]
      rw [show (n - (s.ws.length : Int)).toNat = n.toNat - s.ws.length by omega]
end Go.Abs.Try
