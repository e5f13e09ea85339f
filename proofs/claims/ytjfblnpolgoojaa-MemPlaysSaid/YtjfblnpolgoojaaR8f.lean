/-
  The document's answer for layer 8, as it is run: Zero, Copy. No conditions.
-/
import Derived.Test.YtjfblnpolgoojaaR8e
set_option linter.unusedVariables false
set_option linter.unusedSimpArgs false
set_option linter.constructorNameAsVariable false
set_option linter.unusedSimpArgs false
set_option linter.unusedVariables false
set_option maxHeartbeats 4000000
set_option maxRecDepth 100000
namespace Go.Abs.Try
open Go Go.Abs
variable {O : Type}

theorem patched_get {w v : List Int} {a i : Nat} (h : a + v.length ≤ w.length) : (patched w a v)[i]? = if i < a then w[i]? else if i < a + v.length then v[i - a]? else w[i]? := by
  unfold patched
  rw [List.append_assoc]
  by_cases h1 : i < a
  · rw [if_pos h1, List.getElem?_append_left (by simp; omega), List.getElem?_take, if_pos h1]
  · rw [if_neg h1, List.getElem?_append_right (by simp; omega)]
    have e : i - (w.take a).length = i - a := by simp; omega
    rw [e]
    by_cases h2 : i < a + v.length
    · rw [if_pos h2, List.getElem?_append_left (by omega)]
    · rw [if_neg h2, List.getElem?_append_right (by omega), List.getElem?_drop]; congr 1; omega
theorem patched_snoc {w v : List Int} {a : Nat} {x : Int} (h : a + v.length < w.length) : (patched w a v).set (a + v.length) x = patched w a (v ++ [x]) := by
  apply List.ext_getElem?
  intro i
  rw [List.getElem?_set, patched_len (by omega), patched_get (by omega), patched_get (by simp; omega)]
  simp only [List.length_append, List.length_cons, List.length_nil]
  by_cases h1 : a + v.length = i
  · rw [if_pos h1, if_pos (by omega), if_neg (by omega), if_pos (by omega)]
    rw [List.getElem?_append_right (by omega), show i - a - v.length = 0 by omega]; rfl
  · rw [if_neg h1]
    by_cases h2 : i < a
    · rw [if_pos h2, if_pos h2]
    · rw [if_neg h2, if_neg h2]
      by_cases h3 : i < a + v.length
      · rw [if_pos h3, if_pos (by omega), List.getElem?_append_left (by omega)]
      · rw [if_neg h3, if_neg (by omega)]
theorem set_self {α : Type} {l : List α} {i : Nat} {x : α} (h : l[i]? = some x) : l.set i x = l := by
  apply List.ext_getElem?
  intro j
  rw [List.getElem?_set]
  split
  · rename_i hij; subst hij
    have := (List.getElem?_eq_some_iff.1 h).1
    rw [h]; simp [this]
  · rfl
theorem set_at {L : List RSp} {i : Nat} {s x : RSp} (h : L[i]? = some s) : (L.set i x)[i]? = some x := by
  have := (List.getElem?_eq_some_iff.1 h).1
  simp [this]

theorem rzero_T {σ : AH O} {a : SA} {L : List RSp} {M : MemS} (h : RM a L M) (hc : M.calm) {id at_ n : Int} (hn : -9223372036854775808 ≤ n ∧ n ≤ 9223372036854775807) : Ok (haymowref08_Zero [rst a L.length M.met, .i .i64 id, .i .i64 at_, .i .i64 n] σ) (RGives σ (M.zeroR id at_ n).1 [.i .i64 (M.zeroR id at_ n).2]) := by
  unfold haymowref08_Zero
  refine frz_ok (Q := RQ (M.zeroR id at_ n).1 [.i .i64 (M.zeroR id at_ n).2]) ?_
  have B := boxes_new (σ := σ) (a := a) (n := L.length) (m := M.met)
  simp only [Met.cells] at B
  generalize hσ1 : ((σ.bump 2).put σ.next (.cells true T_haymowref08_State _)).put (σ.next + 1) (.cells true T_haymowref08_State _) = σ1 at B
  simp (config := { maxSteps := 2000000 }) -implicitDefEqProofs (disch := (first | omega | rfl | assumption | (simp only [put_next, bump_next, kill_next, List.length_cons, List.length_nil, List.mem_cons, List.not_mem_nil, or_false, not_false_eq_true]; first | omega | assumption))) only [haymowref08_Zero_c, rst, Met.cells, hσ1, Nat.reduceAdd, Nat.reduceMul, Nat.reduceLT, Int.reduceToNat, Int.reduceAdd, Int.reduceSub, Int.reduceMul, s_beq, List.length_cons, List.length_nil, List.getD_cons_zero, List.getD_cons_succ, List.getElem?_cons_zero, List.getElem?_cons_succ, Option.bind_some, Option.bind_assoc, s_bindN, asI_i, asB_b, asS_s, asP_p, asPS_p, asSl_sl, s_agg, s_tup, s_fn, joinB, joinI, joinR, beq_true, beq_false, Bool.not_true, Bool.not_false, Bool.not_not, cond_true, cond_false, neI, s_mapS, bindS_inl, bindS_inr, Bool.and_true, Bool.true_and, Bool.and_false, Bool.false_and, s_isNoneS, s_isNoneN, s_ref, s_adv, s_ldf, s_ld, s_ldM, s_st, s_stM, s_bs, s_bn, s_pp, bump_blk, bump_next, put_next, splice_z, splice_zz, splice_s, s_decT, s_decF, s_eqT, s_eqF, s_i64, s_u64, s_u8, Int.toNat_natCast, Nat.zero_add, s_room, s_chkT, s_rdSl, s_wrSl, s_ldN, s_ldNM, s_ldNf, List.drop_zero, List.take_succ_cons, List.take_zero, List.take_nil, List.take_length, Nat.mul_one, List.flatten_cons, List.flatten_nil, List.append_nil, List.nil_append, List.cons_append]
  clear hσ1
  refine Ok.step (rwrong_ok (m := M.met) (id := id) (at_ := at_) (n := n) h.imm h.size hn) fun r ⟨g1, g2⟩ => ?_
  obtain ⟨q, σ2⟩ := r
  simp only at g1 g2
  subst g1
  have B2 := B.ext g2
  obtain ⟨cs, hc', c2⟩ := B2.c
  obtain ⟨x0, x1, x2, x3, x4, x5, x6, rfl⟩ := seven hc'
  have b2 := B2.b
  have n2 := B2.n
  have E := B2.e
  rw [h.sp]
  unfold MemS.zeroR
  by_cases hz : wrongR M.sp id at_ n = 0
  · rw [if_pos hz]
    obtain ⟨w, hw, h1, h2, h3⟩ := wrong_0 hz
    have hwL := hw
    rw [← h.sp] at hwL
    rw [hz]
    simp (config := { maxSteps := 2000000 }) -implicitDefEqProofs (disch := (first | omega | rfl | assumption | (simp only [put_next, bump_next, kill_next, List.length_cons, List.length_nil, List.mem_cons, List.not_mem_nil, or_false, not_false_eq_true]; first | omega | assumption))) only [b2, Met.cells, Nat.reduceAdd, Nat.reduceMul, Nat.reduceLT, Int.reduceToNat, Int.reduceAdd, Int.reduceSub, Int.reduceMul, s_beq, List.length_cons, List.length_nil, List.getD_cons_zero, List.getD_cons_succ, List.getElem?_cons_zero, List.getElem?_cons_succ, Option.bind_some, Option.bind_assoc, s_bindN, asI_i, asB_b, asS_s, asP_p, asPS_p, asSl_sl, s_agg, s_tup, s_fn, joinB, joinI, joinR, beq_true, beq_false, Bool.not_true, Bool.not_false, Bool.not_not, cond_true, cond_false, neI, s_mapS, bindS_inl, bindS_inr, Bool.and_true, Bool.true_and, Bool.and_false, Bool.false_and, s_isNoneS, s_isNoneN, s_ref, s_adv, s_ldf, s_ld, s_ldM, s_st, s_stM, s_bs, s_bn, s_pp, bump_blk, bump_next, put_next, splice_z, splice_zz, splice_s, s_decT, s_decF, s_eqT, s_eqF, s_i64, s_u64, s_u8, Int.toNat_natCast, Nat.zero_add, s_room, s_chkT, s_rdSl, s_wrSl, s_ldN, s_ldNM, s_ldNf, List.drop_zero, List.take_succ_cons, List.take_zero, List.take_nil, List.take_length, Nat.mul_one, List.flatten_cons, List.flatten_nil, List.append_nil, List.nil_append, List.cons_append]
    refine Ok.step (copied_ok (m := M.met) h.imm h.few h.size) fun r ⟨a', L', k1, k2, k3, k4, k5⟩ => ?_
    obtain ⟨q, σ3⟩ := r
    simp only at k1 k2 k5
    subst k1
    have B3 := B2.ext k5
    obtain ⟨cs, hc', cc3⟩ := B3.c
    obtain ⟨y0, y1, y2, y3, y4, y5, y6, rfl⟩ := seven hc'
    have b3 := B3.b
    have n3 := B3.n
    rw [← k3] at hwL
    obtain ⟨h0, s, hs, ho, rfl⟩ := getR hwL
    have hlt := (List.getElem?_eq_some_iff.1 hs).1
    have hfew := h.few
    have hlen := h.ok.len (wordsOf_some hw).2
    simp (config := { maxSteps := 2000000 }) -implicitDefEqProofs (disch := (first | omega | rfl | assumption | (simp only [put_next, bump_next, kill_next, List.length_cons, List.length_nil, List.mem_cons, List.not_mem_nil, or_false, not_false_eq_true]; first | omega | assumption))) only [rst, b3, cc3, Met.cells, Nat.reduceAdd, Nat.reduceMul, Nat.reduceLT, Int.reduceToNat, Int.reduceAdd, Int.reduceSub, Int.reduceMul, s_beq, List.length_cons, List.length_nil, List.getD_cons_zero, List.getD_cons_succ, List.getElem?_cons_zero, List.getElem?_cons_succ, Option.bind_some, Option.bind_assoc, s_bindN, asI_i, asB_b, asS_s, asP_p, asPS_p, asSl_sl, s_agg, s_tup, s_fn, joinB, joinI, joinR, beq_true, beq_false, Bool.not_true, Bool.not_false, Bool.not_not, cond_true, cond_false, neI, s_mapS, bindS_inl, bindS_inr, Bool.and_true, Bool.true_and, Bool.and_false, Bool.false_and, s_isNoneS, s_isNoneN, s_ref, s_adv, s_ldf, s_ld, s_ldM, s_st, s_stM, s_bs, s_bn, s_pp, bump_blk, bump_next, put_next, splice_z, splice_zz, splice_s, s_decT, s_decF, s_eqT, s_eqF, s_i64, s_u64, s_u8, Int.toNat_natCast, Nat.zero_add, s_room, s_chkT, s_rdSl, s_wrSl, s_ldN, s_ldNM, s_ldNf, List.drop_zero, List.take_succ_cons, List.take_zero, List.take_nil, List.take_length, Nat.mul_one, List.flatten_cons, List.flatten_nil, List.append_nil, List.nil_append, List.cons_append]
    generalize hσ4 : σ3.put σ.next (.cells true T_haymowref08_State _) = σ4
    have b4 : σ4.blk σ.next = some (.cells true T_haymowref08_State (.sl a' L.length :: M.met.cells)) := by rw [← hσ4, s_bs]; rfl
    have k4' : ∀ b, b ≠ σ.next → σ4.blk b = σ3.blk b := fun b hb => by rw [← hσ4, s_bn hb]
    have n4 : σ4.next = σ3.next := by rw [← hσ4]; rfl
    clear hσ4
    have hcw := hc.w
    have hmw := h.ok.met.w
    refine Ok.step (r7_step_w (m := M.met) (n := n) hmw (by omega)) fun r ⟨p1, p2⟩ => ?_
    obtain ⟨q, σ5⟩ := r
    simp only at p1 p2
    subst p1
    have n5 := p2.next
    have b5 := (p2.blk σ.next (by omega)).trans b4
    have c5 := (p2.blk (σ.next + 1) (by omega)).trans ((k4' _ (by omega)).trans cc3)
    have O5 : ROwn σ5 σ2.next a' L' := (k2.of (σ' := σ4) (by omega) fun b hb => k4' b (by have := (k2.lt b hb).1; omega)).ext p2
    simp (config := { maxSteps := 2000000 }) -implicitDefEqProofs (disch := (first | omega | rfl | assumption | (simp only [put_next, bump_next, kill_next, List.length_cons, List.length_nil, List.mem_cons, List.not_mem_nil, or_false, not_false_eq_true]; first | omega | assumption))) only [Met.cells, b5, Nat.reduceAdd, Nat.reduceMul, Nat.reduceLT, Int.reduceToNat, Int.reduceAdd, Int.reduceSub, Int.reduceMul, s_beq, List.length_cons, List.length_nil, List.getD_cons_zero, List.getD_cons_succ, List.getElem?_cons_zero, List.getElem?_cons_succ, Option.bind_some, Option.bind_assoc, s_bindN, asI_i, asB_b, asS_s, asP_p, asPS_p, asSl_sl, s_agg, s_tup, s_fn, joinB, joinI, joinR, beq_true, beq_false, Bool.not_true, Bool.not_false, Bool.not_not, cond_true, cond_false, neI, s_mapS, bindS_inl, bindS_inr, Bool.and_true, Bool.true_and, Bool.and_false, Bool.false_and, s_isNoneS, s_isNoneN, s_ref, s_adv, s_ldf, s_ld, s_ldM, s_st, s_stM, s_bs, s_bn, s_pp, bump_blk, bump_next, put_next, splice_z, splice_zz, splice_s, s_decT, s_decF, s_eqT, s_eqF, s_i64, s_u64, s_u8, Int.toNat_natCast, Nat.zero_add, s_room, s_chkT, s_rdSl, s_wrSl, s_ldN, s_ldNM, s_ldNf, List.drop_zero, List.take_succ_cons, List.take_zero, List.take_nil, List.take_length, Nat.mul_one, List.flatten_cons, List.flatten_nil, List.append_nil, List.nil_append, List.cons_append]
    generalize hσ6 : σ5.put σ.next (.cells true T_haymowref08_State _) = σ6
    have b6 : σ6.blk σ.next = some (.cells true T_haymowref08_State (.sl a' L.length :: ({ M.met with w := M.met.w + n } : Met).cells)) := by rw [← hσ6, s_bs]; rfl
    have k6' : ∀ b, b ≠ σ.next → σ6.blk b = σ5.blk b := fun b hb => by rw [← hσ6, s_bn hb]
    have n6 : σ6.next = σ5.next := by rw [← hσ6]; rfl
    clear hσ6
    have O6 : ROwn σ6 σ2.next a' L' := O5.of (by omega) fun b hb => k6' b (by have := (O5.lt b hb).1; omega)
    have c6 := (k6' (σ.next + 1) (by omega)).trans c5
    have E3 := B3.e
    have E6 : Ext σ σ6 := ⟨by have := E3.next; omega, fun b hb => (k6' b (by omega)).trans ((p2.blk b (by omega)).trans ((k4' b (by omega)).trans (E3.blk b hb)))⟩
    refine Ok.step (Q := fun r => ∃ σ7 : AH O, r = ([], σ7) ∧ σ7.next = σ6.next ∧ (∀ b, b < σ.next + 2 → σ7.blk b = σ6.blk b) ∧ ROwn σ7 σ2.next a' (L'.set id.toNat { s with ws := patched s.ws at_.toNat (List.replicate n.toNat 0) })) ?_ ?_
    · refine Ok.count n.toNat (fun j st => ∃ σ7 : AH O, st = ([.i .i64 (j : Int)], σ7) ∧ σ7.next = σ6.next ∧ (∀ b, b < σ.next + 2 → σ7.blk b = σ6.blk b) ∧ ROwn σ7 σ2.next a' (L'.set id.toNat { s with ws := patched s.ws at_.toNat (List.replicate j 0) })) ?_ ?_
        ⟨σ6, rfl, rfl, fun _ _ => rfl, by rw [List.replicate_zero, patched_nil]; rw [show ({ s with ws := s.ws } : RSp) = s from rfl, set_self hs]; exact O6⟩
      · rintro j st hj ⟨σ7, rfl, m1, m2, m3⟩
        have b7 := (m2 σ.next (by omega)).trans b6
        have hs7 := set_at (x := { s with ws := patched s.ws at_.toNat (List.replicate j 0) }) hs
        obtain ⟨k, rfl, q1, q2, q3, q4, q5⟩ := m3.at hs7
        have hpl : (patched s.ws at_.toNat (List.replicate j 0)).length = s.ws.length := patched_len (by simp; omega)
        simp only [hpl] at q4 q5
        obtain ⟨kw, ew, q6, q7⟩ := q5.loc (by omega)
        have et : (at_ + (j : Int)).toNat = at_.toNat + j := by omega
        have hspw : splice (u64s (patched s.ws at_.toNat (List.replicate j 0))) (at_.toNat + j) [.i .u64 0] = u64s (patched s.ws at_.toNat (List.replicate (j + 1) 0)) := by
          rw [splice_set (by rw [u64s_len, hpl]; omega)]
          have := patched_snoc (w := s.ws) (v := List.replicate j 0) (a := at_.toNat) (x := 0) (by simp; omega)
          rw [List.length_replicate] at this
          rw [List.replicate_succ', ← this]; simp [u64s, List.map_set]
        have hll : ((L'.set id.toNat { s with ws := patched s.ws at_.toNat (List.replicate j 0) }).length : Int) = L.length := by rw [List.length_set, k4]
        have hrf : SA.ref s.a = some (.n kw, 0) := by rw [ew]; rfl
        simp (config := { maxSteps := 2000000 }) -implicitDefEqProofs (disch := (first | omega | rfl | assumption | (simp only [put_next, bump_next, kill_next, List.length_cons, List.length_nil, List.mem_cons, List.not_mem_nil, or_false, not_false_eq_true]; first | omega | assumption))) only [haymowref08_Zero_L1, b7, q1, q4, hrf, q6, et, u64s_len, hpl, hspw, Nat.reduceAdd, Nat.reduceMul, Nat.reduceLT, Int.reduceToNat, Int.reduceAdd, Int.reduceSub, Int.reduceMul, s_beq, List.length_cons, List.length_nil, List.getD_cons_zero, List.getD_cons_succ, List.getElem?_cons_zero, List.getElem?_cons_succ, Option.bind_some, Option.bind_assoc, s_bindN, asI_i, asB_b, asS_s, asP_p, asPS_p, asSl_sl, s_agg, s_tup, s_fn, joinB, joinI, joinR, beq_true, beq_false, Bool.not_true, Bool.not_false, Bool.not_not, cond_true, cond_false, neI, s_mapS, bindS_inl, bindS_inr, Bool.and_true, Bool.true_and, Bool.and_false, Bool.false_and, s_isNoneS, s_isNoneN, s_ref, s_adv, s_ldf, s_ld, s_ldM, s_st, s_stM, s_bs, s_bn, s_pp, bump_blk, bump_next, put_next, splice_z, splice_zz, splice_s, s_decT, s_decF, s_eqT, s_eqF, s_i64, s_u64, s_u8, Int.toNat_natCast, Nat.zero_add, s_room, s_chkT, s_rdSl, s_wrSl, s_ldN, s_ldNM, s_ldNf, List.drop_zero, List.take_succ_cons, List.take_zero, List.take_nil, List.take_length, Nat.mul_one, List.flatten_cons, List.flatten_nil, List.append_nil, List.nil_append, List.cons_append]
        obtain ⟨f1, f2, f3⟩ := m3.wput hs7 ew (w' := patched s.ws at_.toNat (List.replicate (j + 1) 0)) (by rw [patched_len (by simp; omega), hpl])
        refine Ok_some.2 ⟨_, rfl, m1, fun b hb => ?_, ?_⟩
        · rw [s_bn (by omega)]; exact m2 b hb
        · rw [List.set_set] at f1; exact f1
      · rintro st ⟨σ7, rfl, m1, m2, m3⟩
        simp (config := { maxSteps := 2000000 }) -implicitDefEqProofs (disch := (first | omega | rfl | assumption | (simp only [put_next, bump_next, kill_next, List.length_cons, List.length_nil, List.mem_cons, List.not_mem_nil, or_false, not_false_eq_true]; first | omega | assumption))) only [haymowref08_Zero_L1, Nat.reduceAdd, Nat.reduceMul, Nat.reduceLT, Int.reduceToNat, Int.reduceAdd, Int.reduceSub, Int.reduceMul, s_beq, List.length_cons, List.length_nil, List.getD_cons_zero, List.getD_cons_succ, List.getElem?_cons_zero, List.getElem?_cons_succ, Option.bind_some, Option.bind_assoc, s_bindN, asI_i, asB_b, asS_s, asP_p, asPS_p, asSl_sl, s_agg, s_tup, s_fn, joinB, joinI, joinR, beq_true, beq_false, Bool.not_true, Bool.not_false, Bool.not_not, cond_true, cond_false, neI, s_mapS, bindS_inl, bindS_inr, Bool.and_true, Bool.true_and, Bool.and_false, Bool.false_and, s_isNoneS, s_isNoneN, s_ref, s_adv, s_ldf, s_ld, s_ldM, s_st, s_stM, s_bs, s_bn, s_pp, bump_blk, bump_next, put_next, splice_z, splice_zz, splice_s, s_decT, s_decF, s_eqT, s_eqF, s_i64, s_u64, s_u8, Int.toNat_natCast, Nat.zero_add, s_room, s_chkT, s_rdSl, s_wrSl, s_ldN, s_ldNM, s_ldNf, List.drop_zero, List.take_succ_cons, List.take_zero, List.take_nil, List.take_length, Nat.mul_one, List.flatten_cons, List.flatten_nil, List.append_nil, List.nil_append, List.cons_append]
        exact Ok_some.2 ⟨σ7, rfl, m1, m2, m3⟩
    rintro r ⟨σ7, rfl, m1, m2, m3⟩
    have b7 := (m2 σ.next (by omega)).trans b6
    have c7 := (m2 (σ.next + 1) (by omega)).trans c6
    simp (config := { maxSteps := 2000000 }) -implicitDefEqProofs (disch := (first | omega | rfl | assumption | (simp only [put_next, bump_next, kill_next, List.length_cons, List.length_nil, List.mem_cons, List.not_mem_nil, or_false, not_false_eq_true]; first | omega | assumption))) only [b7, c7, Met.cells, Nat.reduceAdd, Nat.reduceMul, Nat.reduceLT, Int.reduceToNat, Int.reduceAdd, Int.reduceSub, Int.reduceMul, s_beq, List.length_cons, List.length_nil, List.getD_cons_zero, List.getD_cons_succ, List.getElem?_cons_zero, List.getElem?_cons_succ, Option.bind_some, Option.bind_assoc, s_bindN, asI_i, asB_b, asS_s, asP_p, asPS_p, asSl_sl, s_agg, s_tup, s_fn, joinB, joinI, joinR, beq_true, beq_false, Bool.not_true, Bool.not_false, Bool.not_not, cond_true, cond_false, neI, s_mapS, bindS_inl, bindS_inr, Bool.and_true, Bool.true_and, Bool.and_false, Bool.false_and, s_isNoneS, s_isNoneN, s_ref, s_adv, s_ldf, s_ld, s_ldM, s_st, s_stM, s_bs, s_bn, s_pp, bump_blk, bump_next, put_next, splice_z, splice_zz, splice_s, s_decT, s_decF, s_eqT, s_eqF, s_i64, s_u64, s_u8, Int.toNat_natCast, Nat.zero_add, s_room, s_chkT, s_rdSl, s_wrSl, s_ldN, s_ldNM, s_ldNf, List.drop_zero, List.take_succ_cons, List.take_zero, List.take_nil, List.take_length, Nat.mul_one, List.flatten_cons, List.flatten_nil, List.append_nil, List.nil_append, List.cons_append]
    have hlen' : L.length = (L'.set id.toNat { s with ws := patched s.ws at_.toNat (List.replicate n.toNat 0) }).length := by rw [List.length_set, k4]
    rw [hlen']
    refine Ok_some.2 (fin3 (m := { M.met with w := M.met.w + n }) (L := L'.set id.toNat { s with ws := patched s.ws at_.toNat (List.replicate n.toNat 0) }) (base := σ2.next) ?_ rfl (by omega) ?_ fun a'' L'' z1 z2 => ⟨a'', L'', rfl, z1, ?_⟩)
    · refine m3.of (by simp) fun b hb => ?_
      have := (m3.lt b hb).1
      simp -implicitDefEqProofs (disch := omega) only [s_bn, s_bs, s_kn, bump_blk]
    · refine ext_of (by simp only [put_next]; rw [m1]; exact E6.next) fun b hb => ?_
      simp -implicitDefEqProofs (disch := omega) only [s_bn, s_bs, s_kn, bump_blk]
      rw [m2 b (by omega)]; exact E6.blk b hb
    · rw [z2, List.map_set, k3, h.sp]
      simp only [MemS.put, MemS.wr, RSp.v, hw, Option.getD_some, ho]
  · rw [if_neg hz]
    simp (config := { maxSteps := 2000000 }) -implicitDefEqProofs (disch := (first | omega | rfl | assumption | (simp only [put_next, bump_next, kill_next, List.length_cons, List.length_nil, List.mem_cons, List.not_mem_nil, or_false, not_false_eq_true]; first | omega | assumption))) only [b2, c2, Met.cells, Nat.reduceAdd, Nat.reduceMul, Nat.reduceLT, Int.reduceToNat, Int.reduceAdd, Int.reduceSub, Int.reduceMul, s_beq, List.length_cons, List.length_nil, List.getD_cons_zero, List.getD_cons_succ, List.getElem?_cons_zero, List.getElem?_cons_succ, Option.bind_some, Option.bind_assoc, s_bindN, asI_i, asB_b, asS_s, asP_p, asPS_p, asSl_sl, s_agg, s_tup, s_fn, joinB, joinI, joinR, beq_true, beq_false, Bool.not_true, Bool.not_false, Bool.not_not, cond_true, cond_false, neI, s_mapS, bindS_inl, bindS_inr, Bool.and_true, Bool.true_and, Bool.and_false, Bool.false_and, s_isNoneS, s_isNoneN, s_ref, s_adv, s_ldf, s_ld, s_ldM, s_st, s_stM, s_bs, s_bn, s_pp, bump_blk, bump_next, put_next, splice_z, splice_zz, splice_s, s_decT, s_decF, s_eqT, s_eqF, s_i64, s_u64, s_u8, Int.toNat_natCast, Nat.zero_add, s_room, s_chkT, s_rdSl, s_wrSl, s_ldN, s_ldNM, s_ldNf, List.drop_zero, List.take_succ_cons, List.take_zero, List.take_nil, List.take_length, Nat.mul_one, List.flatten_cons, List.flatten_nil, List.append_nil, List.nil_append, List.cons_append]
    exact Ok_some.2 (fin0 (m := M.met) h.imm rfl (ext_of (by simp only [put_next, bump_next, kill_next]; omega) (fun b hb => by simp -implicitDefEqProofs (disch := (first | omega | rfl | assumption | (simp only [put_next, bump_next, kill_next, List.length_cons, List.length_nil, List.mem_cons, List.not_mem_nil, or_false, not_false_eq_true]; first | omega | assumption))) only [s_bn, s_kn, bump_blk, s_ext])) ⟨a, L, rfl, h.imm, h.sp⟩)
end Go.Abs.Try
