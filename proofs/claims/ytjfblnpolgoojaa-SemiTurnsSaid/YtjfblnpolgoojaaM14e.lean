/-
  Layer 14: the end; the example of its page. No conditions.
-/
import Derived.Test.YtjfblnpolgoojaaM14d
set_option linter.unusedVariables false
set_option linter.unusedSimpArgs false
set_option linter.constructorNameAsVariable false
set_option linter.unusedSimpArgs false
set_option linter.unusedVariables false
set_option linter.unusedSectionVars false
set_option maxHeartbeats 2000000
namespace Go.Abs.Try
open Go Go.Abs
variable {O : Type}

section
variable {σ : AH O} {sb mb : Nat} {F : List Nat} {S : SemS} {w v : List Int} (h : SemAt σ sb mb F S w) (hc : S.M.calm)
include h hc
theorem send_none (ht : S.turn = false) : semi_Semi__End [.p (some (.n sb, 0))] σ = some (.i .i64 4, σ) := by
  have hb := h.b
  simp only [SemS.cells, ht] at hb
  simp (config := { maxSteps := 2000000 }) -implicitDefEqProofs (disch := (first | omega | rfl | assumption | (simp only [put_next, bump_next, kill_next, List.length_cons, List.length_nil, List.mem_cons, List.not_mem_nil, or_false, not_false_eq_true]; first | omega | assumption))) only [semi_Semi__End, semi_Semi__End_c, hb, Nat.reduceAdd, Nat.reduceMul, Nat.reduceLT, Int.reduceToNat, Int.reduceAdd, Int.reduceSub, Int.reduceMul, s_beq, List.length_cons, List.length_nil, List.getD_cons_zero, List.getD_cons_succ, List.getElem?_cons_zero, List.getElem?_cons_succ, Option.bind_some, Option.bind_assoc, s_bindN, asI_i, asB_b, asS_s, asP_p, asPS_p, asSl_sl, s_agg, s_tup, s_fn, joinB, joinI, joinR, beq_true, beq_false, Bool.not_true, Bool.not_false, Bool.not_not, cond_true, cond_false, neI, s_mapS, bindS_inl, bindS_inr, Bool.and_true, Bool.true_and, Bool.and_false, Bool.false_and, s_isNoneS, s_isNoneN, s_ref, s_adv, s_ldf, s_ld, s_ldM, s_st, s_stM, s_bs, s_bn, s_pp, bump_blk, bump_next, put_next, splice_z, splice_zz, splice_s, s_decT, s_decF, s_eqT, s_eqF, s_i64, s_u64, s_u8, Int.toNat_natCast, Nat.zero_add, s_room, s_chkT, s_rdSl, s_wrSl, s_ldN, s_ldNM, s_ldNf, List.drop_zero, List.take_succ_cons, List.take_zero, List.take_nil, List.take_length, Nat.mul_one, List.flatten_cons, List.flatten_nil, List.append_nil, List.nil_append, List.cons_append]
def SemS.fin (S : SemS) (v : List Int) : SemS := ⟨S.M.close S.oid.toNat v, S.id, S.top, 0, 0, false⟩
theorem send_ok (ho : OldW S v) (hid : S.oid ≤ 9223372036854775807) :
    Ok (semi_Semi__End [.p (some (.n sb, 0))] σ) fun r => r.1 = .i .i64 0 ∧ ∃ F', SemAt r.2 sb mb F' (S.fin v) w ∧ Fp F F' σ ∧ Chg (sb :: F) σ r.2 := by
  have hb := h.b
  simp only [SemS.cells, ho.t] at hb
  have hlt := h.lt
  simp (config := { maxSteps := 2000000 }) -implicitDefEqProofs (disch := (first | omega | rfl | assumption | (simp only [put_next, bump_next, kill_next, List.length_cons, List.length_nil, List.mem_cons, List.not_mem_nil, or_false, not_false_eq_true]; first | omega | assumption))) only [semi_Semi__End, semi_Semi__End_c, hb, Nat.reduceAdd, Nat.reduceMul, Nat.reduceLT, Int.reduceToNat, Int.reduceAdd, Int.reduceSub, Int.reduceMul, s_beq, List.length_cons, List.length_nil, List.getD_cons_zero, List.getD_cons_succ, List.getElem?_cons_zero, List.getElem?_cons_succ, Option.bind_some, Option.bind_assoc, s_bindN, asI_i, asB_b, asS_s, asP_p, asPS_p, asSl_sl, s_agg, s_tup, s_fn, joinB, joinI, joinR, beq_true, beq_false, Bool.not_true, Bool.not_false, Bool.not_not, cond_true, cond_false, neI, s_mapS, bindS_inl, bindS_inr, Bool.and_true, Bool.true_and, Bool.and_false, Bool.false_and, s_isNoneS, s_isNoneN, s_ref, s_adv, s_ldf, s_ld, s_ldM, s_st, s_stM, s_bs, s_bn, s_pp, bump_blk, bump_next, put_next, splice_z, splice_zz, splice_s, s_decT, s_decF, s_eqT, s_eqF, s_i64, s_u64, s_u8, Int.toNat_natCast, Nat.zero_add, s_room, s_chkT, s_rdSl, s_wrSl, s_ldN, s_ldNM, s_ldNf, List.drop_zero, List.take_succ_cons, List.take_zero, List.take_nil, List.take_length, Nat.mul_one, List.flatten_cons, List.flatten_nil, List.append_nil, List.nil_append, List.cons_append]
  refine Ok.step (closeT (id := S.oid) h.m h.ok hc hid) fun r ⟨p1, ⟨F', p2, p3⟩, p4, p5⟩ => ?_
  obtain ⟨q, σ1⟩ := r
  have hR : S.M.closeR S.oid = (S.M.close S.oid.toNat v, 0) := by
    unfold MemS.closeR
    rw [ho.w]
  simp only at p1 p2 p4
  rw [hR] at p1 p2 p5
  subst p1
  have hb1 : σ1.blk sb = _ := (p4.blk sb h.lt h.nf).trans hb
  simp (config := { maxSteps := 2000000 }) -implicitDefEqProofs (disch := (first | omega | rfl | assumption | (simp only [put_next, bump_next, kill_next, List.length_cons, List.length_nil, List.mem_cons, List.not_mem_nil, or_false, not_false_eq_true]; first | omega | assumption))) only [hb1, Nat.reduceAdd, Nat.reduceMul, Nat.reduceLT, Int.reduceToNat, Int.reduceAdd, Int.reduceSub, Int.reduceMul, s_beq, List.length_cons, List.length_nil, List.getD_cons_zero, List.getD_cons_succ, List.getElem?_cons_zero, List.getElem?_cons_succ, Option.bind_some, Option.bind_assoc, s_bindN, asI_i, asB_b, asS_s, asP_p, asPS_p, asSl_sl, s_agg, s_tup, s_fn, joinB, joinI, joinR, beq_true, beq_false, Bool.not_true, Bool.not_false, Bool.not_not, cond_true, cond_false, neI, s_mapS, bindS_inl, bindS_inr, Bool.and_true, Bool.true_and, Bool.and_false, Bool.false_and, s_isNoneS, s_isNoneN, s_ref, s_adv, s_ldf, s_ld, s_ldM, s_st, s_stM, s_bs, s_bn, s_pp, bump_blk, bump_next, put_next, splice_z, splice_zz, splice_s, s_decT, s_decF, s_eqT, s_eqF, s_i64, s_u64, s_u8, Int.toNat_natCast, Nat.zero_add, s_room, s_chkT, s_rdSl, s_wrSl, s_ldN, s_ldNM, s_ldNf, List.drop_zero, List.take_succ_cons, List.take_zero, List.take_nil, List.take_length, Nat.mul_one, List.flatten_cons, List.flatten_nil, List.append_nil, List.nil_append, List.cons_append]
  have nf' : sb ∉ F' := fun hm => by
    rcases p3 sb hm with g | g
    · exact h.nf g
    · omega
  have hc1 : Chg [sb] σ1 (σ1.put sb (.cells true T_semi_Semi (SemS.cells (S.fin v) mb))) := ⟨by simp, fun b hb hm => s_bn (by simpa using hm)⟩
  have := p4.next
  refine Ok_some.2 ⟨rfl, F', ⟨p2.chg hc1 fun b hb hm => nf' (by simp at hm; exact hm ▸ hb), p5, s_bs, nf', by show sb < (σ1.put sb _).next; rw [put_next]; omega, ?_, h.top⟩, p3, (p4.mono fun b hb => .inl (List.mem_cons_of_mem _ hb)).trans (hc1.mono fun b hb => .inl (by simp at hb; simp [hb]))⟩
  obtain ⟨q0, q1⟩ := wordsOf_some ho.w
  obtain ⟨q2, q3⟩ := wordsOf_some h.now
  refine wordsOf_mk q2 ?_
  show (S.M.sp.set S.oid.toNat _)[S.id.toNat]? = _
  have := ho.ne
  rw [List.getElem?_set, if_neg (by omega)]; exact q3
end
end Go.Abs.Try
