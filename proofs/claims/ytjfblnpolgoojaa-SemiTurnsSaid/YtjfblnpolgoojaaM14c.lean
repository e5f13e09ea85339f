/-
  Layer 14: it turns. No conditions.
-/
import Derived.Test.YtjfblnpolgoojaaM14b
set_option linter.unusedVariables false
set_option linter.unusedSimpArgs false
set_option linter.constructorNameAsVariable false
set_option linter.unusedSimpArgs false
set_option linter.unusedVariables false
set_option linter.unusedSectionVars false
set_option maxHeartbeats 2000000
namespace Go.Abs.Try
open Go Go.Abs
variable {O : Type}

/-- the words of the old space -/
structure OldW (S : SemS) (v : List Int) : Prop where
  t : S.turn = true
  w : wordsOf S.M.sp S.oid = some v
  ne : S.oid ≠ S.id
  top : 0 ≤ S.otop ∧ S.otop ≤ v.length
def SemS.flip (S : SemS) (n : Int) : SemS := ⟨S.M.opn (ff S.M.sp) n, ff S.M.sp, 0, S.id, S.top, true⟩
section
variable {σ : AH O} {sb mb : Nat} {F : List Nat} {S : SemS} {w : List Int} (h : SemAt σ sb mb F S w) (hc : S.M.calm)
include h hc
theorem sflip_ok {n : Int} (ht : S.turn = false) (hn : 0 ≤ n ∧ n ≤ 4194304) (hroom : S.M.count < 262144) :
    Ok (semi_Semi__Flip [.p (some (.n sb, 0)), .i .i64 n] σ) fun r => r.1 = .i .i64 0 ∧ ∃ F', SemAt r.2 sb mb F' (S.flip n) (List.replicate n.toNat 0) ∧ OldW (S.flip n) w ∧ Fp F F' σ ∧ Chg (sb :: F) σ r.2 := by
  have hb := h.b
  simp only [SemS.cells, ht] at hb
  have hlt := h.lt
  simp (config := { maxSteps := 2000000 }) -implicitDefEqProofs (disch := (first | omega | rfl | assumption | (simp only [put_next, bump_next, kill_next, List.length_cons, List.length_nil, List.mem_cons, List.not_mem_nil, or_false, not_false_eq_true]; first | omega | assumption))) only [semi_Semi__Flip, semi_Semi__Flip_c, hb, Nat.reduceAdd, Nat.reduceMul, Nat.reduceLT, Int.reduceToNat, Int.reduceAdd, Int.reduceSub, Int.reduceMul, s_beq, List.length_cons, List.length_nil, List.getD_cons_zero, List.getD_cons_succ, List.getElem?_cons_zero, List.getElem?_cons_succ, Option.bind_some, Option.bind_assoc, s_bindN, asI_i, asB_b, asS_s, asP_p, asPS_p, asSl_sl, s_agg, s_tup, s_fn, joinB, joinI, joinR, beq_true, beq_false, Bool.not_true, Bool.not_false, Bool.not_not, cond_true, cond_false, neI, s_mapS, bindS_inl, bindS_inr, Bool.and_true, Bool.true_and, Bool.and_false, Bool.false_and, s_isNoneS, s_isNoneN, s_ref, s_adv, s_ldf, s_ld, s_ldM, s_st, s_stM, s_bs, s_bn, s_pp, bump_blk, bump_next, put_next, splice_z, splice_zz, splice_s, s_decT, s_decF, s_eqT, s_eqF, s_i64, s_u64, s_u8, Int.toNat_natCast, Nat.zero_add, s_room, s_chkT, s_rdSl, s_wrSl, s_ldN, s_ldNM, s_ldNf, List.drop_zero, List.take_succ_cons, List.take_zero, List.take_nil, List.take_length, Nat.mul_one, List.flatten_cons, List.flatten_nil, List.append_nil, List.nil_append, List.cons_append]
  refine Ok.step (openT (n := n) h.m h.ok hc) fun r ⟨p1, ⟨F', p2, p3⟩, p4, p5⟩ => ?_
  obtain ⟨q, σ1⟩ := r
  have hR : S.M.opnR n = (S.M.opn (ff S.M.sp) n, (ff S.M.sp : Int), 0) := by
    unfold MemS.opnR
    rw [if_neg (by omega), if_neg (by omega), if_neg (by omega)]
  simp only at p1 p2 p4
  rw [hR] at p1 p2 p5
  subst p1
  have hb1 : σ1.blk sb = _ := (p4.blk sb h.lt h.nf).trans hb
  have e1 : ((0 : Int) != 0) = false := rfl
  simp (config := { maxSteps := 2000000 }) -implicitDefEqProofs (disch := (first | omega | rfl | assumption | (simp only [put_next, bump_next, kill_next, List.length_cons, List.length_nil, List.mem_cons, List.not_mem_nil, or_false, not_false_eq_true]; first | omega | assumption))) only [hb1, e1, Nat.reduceAdd, Nat.reduceMul, Nat.reduceLT, Int.reduceToNat, Int.reduceAdd, Int.reduceSub, Int.reduceMul, s_beq, List.length_cons, List.length_nil, List.getD_cons_zero, List.getD_cons_succ, List.getElem?_cons_zero, List.getElem?_cons_succ, Option.bind_some, Option.bind_assoc, s_bindN, asI_i, asB_b, asS_s, asP_p, asPS_p, asSl_sl, s_agg, s_tup, s_fn, joinB, joinI, joinR, beq_true, beq_false, Bool.not_true, Bool.not_false, Bool.not_not, cond_true, cond_false, neI, s_mapS, bindS_inl, bindS_inr, Bool.and_true, Bool.true_and, Bool.and_false, Bool.false_and, s_isNoneS, s_isNoneN, s_ref, s_adv, s_ldf, s_ld, s_ldM, s_st, s_stM, s_bs, s_bn, s_pp, bump_blk, bump_next, put_next, splice_z, splice_zz, splice_s, s_decT, s_decF, s_eqT, s_eqF, s_i64, s_u64, s_u8, Int.toNat_natCast, Nat.zero_add, s_room, s_chkT, s_rdSl, s_wrSl, s_ldN, s_ldNM, s_ldNf, List.drop_zero, List.take_succ_cons, List.take_zero, List.take_nil, List.take_length, Nat.mul_one, List.flatten_cons, List.flatten_nil, List.append_nil, List.nil_append, List.cons_append]
  have nf' : sb ∉ F' := fun hm => by
    rcases p3 sb hm with g | g
    · exact h.nf g
    · omega
  have hc1 : Chg [sb] σ1 (σ1.put sb (.cells true T_semi_Semi (SemS.cells (S.flip n) mb))) := ⟨by simp, fun b hb hm => s_bn (by simpa using hm)⟩
  have := p4.next
  have hf := ff_free S.M.sp
  have hne : S.id ≠ (ff S.M.sp : Int) := fun e => by
    obtain ⟨k0, k1⟩ := wordsOf_some h.now
    rw [e, Int.toNat_natCast] at k1
    have := hf.here _ k1
    cases this
  refine Ok_some.2 ⟨rfl, F', ⟨p2.chg hc1 fun b hb hm => nf' (by simp at hm; exact hm ▸ hb), p5, s_bs, nf', by show sb < (σ1.put sb _).next; rw [put_next]; omega, ?_, Int.le_refl 0, Int.natCast_nonneg _⟩, ⟨rfl, ?_, hne, h.top⟩, p3, (p4.mono fun b hb => .inl (List.mem_cons_of_mem _ hb)).trans (hc1.mono fun b hb => .inl (by simp at hb; simp [hb]))⟩
  · refine wordsOf_mk (Int.natCast_nonneg _) ?_
    show (putAt S.M.sp (ff S.M.sp) _)[(ff S.M.sp : Int).toNat]? = _
    rw [putAt_get hf.le, Int.toNat_natCast, if_pos rfl]
  · obtain ⟨k0, k1⟩ := wordsOf_some h.now
    refine wordsOf_mk k0 ?_
    show (putAt S.M.sp (ff S.M.sp) _)[S.id.toNat]? = _
    rw [putAt_get hf.le, if_neg (by omega)]; exact k1
end
end Go.Abs.Try
