/-
  Layer 17: frames come, go, and are read and written. No conditions.
-/
import Derived.Test.YtcjekncaflnhlaaM17
set_option linter.unusedVariables false
set_option linter.unusedSimpArgs false
set_option linter.constructorNameAsVariable false
set_option linter.unusedSimpArgs false
set_option linter.unusedVariables false
set_option linter.unusedSectionVars false
set_option maxHeartbeats 4000000
namespace Go.Abs.Try
open Go Go.Abs
variable {O : Type}

theorem frame_ok {σ : AH O} {n : Int} : shape_Frame [.i .i64 n] σ = some (.i .i64 (if 0 ≤ n ∧ n ≤ 256 then 2 + n else 0), σ) := by
  by_cases c1 : n < 0
  · rw [if_neg (by omega)]
    simp (config := { maxSteps := 2000000 }) -implicitDefEqProofs (disch := (first | omega | rfl | assumption | (simp only [put_next, bump_next, kill_next, List.length_cons, List.length_nil, List.mem_cons, List.not_mem_nil, or_false, not_false_eq_true]; first | omega | assumption))) only [shape_Frame, shape_Frame_c, Nat.reduceAdd, Nat.reduceMul, Nat.reduceLT, Int.reduceToNat, Int.reduceAdd, Int.reduceSub, Int.reduceMul, s_beq, List.length_cons, List.length_nil, List.getD_cons_zero, List.getD_cons_succ, List.getElem?_cons_zero, List.getElem?_cons_succ, Option.bind_some, Option.bind_assoc, s_bindN, asI_i, asB_b, asS_s, asP_p, asPS_p, asSl_sl, s_agg, s_tup, s_fn, joinB, joinI, joinR, beq_true, beq_false, Bool.not_true, Bool.not_false, Bool.not_not, cond_true, cond_false, neI, s_mapS, bindS_inl, bindS_inr, Bool.and_true, Bool.true_and, Bool.and_false, Bool.false_and, s_isNoneS, s_isNoneN, s_ref, s_adv, s_ldf, s_ld, s_ldM, s_st, s_stM, s_bs, s_bn, s_pp, bump_blk, bump_next, put_next, splice_z, splice_zz, splice_s, s_decT, s_decF, s_eqT, s_eqF, s_i64, s_u64, s_u8, Int.toNat_natCast, Nat.zero_add, s_room, s_chkT, s_rdSl, s_wrSl, s_ldN, s_ldNM, s_ldNf, List.drop_zero, List.take_succ_cons, List.take_zero, List.take_nil, List.take_length, Nat.mul_one, List.flatten_cons, List.flatten_nil, List.append_nil, List.nil_append, List.cons_append]
  · by_cases c2 : n > 256
    · rw [if_neg (by omega)]
      simp (config := { maxSteps := 2000000 }) -implicitDefEqProofs (disch := (first | omega | rfl | assumption | (simp only [put_next, bump_next, kill_next, List.length_cons, List.length_nil, List.mem_cons, List.not_mem_nil, or_false, not_false_eq_true]; first | omega | assumption))) only [shape_Frame, shape_Frame_c, Nat.reduceAdd, Nat.reduceMul, Nat.reduceLT, Int.reduceToNat, Int.reduceAdd, Int.reduceSub, Int.reduceMul, s_beq, List.length_cons, List.length_nil, List.getD_cons_zero, List.getD_cons_succ, List.getElem?_cons_zero, List.getElem?_cons_succ, Option.bind_some, Option.bind_assoc, s_bindN, asI_i, asB_b, asS_s, asP_p, asPS_p, asSl_sl, s_agg, s_tup, s_fn, joinB, joinI, joinR, beq_true, beq_false, Bool.not_true, Bool.not_false, Bool.not_not, cond_true, cond_false, neI, s_mapS, bindS_inl, bindS_inr, Bool.and_true, Bool.true_and, Bool.and_false, Bool.false_and, s_isNoneS, s_isNoneN, s_ref, s_adv, s_ldf, s_ld, s_ldM, s_st, s_stM, s_bs, s_bn, s_pp, bump_blk, bump_next, put_next, splice_z, splice_zz, splice_s, s_decT, s_decF, s_eqT, s_eqF, s_i64, s_u64, s_u8, Int.toNat_natCast, Nat.zero_add, s_room, s_chkT, s_rdSl, s_wrSl, s_ldN, s_ldNM, s_ldNf, List.drop_zero, List.take_succ_cons, List.take_zero, List.take_nil, List.take_length, Nat.mul_one, List.flatten_cons, List.flatten_nil, List.append_nil, List.nil_append, List.cons_append]
    · rw [if_pos (by omega)]
      simp (config := { maxSteps := 2000000 }) -implicitDefEqProofs (disch := (first | omega | rfl | assumption | (simp only [put_next, bump_next, kill_next, List.length_cons, List.length_nil, List.mem_cons, List.not_mem_nil, or_false, not_false_eq_true]; first | omega | assumption))) only [shape_Frame, shape_Frame_c, Nat.reduceAdd, Nat.reduceMul, Nat.reduceLT, Int.reduceToNat, Int.reduceAdd, Int.reduceSub, Int.reduceMul, s_beq, List.length_cons, List.length_nil, List.getD_cons_zero, List.getD_cons_succ, List.getElem?_cons_zero, List.getElem?_cons_succ, Option.bind_some, Option.bind_assoc, s_bindN, asI_i, asB_b, asS_s, asP_p, asPS_p, asSl_sl, s_agg, s_tup, s_fn, joinB, joinI, joinR, beq_true, beq_false, Bool.not_true, Bool.not_false, Bool.not_not, cond_true, cond_false, neI, s_mapS, bindS_inl, bindS_inr, Bool.and_true, Bool.true_and, Bool.and_false, Bool.false_and, s_isNoneS, s_isNoneN, s_ref, s_adv, s_ldf, s_ld, s_ldM, s_st, s_stM, s_bs, s_bn, s_pp, bump_blk, bump_next, put_next, splice_z, splice_zz, splice_s, s_decT, s_decF, s_eqT, s_eqF, s_i64, s_u64, s_u8, Int.toNat_natCast, Nat.zero_add, s_room, s_chkT, s_rdSl, s_wrSl, s_ldN, s_ldNM, s_ldNf, List.drop_zero, List.take_succ_cons, List.take_zero, List.take_nil, List.take_length, Nat.mul_one, List.flatten_cons, List.flatten_nil, List.append_nil, List.nil_append, List.cons_append]
section
variable {σ : AH O} {fb mb : Nat} {M : MemS} {S : FrmS} {w : List Int} {X : List Nat} (h : FrmAt σ fb mb M S w X) (hc : M.calm)
include h hc
theorem fpush_ok {n : Nat} (hn : n ≤ 256) (hroom : wds S.L + (2 + n) ≤ 4194304) (hmw : M.met.w + 300 < 85070591730234615865843651857942052864) :
    Ok (frames_Frames__Push [.p (some (.n fb, 0)), .i .i64 (n : Int)] σ) fun r => r.1 = .i .i64 0 ∧ ∃ M' room' w', FrmAt r.2 fb mb M' { S with room := room', L := List.replicate n 0 :: S.L } w' X ∧ Rm S.room (wds S.L + (2 + n)) room' ∧ Wrt M M' S.id w' 0 (2 + n) ∧ Keep X σ r.2 := by
  have fr := frame_ok (σ := σ) (n := (n : Int))
  rw [if_pos (by omega)] at fr
  have hb := h.b
  simp only [FrmS.cells] at hb
  have hle := h.le
  have hwl := h.wle
  simp (config := { maxSteps := 2000000 }) -implicitDefEqProofs (disch := (first | omega | rfl | assumption | (simp only [put_next, bump_next, kill_next, List.length_cons, List.length_nil, List.mem_cons, List.not_mem_nil, or_false, not_false_eq_true]; first | omega | assumption))) only [frames_Frames__Push, frames_Frames__Push_c, fr, hb, Nat.reduceAdd, Nat.reduceMul, Nat.reduceLT, Int.reduceToNat, Int.reduceAdd, Int.reduceSub, Int.reduceMul, s_beq, List.length_cons, List.length_nil, List.getD_cons_zero, List.getD_cons_succ, List.getElem?_cons_zero, List.getElem?_cons_succ, Option.bind_some, Option.bind_assoc, s_bindN, asI_i, asB_b, asS_s, asP_p, asPS_p, asSl_sl, s_agg, s_tup, s_fn, joinB, joinI, joinR, beq_true, beq_false, Bool.not_true, Bool.not_false, Bool.not_not, cond_true, cond_false, neI, s_mapS, bindS_inl, bindS_inr, Bool.and_true, Bool.true_and, Bool.and_false, Bool.false_and, s_isNoneS, s_isNoneN, s_ref, s_adv, s_ldf, s_ld, s_ldM, s_st, s_stM, s_bs, s_bn, s_pp, bump_blk, bump_next, put_next, splice_z, splice_zz, splice_s, s_decT, s_decF, s_eqT, s_eqF, s_i64, s_u64, s_u8, Int.toNat_natCast, Nat.zero_add, s_room, s_chkT, s_rdSl, s_wrSl, s_ldN, s_ldNM, s_ldNf, List.drop_zero, List.take_succ_cons, List.take_zero, List.take_nil, List.take_length, Nat.mul_one, List.flatten_cons, List.flatten_nil, List.append_nil, List.nil_append, List.cons_append]
  have g := fgrow_ok h hc (n := wds S.L + (2 + n)) hroom
  rw [show ((wds S.L + (2 + n) : Nat) : Int) = (wds S.L : Int) + (2 + (n : Int)) by omega] at g
  refine Ok.step g fun r ⟨g1, M1, room', w1, g2, g3, g4, g5⟩ => ?_
  obtain ⟨q, σ1⟩ := r
  simp only at g1 g2 g5
  subst g1
  have hb1 := g2.b
  simp only [FrmS.cells] at hb1
  have e0 : ((0 : Int) != 0) = false := rfl
  have hlk : IntKind.u64.wrap (bif decide ((S.L.length : Int) > 0) then IntKind.i64.wrap (fbase S.L + 1) else 0) = lnk S.L := by
    cases hL : S.L with
    | nil => rfl
    | cons f r =>
      rw [hL] at hle
      simp only [wds] at hle
      rw [decide_eq_true (by simp), cond_true, s_i64 (by simp only [fbase]; omega), s_u64 (by simp only [fbase]; omega)]; rfl
  have hlw : w1.length = room' := g2.room
  have hrm : wds S.L + (2 + n) ≤ room' := by obtain ⟨j, _, h2, _⟩ := g3; exact h2
  have hw1l := g2.wle
  have hl1 := lnk_le S.L
  have hl2 := lnk_nn S.L
  simp (config := { maxSteps := 2000000 }) -implicitDefEqProofs (disch := (first | omega | rfl | assumption | (simp only [put_next, bump_next, kill_next, List.length_cons, List.length_nil, List.mem_cons, List.not_mem_nil, or_false, not_false_eq_true]; first | omega | assumption))) only [e0, hb1, hlk, Nat.reduceAdd, Nat.reduceMul, Nat.reduceLT, Int.reduceToNat, Int.reduceAdd, Int.reduceSub, Int.reduceMul, s_beq, List.length_cons, List.length_nil, List.getD_cons_zero, List.getD_cons_succ, List.getElem?_cons_zero, List.getElem?_cons_succ, Option.bind_some, Option.bind_assoc, s_bindN, asI_i, asB_b, asS_s, asP_p, asPS_p, asSl_sl, s_agg, s_tup, s_fn, joinB, joinI, joinR, beq_true, beq_false, Bool.not_true, Bool.not_false, Bool.not_not, cond_true, cond_false, neI, s_mapS, bindS_inl, bindS_inr, Bool.and_true, Bool.true_and, Bool.and_false, Bool.false_and, s_isNoneS, s_isNoneN, s_ref, s_adv, s_ldf, s_ld, s_ldM, s_st, s_stM, s_bs, s_bn, s_pp, bump_blk, bump_next, put_next, splice_z, splice_zz, splice_s, s_decT, s_decF, s_eqT, s_eqF, s_i64, s_u64, s_u8, Int.toNat_natCast, Nat.zero_add, s_room, s_chkT, s_rdSl, s_wrSl, s_ldN, s_ldNM, s_ldNf, List.drop_zero, List.take_succ_cons, List.take_zero, List.take_nil, List.take_length, Nat.mul_one, List.flatten_cons, List.flatten_nil, List.append_nil, List.nil_append, List.cons_append]
  have hc1 : M1.calm := ⟨by rw [g4.r]; have := hc.r; omega, by rw [g4.w]; have := hc.w; omega⟩
  have hnw1 := g2.now
  simp only at hnw1
  refine Ok.step (writeX g2.mi hc1 hnw1 (at_ := (wds S.L : Int) + 0) (x := lnk S.L) (by omega) (by omega)) fun r ⟨p1, M2, p2, p3, p4⟩ => ?_
  obtain ⟨q, σ2⟩ := r
  simp only at p1 p2 p4
  subst p1
  have hb2 : σ2.blk fb = _ := p4.head.trans hb1
  simp (config := { maxSteps := 2000000 }) -implicitDefEqProofs (disch := (first | omega | rfl | assumption | (simp only [put_next, bump_next, kill_next, List.length_cons, List.length_nil, List.mem_cons, List.not_mem_nil, or_false, not_false_eq_true]; first | omega | assumption))) only [hb2, Nat.reduceAdd, Nat.reduceMul, Nat.reduceLT, Int.reduceToNat, Int.reduceAdd, Int.reduceSub, Int.reduceMul, s_beq, List.length_cons, List.length_nil, List.getD_cons_zero, List.getD_cons_succ, List.getElem?_cons_zero, List.getElem?_cons_succ, Option.bind_some, Option.bind_assoc, s_bindN, asI_i, asB_b, asS_s, asP_p, asPS_p, asSl_sl, s_agg, s_tup, s_fn, joinB, joinI, joinR, beq_true, beq_false, Bool.not_true, Bool.not_false, Bool.not_not, cond_true, cond_false, neI, s_mapS, bindS_inl, bindS_inr, Bool.and_true, Bool.true_and, Bool.and_false, Bool.false_and, s_isNoneS, s_isNoneN, s_ref, s_adv, s_ldf, s_ld, s_ldM, s_st, s_stM, s_bs, s_bn, s_pp, bump_blk, bump_next, put_next, splice_z, splice_zz, splice_s, s_decT, s_decF, s_eqT, s_eqF, s_i64, s_u64, s_u8, Int.toNat_natCast, Nat.zero_add, s_room, s_chkT, s_rdSl, s_wrSl, s_ldN, s_ldNM, s_ldNf, List.drop_zero, List.take_succ_cons, List.take_zero, List.take_nil, List.take_length, Nat.mul_one, List.flatten_cons, List.flatten_nil, List.append_nil, List.nil_append, List.cons_append]
  have hc2 : M2.calm := ⟨by rw [p3.r, g4.r]; have := hc.r; omega, by rw [p3.w, g4.w]; have := hc.w; omega⟩
  have hnw2 := p3.words hnw1
  refine Ok.step (writeX p2 hc2 hnw2 (at_ := (wds S.L : Int) + 1) (x := (n : Int)) (by omega) (by rw [List.length_set]; omega)) fun r ⟨q1, M3, q2, q3, q4⟩ => ?_
  obtain ⟨q, σ3⟩ := r
  simp only at q1 q2 q4
  subst q1
  have hb3 : σ3.blk fb = _ := q4.head.trans hb2
  simp (config := { maxSteps := 2000000 }) -implicitDefEqProofs (disch := (first | omega | rfl | assumption | (simp only [put_next, bump_next, kill_next, List.length_cons, List.length_nil, List.mem_cons, List.not_mem_nil, or_false, not_false_eq_true]; first | omega | assumption))) only [hb3, Nat.reduceAdd, Nat.reduceMul, Nat.reduceLT, Int.reduceToNat, Int.reduceAdd, Int.reduceSub, Int.reduceMul, s_beq, List.length_cons, List.length_nil, List.getD_cons_zero, List.getD_cons_succ, List.getElem?_cons_zero, List.getElem?_cons_succ, Option.bind_some, Option.bind_assoc, s_bindN, asI_i, asB_b, asS_s, asP_p, asPS_p, asSl_sl, s_agg, s_tup, s_fn, joinB, joinI, joinR, beq_true, beq_false, Bool.not_true, Bool.not_false, Bool.not_not, cond_true, cond_false, neI, s_mapS, bindS_inl, bindS_inr, Bool.and_true, Bool.true_and, Bool.and_false, Bool.false_and, s_isNoneS, s_isNoneN, s_ref, s_adv, s_ldf, s_ld, s_ldM, s_st, s_stM, s_bs, s_bn, s_pp, bump_blk, bump_next, put_next, splice_z, splice_zz, splice_s, s_decT, s_decF, s_eqT, s_eqF, s_i64, s_u64, s_u8, Int.toNat_natCast, Nat.zero_add, s_room, s_chkT, s_rdSl, s_wrSl, s_ldN, s_ldNM, s_ldNf, List.drop_zero, List.take_succ_cons, List.take_zero, List.take_nil, List.take_length, Nat.mul_one, List.flatten_cons, List.flatten_nil, List.append_nil, List.nil_append, List.cons_append]
  have hc3 : M3.calm := ⟨by rw [q3.r, p3.r, g4.r]; have := hc.r; omega, by rw [q3.w, p3.w, g4.w]; have := hc.w; omega⟩
  have hnw3 := q3.words hnw2
  refine Ok.step (zeroX q2 hc3 hnw3 (at_ := (wds S.L : Int) + 2) (n := (n : Int)) (by omega) (by omega) (by rw [List.length_set, List.length_set]; omega)) fun r ⟨m1, M4, m2, m3, m4⟩ => ?_
  obtain ⟨q, σ4⟩ := r
  simp only at m1 m2 m4
  subst m1
  have hb4 : σ4.blk fb = _ := m4.head.trans hb3
  have hlt4 := m2.lt fb List.mem_cons_self
  have hdep : (S.L.length : Int) ≤ wds S.L := by
    have : ∀ L : List (List Int), L.length ≤ wds L := fun L => by
      induction L with
      | nil => exact Nat.le_refl _
      | cons f r ih => simp only [List.length_cons, wds]; omega
    exact_mod_cast this S.L
  simp (config := { maxSteps := 2000000 }) -implicitDefEqProofs (disch := (first | omega | rfl | assumption | (simp only [put_next, bump_next, kill_next, List.length_cons, List.length_nil, List.mem_cons, List.not_mem_nil, or_false, not_false_eq_true]; first | omega | assumption))) only [hb4, Nat.reduceAdd, Nat.reduceMul, Nat.reduceLT, Int.reduceToNat, Int.reduceAdd, Int.reduceSub, Int.reduceMul, s_beq, List.length_cons, List.length_nil, List.getD_cons_zero, List.getD_cons_succ, List.getElem?_cons_zero, List.getElem?_cons_succ, Option.bind_some, Option.bind_assoc, s_bindN, asI_i, asB_b, asS_s, asP_p, asPS_p, asSl_sl, s_agg, s_tup, s_fn, joinB, joinI, joinR, beq_true, beq_false, Bool.not_true, Bool.not_false, Bool.not_not, cond_true, cond_false, neI, s_mapS, bindS_inl, bindS_inr, Bool.and_true, Bool.true_and, Bool.and_false, Bool.false_and, s_isNoneS, s_isNoneN, s_ref, s_adv, s_ldf, s_ld, s_ldM, s_st, s_stM, s_bs, s_bn, s_pp, bump_blk, bump_next, put_next, splice_z, splice_zz, splice_s, s_decT, s_decF, s_eqT, s_eqF, s_i64, s_u64, s_u8, Int.toNat_natCast, Nat.zero_add, s_room, s_chkT, s_rdSl, s_wrSl, s_ldN, s_ldNM, s_ldNf, List.drop_zero, List.take_succ_cons, List.take_zero, List.take_nil, List.take_length, Nat.mul_one, List.flatten_cons, List.flatten_nil, List.append_nil, List.nil_append, List.cons_append]
  have t0 : ((wds S.L : Int) + 0).toNat = wds S.L := by omega
  have t1 : ((wds S.L : Int) + 1).toNat = wds S.L + 1 := by omega
  have t2 : ((wds S.L : Int) + 2).toNat = wds S.L + 2 := by omega
  rw [t0] at p3
  rw [t0, t1] at q3
  rw [t0, t1, t2, Int.toNat_natCast] at m3
  have pl := lay_push (z := List.replicate n 0) (x := lnk S.L) (y := (n : Int)) g2.pre (lay_len _) (by rw [List.length_replicate]; show wds S.L + _ ≤ _; omega)
  refine Ok_some.2 ⟨rfl, M4, room', _, ⟨(m2.put List.mem_cons_self _), s_bs.trans ?_, h.nx, m3.words hnw3, ?_, g2.pow, ?_, ?_⟩, g3, ?_, ?_⟩
  · simp only [FrmS.cells, wds, List.length_replicate, List.length_cons, fbase, fslots]
    congr
    all_goals omega
  · rw [patched_len (by rw [List.length_set, List.length_set, List.length_replicate]; omega), List.length_set, List.length_set]; exact hlw
  · simp only [wds, lay, List.length_replicate] at pl ⊢
    exact pl
  · intro f hf
    rcases List.mem_cons.1 hf with rfl | hf
    · simpa using hn
    · exact h.len f hf
  · exact (((g4.trans p3).trans q3).trans m3).as rfl (by omega) (by omega)
  · exact ((((g5.trans p4.tail).trans q4.tail).trans m4.tail)).trans (Keep.put h.nx _)
/-- what is wrong with a slot of the topmost frame -/
def fwrong (L : List (List Int)) (slot : Int) : Int := match L with | [] => 33 | f :: _ => if slot < 0 ∨ slot ≥ f.length then 32 else 0
omit hc in
theorem fcheck_ok {slot : Int} : frames_Frames__check [.p (some (.n fb, 0)), .i .i64 slot] σ = some (.i .i64 (fwrong S.L slot), σ) := by
  have hb := h.b
  simp only [FrmS.cells] at hb
  cases hL : S.L with
  | nil =>
    rw [hL] at hb
    have e0 : (((([] : List (List Int)).length : Nat) : Int) == 0) = true := rfl
    simp (config := { maxSteps := 2000000 }) -implicitDefEqProofs (disch := (first | omega | rfl | assumption | (simp only [put_next, bump_next, kill_next, List.length_cons, List.length_nil, List.mem_cons, List.not_mem_nil, or_false, not_false_eq_true]; first | omega | assumption))) only [frames_Frames__check, frames_Frames__check_c, hb, e0, fwrong, Nat.reduceAdd, Nat.reduceMul, Nat.reduceLT, Int.reduceToNat, Int.reduceAdd, Int.reduceSub, Int.reduceMul, s_beq, List.length_cons, List.length_nil, List.getD_cons_zero, List.getD_cons_succ, List.getElem?_cons_zero, List.getElem?_cons_succ, Option.bind_some, Option.bind_assoc, s_bindN, asI_i, asB_b, asS_s, asP_p, asPS_p, asSl_sl, s_agg, s_tup, s_fn, joinB, joinI, joinR, beq_true, beq_false, Bool.not_true, Bool.not_false, Bool.not_not, cond_true, cond_false, neI, s_mapS, bindS_inl, bindS_inr, Bool.and_true, Bool.true_and, Bool.and_false, Bool.false_and, s_isNoneS, s_isNoneN, s_ref, s_adv, s_ldf, s_ld, s_ldM, s_st, s_stM, s_bs, s_bn, s_pp, bump_blk, bump_next, put_next, splice_z, splice_zz, splice_s, s_decT, s_decF, s_eqT, s_eqF, s_i64, s_u64, s_u8, Int.toNat_natCast, Nat.zero_add, s_room, s_chkT, s_rdSl, s_wrSl, s_ldN, s_ldNM, s_ldNf, List.drop_zero, List.take_succ_cons, List.take_zero, List.take_nil, List.take_length, Nat.mul_one, List.flatten_cons, List.flatten_nil, List.append_nil, List.nil_append, List.cons_append]
  | cons f r =>
    rw [hL] at hb
    simp only [fslots] at hb
    have e0 : (((r.length + 1 : Nat) : Int) == 0) = false := by simp; omega
    by_cases c1 : slot < 0
    · have : fwrong (f :: r) slot = 32 := by simp only [fwrong]; rw [if_pos (.inl c1)]
      rw [this]
      simp -implicitDefEqProofs only [frames_Frames__check, frames_Frames__check_c, hb, e0, decide_eq_true c1, Nat.reduceAdd, Nat.reduceMul, Nat.reduceLT, Int.reduceToNat, Int.reduceAdd, Int.reduceSub, Int.reduceMul, s_beq, List.length_cons, List.length_nil, List.getD_cons_zero, List.getD_cons_succ, List.getElem?_cons_zero, List.getElem?_cons_succ, Option.bind_some, Option.bind_assoc, s_bindN, asI_i, asB_b, asS_s, asP_p, asPS_p, asSl_sl, s_agg, s_tup, s_fn, joinB, joinI, joinR, beq_true, beq_false, Bool.not_true, Bool.not_false, Bool.not_not, cond_true, cond_false, neI, s_mapS, bindS_inl, bindS_inr, Bool.and_true, Bool.true_and, Bool.and_false, Bool.false_and, s_isNoneS, s_isNoneN, s_ref, s_adv, s_ldf, s_ld, s_ldM, s_st, s_stM, s_bs, s_pp, bump_blk, bump_next, put_next, splice_z, splice_zz, splice_s, Int.toNat_natCast, Nat.zero_add, s_chkT, s_rdSl, s_wrSl, s_ldN, s_ldNM, s_ldNf, List.drop_zero, List.take_succ_cons, List.take_zero, List.take_nil, List.take_length, Nat.mul_one, List.flatten_cons, List.flatten_nil, List.append_nil, List.nil_append, List.cons_append, s_bleD, Nat.reduceLeDiff, decide_true, decide_false]
    · by_cases c2 : slot ≥ f.length
      · have : fwrong (f :: r) slot = 32 := by simp only [fwrong]; rw [if_pos (.inr c2)]
        rw [this]
        simp -implicitDefEqProofs only [frames_Frames__check, frames_Frames__check_c, hb, e0, decide_eq_false c1, decide_eq_true c2, Nat.reduceAdd, Nat.reduceMul, Nat.reduceLT, Int.reduceToNat, Int.reduceAdd, Int.reduceSub, Int.reduceMul, s_beq, List.length_cons, List.length_nil, List.getD_cons_zero, List.getD_cons_succ, List.getElem?_cons_zero, List.getElem?_cons_succ, Option.bind_some, Option.bind_assoc, s_bindN, asI_i, asB_b, asS_s, asP_p, asPS_p, asSl_sl, s_agg, s_tup, s_fn, joinB, joinI, joinR, beq_true, beq_false, Bool.not_true, Bool.not_false, Bool.not_not, cond_true, cond_false, neI, s_mapS, bindS_inl, bindS_inr, Bool.and_true, Bool.true_and, Bool.and_false, Bool.false_and, s_isNoneS, s_isNoneN, s_ref, s_adv, s_ldf, s_ld, s_ldM, s_st, s_stM, s_bs, s_pp, bump_blk, bump_next, put_next, splice_z, splice_zz, splice_s, Int.toNat_natCast, Nat.zero_add, s_chkT, s_rdSl, s_wrSl, s_ldN, s_ldNM, s_ldNf, List.drop_zero, List.take_succ_cons, List.take_zero, List.take_nil, List.take_length, Nat.mul_one, List.flatten_cons, List.flatten_nil, List.append_nil, List.nil_append, List.cons_append, s_bleD, Nat.reduceLeDiff, decide_true, decide_false]
      · have : fwrong (f :: r) slot = 0 := by simp only [fwrong]; rw [if_neg (by omega)]
        rw [this]
        simp -implicitDefEqProofs only [frames_Frames__check, frames_Frames__check_c, hb, e0, decide_eq_false c1, decide_eq_false c2, Nat.reduceAdd, Nat.reduceMul, Nat.reduceLT, Int.reduceToNat, Int.reduceAdd, Int.reduceSub, Int.reduceMul, s_beq, List.length_cons, List.length_nil, List.getD_cons_zero, List.getD_cons_succ, List.getElem?_cons_zero, List.getElem?_cons_succ, Option.bind_some, Option.bind_assoc, s_bindN, asI_i, asB_b, asS_s, asP_p, asPS_p, asSl_sl, s_agg, s_tup, s_fn, joinB, joinI, joinR, beq_true, beq_false, Bool.not_true, Bool.not_false, Bool.not_not, cond_true, cond_false, neI, s_mapS, bindS_inl, bindS_inr, Bool.and_true, Bool.true_and, Bool.and_false, Bool.false_and, s_isNoneS, s_isNoneN, s_ref, s_adv, s_ldf, s_ld, s_ldM, s_st, s_stM, s_bs, s_pp, bump_blk, bump_next, put_next, splice_z, splice_zz, splice_s, Int.toNat_natCast, Nat.zero_add, s_chkT, s_rdSl, s_wrSl, s_ldN, s_ldNM, s_ldNf, List.drop_zero, List.take_succ_cons, List.take_zero, List.take_nil, List.take_length, Nat.mul_one, List.flatten_cons, List.flatten_nil, List.append_nil, List.nil_append, List.cons_append, s_bleD, Nat.reduceLeDiff, decide_true, decide_false]
theorem fset_ok {slot x : Int} {f : List Int} {r : List (List Int)} (hL : S.L = f :: r) (h0 : 0 ≤ slot) (h1 : slot < f.length) :
    Ok (frames_Frames__Set [.p (some (.n fb, 0)), .i .i64 slot, .i .u64 x] σ) fun q => q.1 = .i .i64 0 ∧ ∃ M' w', FrmAt q.2 fb mb M' { S with L := f.set slot.toNat x :: r } w' X ∧ Wrt M M' S.id w' 0 1 ∧ Keep X σ q.2 := by
  have hb := h.b
  simp only [FrmS.cells, hL, fbase] at hb
  have hle := h.le
  rw [hL] at hle
  simp only [wds] at hle
  have hwl := h.wle
  have ck := fcheck_ok h (slot := slot)
  have z : fwrong S.L slot = 0 := by rw [hL]; simp only [fwrong]; rw [if_neg (by omega)]
  rw [z] at ck
  have e0 : ((0 : Int) != 0) = false := rfl
  simp (config := { maxSteps := 2000000 }) -implicitDefEqProofs (disch := (first | omega | rfl | assumption | (simp only [put_next, bump_next, kill_next, List.length_cons, List.length_nil, List.mem_cons, List.not_mem_nil, or_false, not_false_eq_true]; first | omega | assumption))) only [frames_Frames__Set, frames_Frames__Set_c, ck, e0, hb, Nat.reduceAdd, Nat.reduceMul, Nat.reduceLT, Int.reduceToNat, Int.reduceAdd, Int.reduceSub, Int.reduceMul, s_beq, List.length_cons, List.length_nil, List.getD_cons_zero, List.getD_cons_succ, List.getElem?_cons_zero, List.getElem?_cons_succ, Option.bind_some, Option.bind_assoc, s_bindN, asI_i, asB_b, asS_s, asP_p, asPS_p, asSl_sl, s_agg, s_tup, s_fn, joinB, joinI, joinR, beq_true, beq_false, Bool.not_true, Bool.not_false, Bool.not_not, cond_true, cond_false, neI, s_mapS, bindS_inl, bindS_inr, Bool.and_true, Bool.true_and, Bool.and_false, Bool.false_and, s_isNoneS, s_isNoneN, s_ref, s_adv, s_ldf, s_ld, s_ldM, s_st, s_stM, s_bs, s_bn, s_pp, bump_blk, bump_next, put_next, splice_z, splice_zz, splice_s, s_decT, s_decF, s_eqT, s_eqF, s_i64, s_u64, s_u8, Int.toNat_natCast, Nat.zero_add, s_room, s_chkT, s_rdSl, s_wrSl, s_ldN, s_ldNM, s_ldNf, List.drop_zero, List.take_succ_cons, List.take_zero, List.take_nil, List.take_length, Nat.mul_one, List.flatten_cons, List.flatten_nil, List.append_nil, List.nil_append, List.cons_append]
  refine Ok.step (writeX h.mi hc h.now (at_ := (wds r : Int) + 2 + slot) (x := x) (by omega) (by omega)) fun q ⟨p1, M1, p2, p3, p4⟩ => ?_
  obtain ⟨q, σ1⟩ := q
  simp only at p1 p2 p4
  subst p1
  simp (config := { maxSteps := 2000000 }) -implicitDefEqProofs (disch := (first | omega | rfl | assumption | (simp only [put_next, bump_next, kill_next, List.length_cons, List.length_nil, List.mem_cons, List.not_mem_nil, or_false, not_false_eq_true]; first | omega | assumption))) only [Nat.reduceAdd, Nat.reduceMul, Nat.reduceLT, Int.reduceToNat, Int.reduceAdd, Int.reduceSub, Int.reduceMul, s_beq, List.length_cons, List.length_nil, List.getD_cons_zero, List.getD_cons_succ, List.getElem?_cons_zero, List.getElem?_cons_succ, Option.bind_some, Option.bind_assoc, s_bindN, asI_i, asB_b, asS_s, asP_p, asPS_p, asSl_sl, s_agg, s_tup, s_fn, joinB, joinI, joinR, beq_true, beq_false, Bool.not_true, Bool.not_false, Bool.not_not, cond_true, cond_false, neI, s_mapS, bindS_inl, bindS_inr, Bool.and_true, Bool.true_and, Bool.and_false, Bool.false_and, s_isNoneS, s_isNoneN, s_ref, s_adv, s_ldf, s_ld, s_ldM, s_st, s_stM, s_bs, s_bn, s_pp, bump_blk, bump_next, put_next, splice_z, splice_zz, splice_s, s_decT, s_decF, s_eqT, s_eqF, s_i64, s_u64, s_u8, Int.toNat_natCast, Nat.zero_add, s_room, s_chkT, s_rdSl, s_wrSl, s_ldN, s_ldNM, s_ldNf, List.drop_zero, List.take_succ_cons, List.take_zero, List.take_nil, List.take_length, Nat.mul_one, List.flatten_cons, List.flatten_nil, List.append_nil, List.nil_append, List.cons_append]
  have t0 : ((wds r : Int) + 2 + slot).toNat = wds r + 2 + slot.toNat := by omega
  rw [t0] at p3
  refine Ok_some.2 ⟨rfl, M1, _, ⟨p2, p4.head.trans ?_, h.nx, p3.words h.now, by rw [List.length_set]; exact h.room, h.pow, ?_, ?_⟩, p3, p4.tail⟩
  · rw [h.b]
    simp [FrmS.cells, hL, wds, fbase, fslots]
  · exact lay_set (by have := h.pre; rw [hL] at this; exact this)
  · intro g hg
    have hlen := h.len
    rw [hL] at hlen
    rcases List.mem_cons.1 hg with rfl | hg
    · rw [List.length_set]; exact hlen f List.mem_cons_self
    · exact hlen g (List.mem_cons_of_mem _ hg)
theorem fget_ok {slot : Int} {f : List Int} {r : List (List Int)} (hL : S.L = f :: r) (h0 : 0 ≤ slot) (h1 : slot < f.length) :
    Ok (frames_Frames__Get [.p (some (.n fb, 0)), .i .i64 slot] σ) fun q => q.1 = .tup [.i .u64 (f.getD slot.toNat 0), .i .i64 0] ∧ ∃ M', FrmAt q.2 fb mb M' S w X ∧ Wrt M M' S.id w 1 0 ∧ Keep X σ q.2 := by
  have hb := h.b
  simp only [FrmS.cells, hL, fbase] at hb
  have hle := h.le
  rw [hL] at hle
  simp only [wds] at hle
  have hwl := h.wle
  have ck := fcheck_ok h (slot := slot)
  have z : fwrong S.L slot = 0 := by rw [hL]; simp only [fwrong]; rw [if_neg (by omega)]
  rw [z] at ck
  have e0 : ((0 : Int) != 0) = false := rfl
  simp (config := { maxSteps := 2000000 }) -implicitDefEqProofs (disch := (first | omega | rfl | assumption | (simp only [put_next, bump_next, kill_next, List.length_cons, List.length_nil, List.mem_cons, List.not_mem_nil, or_false, not_false_eq_true]; first | omega | assumption))) only [frames_Frames__Get, frames_Frames__Get_c, ck, e0, hb, Nat.reduceAdd, Nat.reduceMul, Nat.reduceLT, Int.reduceToNat, Int.reduceAdd, Int.reduceSub, Int.reduceMul, s_beq, List.length_cons, List.length_nil, List.getD_cons_zero, List.getD_cons_succ, List.getElem?_cons_zero, List.getElem?_cons_succ, Option.bind_some, Option.bind_assoc, s_bindN, asI_i, asB_b, asS_s, asP_p, asPS_p, asSl_sl, s_agg, s_tup, s_fn, joinB, joinI, joinR, beq_true, beq_false, Bool.not_true, Bool.not_false, Bool.not_not, cond_true, cond_false, neI, s_mapS, bindS_inl, bindS_inr, Bool.and_true, Bool.true_and, Bool.and_false, Bool.false_and, s_isNoneS, s_isNoneN, s_ref, s_adv, s_ldf, s_ld, s_ldM, s_st, s_stM, s_bs, s_bn, s_pp, bump_blk, bump_next, put_next, splice_z, splice_zz, splice_s, s_decT, s_decF, s_eqT, s_eqF, s_i64, s_u64, s_u8, Int.toNat_natCast, Nat.zero_add, s_room, s_chkT, s_rdSl, s_wrSl, s_ldN, s_ldNM, s_ldNf, List.drop_zero, List.take_succ_cons, List.take_zero, List.take_nil, List.take_length, Nat.mul_one, List.flatten_cons, List.flatten_nil, List.append_nil, List.nil_append, List.cons_append]
  refine Ok.step (readX h.mi hc h.now (at_ := (wds r : Int) + 2 + slot) (by omega) (by omega)) fun q ⟨p1, M1, p2, p3, p4⟩ => ?_
  obtain ⟨q, σ1⟩ := q
  simp only at p1 p2 p4
  subst p1
  simp (config := { maxSteps := 2000000 }) -implicitDefEqProofs (disch := (first | omega | rfl | assumption | (simp only [put_next, bump_next, kill_next, List.length_cons, List.length_nil, List.mem_cons, List.not_mem_nil, or_false, not_false_eq_true]; first | omega | assumption))) only [Nat.reduceAdd, Nat.reduceMul, Nat.reduceLT, Int.reduceToNat, Int.reduceAdd, Int.reduceSub, Int.reduceMul, s_beq, List.length_cons, List.length_nil, List.getD_cons_zero, List.getD_cons_succ, List.getElem?_cons_zero, List.getElem?_cons_succ, Option.bind_some, Option.bind_assoc, s_bindN, asI_i, asB_b, asS_s, asP_p, asPS_p, asSl_sl, s_agg, s_tup, s_fn, joinB, joinI, joinR, beq_true, beq_false, Bool.not_true, Bool.not_false, Bool.not_not, cond_true, cond_false, neI, s_mapS, bindS_inl, bindS_inr, Bool.and_true, Bool.true_and, Bool.and_false, Bool.false_and, s_isNoneS, s_isNoneN, s_ref, s_adv, s_ldf, s_ld, s_ldM, s_st, s_stM, s_bs, s_bn, s_pp, bump_blk, bump_next, put_next, splice_z, splice_zz, splice_s, s_decT, s_decF, s_eqT, s_eqF, s_i64, s_u64, s_u8, Int.toNat_natCast, Nat.zero_add, s_room, s_chkT, s_rdSl, s_wrSl, s_ldN, s_ldNM, s_ldNf, List.drop_zero, List.take_succ_cons, List.take_zero, List.take_nil, List.take_length, Nat.mul_one, List.flatten_cons, List.flatten_nil, List.append_nil, List.nil_append, List.cons_append]
  have t0 : ((wds r : Int) + 2 + slot).toNat = wds r + 2 + slot.toNat := by omega
  have hf : slot.toNat < f.length := by omega
  have hx := List.getElem?_eq_getElem hf
  have hpre := h.pre
  rw [hL] at hpre
  have hv := (lay_at hpre).2.2 _ _ hx
  refine Ok_some.2 ⟨?_, M1, { h with mi := p2, b := p4.head.trans h.b, now := p3.words h.now }, p3, p4.tail⟩
  rw [t0, List.getD_eq_getElem?_getD, hv, List.getD_eq_getElem?_getD, hx]
end
end Go.Abs.Try
