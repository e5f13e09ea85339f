/-
  The statement SemiTurns: what is run returns true. No conditions.
-/
import Derived.Test.YtjfblnpolgoojaaL14a
set_option linter.unusedVariables false
set_option linter.unusedSimpArgs false
set_option linter.constructorNameAsVariable false
set_option linter.unusedSimpArgs false
set_option linter.unusedVariables false
set_option linter.unusedSectionVars false
set_option maxHeartbeats 4000000
namespace Go.Abs.Try
open Go Go.Abs
variable {O : Type}

theorem SemAt.chg {σ σ' : AH O} {sb mb : Nat} {F L : List Nat} {S : SemS} {w : List Int} (h : SemAt σ sb mb F S w) (hc : Chg L σ σ') (hd : ∀ b ∈ sb :: F, b ∉ L) : SemAt σ' sb mb F S w :=
  ⟨h.m.chg hc fun b hb => hd b (List.mem_cons_of_mem _ hb), h.ok, (hc.blk sb h.lt (hd sb List.mem_cons_self)).trans h.b, h.nf, Nat.lt_of_lt_of_le h.lt hc.next, h.now, h.top⟩
def p8 (p : Int × Int) : List AV := [.i .u8 p.1, .i .u8 p.2]
theorem p8_len (p : Int × Int) : (p8 p).length = 2 := rfl
/-- the words are written, so many of them -/
structure T1 (σ : AH O) (sb mb : Nat) (F : List Nat) (S : SemS) (w ws : List Int) (k : Nat) : Prop where
  s : SemAt σ sb mb F S w
  len : w.length = ws.length
  pre : ∀ i, i < k → w[i]? = ws[i]?
  top : S.top = ws.length
  id : S.id = 0
  turn : S.turn = false
  sp : S.M.sp = [(true, w)]
  cnt : S.M.count = 1
  r : S.M.met.r ≤ 0
  wm : S.M.met.w ≤ k
/-- the words W were moved -/
structure T2 (σ : AH O) (sb mb : Nat) (F : List Nat) (S : SemS) (w ws : List Int) (room : Int) (a : SA) (W : List Int) (i : Nat) : Prop where
  s : SemAt σ sb mb F S w
  o : OldW S ws
  len : (w.length : Int) = room
  pre : w.take W.length = W
  top : S.top = W.length
  id : S.id = 1
  oid : S.oid = 0
  otop : S.otop = ws.length
  sp : S.M.sp = [(true, ws), (true, w)]
  r : S.M.met.r ≤ 60 * i
  wm : S.M.met.w ≤ 60 + 60 * i
  own : OwnS σ T_uint64 1 a W.length (u64s W)
  ap : ∀ b ∈ SA.bk a, b ≠ sb ∧ b ∉ F
theorem turns_w {σ : AH O} {sb mb : Nat} {F : List Nat} {S : SemS} {w ws : List Int} {sa : SA} (hi : Imm 1 sa ws.length (ws.map (AV.i .u64))) (hl : ws.length ≤ 60) (h : T1 σ sb mb F S w ws 0) :
    Ok (loopF (S := List AV × AH O) (T := List AV × AH O) (law14_SemiTurns_L1 (sa, ws.length) semi_Semi__Write (some (.n sb, 0))) ([.i .i64 0], σ)) fun r => ∃ σ' F' S', r = ([], σ') ∧ T1 σ' sb mb F' S' ws ws ws.length := by
  refine Ok.count ws.length (fun k s => ∃ σ' F' S' w', s = ([.i .i64 (k : Int)], σ') ∧ T1 σ' sb mb F' S' w' ws k) ?_ ?_ ⟨σ, F, S, w, rfl, h⟩
  · rintro k s hk ⟨σ1, F1, S1, w1, rfl, h1⟩
    have hx := List.getElem?_eq_getElem hk
    obtain ⟨b, o, rfl, hld⟩ := (hi O σ1).at1 (i := k) (v := .i .u64 ws[k]) (by rw [List.getElem?_map, hx]; rfl)
    rw [Nat.mul_one] at hld
    generalize ws[k] = x at hx hld
    have hr := h1.r
    have hwm := h1.wm
    have htop := h1.top
    simp (config := { maxSteps := 2000000 }) -implicitDefEqProofs (disch := (first | omega | rfl | assumption | (simp only [put_next, bump_next, kill_next, List.length_cons, List.length_nil, List.mem_cons, List.not_mem_nil, or_false, not_false_eq_true]; first | omega | assumption))) only [law14_SemiTurns_L1, hld, Nat.reduceAdd, Nat.reduceMul, Nat.reduceLT, Int.reduceToNat, Int.reduceAdd, Int.reduceSub, Int.reduceMul, s_beq, List.length_cons, List.length_nil, List.getD_cons_zero, List.getD_cons_succ, List.getElem?_cons_zero, List.getElem?_cons_succ, Option.bind_some, Option.bind_assoc, s_bindN, asI_i, asB_b, asS_s, asP_p, asPS_p, asSl_sl, s_agg, s_tup, s_fn, joinB, joinI, joinR, beq_true, beq_false, Bool.not_true, Bool.not_false, Bool.not_not, cond_true, cond_false, neI, s_mapS, bindS_inl, bindS_inr, Bool.and_true, Bool.true_and, Bool.and_false, Bool.false_and, s_isNoneS, s_isNoneN, s_ref, s_adv, s_ldf, s_ld, s_ldM, s_st, s_stM, s_bs, s_bn, s_pp, bump_blk, bump_next, put_next, splice_z, splice_zz, splice_s, s_decT, s_decF, s_eqT, s_eqF, s_i64, s_u64, s_u8, Int.toNat_natCast, Nat.zero_add, s_room, s_chkT, s_rdSl, s_wrSl, s_ldN, s_ldNM, s_ldNf, List.drop_zero, List.take_succ_cons, List.take_zero, List.take_nil, List.take_length, Nat.mul_one, List.flatten_cons, List.flatten_nil, List.append_nil, List.nil_append, List.cons_append]
    refine Ok.step (swrite_ok h1.s ⟨by omega, by omega⟩ (at_ := (k : Int)) (x := x) (by omega) (by omega)) fun r ⟨k1, F3, k2, k3, k4⟩ => ?_
    obtain ⟨q, σ3⟩ := r
    simp only at k1 k2 k4
    subst k1
    simp (config := { maxSteps := 2000000 }) -implicitDefEqProofs (disch := (first | omega | rfl | assumption | (simp only [put_next, bump_next, kill_next, List.length_cons, List.length_nil, List.mem_cons, List.not_mem_nil, or_false, not_false_eq_true]; first | omega | assumption))) only [Nat.reduceAdd, Nat.reduceMul, Nat.reduceLT, Int.reduceToNat, Int.reduceAdd, Int.reduceSub, Int.reduceMul, s_beq, List.length_cons, List.length_nil, List.getD_cons_zero, List.getD_cons_succ, List.getElem?_cons_zero, List.getElem?_cons_succ, Option.bind_some, Option.bind_assoc, s_bindN, asI_i, asB_b, asS_s, asP_p, asPS_p, asSl_sl, s_agg, s_tup, s_fn, joinB, joinI, joinR, beq_true, beq_false, Bool.not_true, Bool.not_false, Bool.not_not, cond_true, cond_false, neI, s_mapS, bindS_inl, bindS_inr, Bool.and_true, Bool.true_and, Bool.and_false, Bool.false_and, s_isNoneS, s_isNoneN, s_ref, s_adv, s_ldf, s_ld, s_ldM, s_st, s_stM, s_bs, s_bn, s_pp, bump_blk, bump_next, put_next, splice_z, splice_zz, splice_s, s_decT, s_decF, s_eqT, s_eqF, s_i64, s_u64, s_u8, Int.toNat_natCast, Nat.zero_add, s_room, s_chkT, s_rdSl, s_wrSl, s_ldN, s_ldNM, s_ldNf, List.drop_zero, List.take_succ_cons, List.take_zero, List.take_nil, List.take_length, Nat.mul_one, List.flatten_cons, List.flatten_nil, List.append_nil, List.nil_append, List.cons_append]
    rw [Int.toNat_natCast] at k2
    refine Ok_some.2 ⟨σ3, F3, _, _, by simp, k2, by rw [List.length_set]; exact h1.len, fun i hi => ?_, h1.top, h1.id, h1.turn, ?_, h1.cnt, hr, ?_⟩
    · rw [List.getElem?_set]
      have hlen := h1.len
      by_cases hki : k = i
      · subst hki; rw [if_pos rfl, if_pos (by omega), hx]
      · rw [if_neg hki]; exact h1.pre i (by omega)
    · simp only [MemS.put, MemS.wr, h1.id, h1.sp]; rfl
    · simp only [MemS.put, MemS.wr]; omega
  · rintro s ⟨σ1, F1, S1, w1, rfl, h1⟩
    simp (config := { maxSteps := 2000000 }) -implicitDefEqProofs (disch := (first | omega | rfl | assumption | (simp only [put_next, bump_next, kill_next, List.length_cons, List.length_nil, List.mem_cons, List.not_mem_nil, or_false, not_false_eq_true]; first | omega | assumption))) only [law14_SemiTurns_L1, Nat.reduceAdd, Nat.reduceMul, Nat.reduceLT, Int.reduceToNat, Int.reduceAdd, Int.reduceSub, Int.reduceMul, s_beq, List.length_cons, List.length_nil, List.getD_cons_zero, List.getD_cons_succ, List.getElem?_cons_zero, List.getElem?_cons_succ, Option.bind_some, Option.bind_assoc, s_bindN, asI_i, asB_b, asS_s, asP_p, asPS_p, asSl_sl, s_agg, s_tup, s_fn, joinB, joinI, joinR, beq_true, beq_false, Bool.not_true, Bool.not_false, Bool.not_not, cond_true, cond_false, neI, s_mapS, bindS_inl, bindS_inr, Bool.and_true, Bool.true_and, Bool.and_false, Bool.false_and, s_isNoneS, s_isNoneN, s_ref, s_adv, s_ldf, s_ld, s_ldM, s_st, s_stM, s_bs, s_bn, s_pp, bump_blk, bump_next, put_next, splice_z, splice_zz, splice_s, s_decT, s_decF, s_eqT, s_eqF, s_i64, s_u64, s_u8, Int.toNat_natCast, Nat.zero_add, s_room, s_chkT, s_rdSl, s_wrSl, s_ldN, s_ldNM, s_ldNf, List.drop_zero, List.take_succ_cons, List.take_zero, List.take_nil, List.take_length, Nat.mul_one, List.flatten_cons, List.flatten_nil, List.append_nil, List.nil_append, List.cons_append]
    have : w1 = ws := List.ext_getElem? fun i => by
      by_cases hi : i < ws.length
      · exact h1.pre i hi
      · rw [List.getElem?_eq_none (by have := h1.len; omega), List.getElem?_eq_none (by omega)]
    subst this
    exact Ok_some.2 ⟨σ1, F1, S1, rfl, h1⟩
theorem turns_m {σ : AH O} {sb mb : Nat} {F : List Nat} {S : SemS} {w ws : List Int} {room : Int} {sa sp : SA} {ps : List (Int × Int)} (hi : Imm 1 sa ws.length (ws.map (AV.i .u64))) (hj : Imm 2 sp ps.length (ps.flatMap p8)) (hp : ∀ p ∈ ps, 0 ≤ p.1 ∧ p.1 < 256 ∧ 0 ≤ p.2 ∧ p.2 < 256)
    (hl : ws.length ≤ 60) (hlp : ps.length ≤ 20) (hroom : 0 ≤ room ∧ room ≤ 400) (h : T2 σ sb mb F S w ws room .nil [] 0) :
    Ok (loopF (S := List AV × AH O) (T := (List AV × AH O) ⊕ (AV × AH O)) (law14_SemiTurns_L2 (sp, ps.length) (sa, ws.length) semi_Semi__Move (some (.n sb, 0)) room) ([.sl .nil 0, .i .i64 0], σ)) fun r => ∃ σ' F' S' w' a W, r = .inl ([.sl a W.length], σ') ∧ T2 σ' sb mb F' S' w' ws room a W ps.length := by
  refine Ok.loop (fun n s => ∃ i σ' F' S' w' a W, n = ps.length - i ∧ i ≤ ps.length ∧ s = ([.sl a W.length, .i .i64 (i : Int)], σ') ∧ T2 σ' sb mb F' S' w' ws room a W i) ?_ ps.length _ ⟨0, σ, F, S, w, .nil, [], by omega, by omega, rfl, h⟩
  rintro n s ⟨i, σ1, F1, S1, w1, a, W, rfl, hile, rfl, h1⟩
  have out : ∀ j, i ≤ j → j ≤ 20 → T2 σ1 sb mb F1 S1 w1 ws room a W j := fun j hj _ => { h1 with r := by have := h1.r; omega, wm := by have := h1.wm; omega }
  by_cases ci : i = ps.length
  · simp (config := { maxSteps := 2000000 }) -implicitDefEqProofs (disch := (first | omega | rfl | assumption | (simp only [put_next, bump_next, kill_next, List.length_cons, List.length_nil, List.mem_cons, List.not_mem_nil, or_false, not_false_eq_true]; first | omega | assumption))) only [law14_SemiTurns_L2, Nat.reduceAdd, Nat.reduceMul, Nat.reduceLT, Int.reduceToNat, Int.reduceAdd, Int.reduceSub, Int.reduceMul, s_beq, List.length_cons, List.length_nil, List.getD_cons_zero, List.getD_cons_succ, List.getElem?_cons_zero, List.getElem?_cons_succ, Option.bind_some, Option.bind_assoc, s_bindN, asI_i, asB_b, asS_s, asP_p, asPS_p, asSl_sl, s_agg, s_tup, s_fn, joinB, joinI, joinR, beq_true, beq_false, Bool.not_true, Bool.not_false, Bool.not_not, cond_true, cond_false, neI, s_mapS, bindS_inl, bindS_inr, Bool.and_true, Bool.true_and, Bool.and_false, Bool.false_and, s_isNoneS, s_isNoneN, s_ref, s_adv, s_ldf, s_ld, s_ldM, s_st, s_stM, s_bs, s_bn, s_pp, bump_blk, bump_next, put_next, splice_z, splice_zz, splice_s, s_decT, s_decF, s_eqT, s_eqF, s_i64, s_u64, s_u8, Int.toNat_natCast, Nat.zero_add, s_room, s_chkT, s_rdSl, s_wrSl, s_ldN, s_ldNM, s_ldNf, List.drop_zero, List.take_succ_cons, List.take_zero, List.take_nil, List.take_length, Nat.mul_one, List.flatten_cons, List.flatten_nil, List.append_nil, List.nil_append, List.cons_append]
    exact Ok_some.2 ⟨σ1, F1, S1, w1, a, W, rfl, out _ hile hlp⟩
  by_cases cn : ws.length = 0
  · simp (config := { maxSteps := 2000000 }) -implicitDefEqProofs (disch := (first | omega | rfl | assumption | (simp only [put_next, bump_next, kill_next, List.length_cons, List.length_nil, List.mem_cons, List.not_mem_nil, or_false, not_false_eq_true]; first | omega | assumption))) only [law14_SemiTurns_L2, Nat.reduceAdd, Nat.reduceMul, Nat.reduceLT, Int.reduceToNat, Int.reduceAdd, Int.reduceSub, Int.reduceMul, s_beq, List.length_cons, List.length_nil, List.getD_cons_zero, List.getD_cons_succ, List.getElem?_cons_zero, List.getElem?_cons_succ, Option.bind_some, Option.bind_assoc, s_bindN, asI_i, asB_b, asS_s, asP_p, asPS_p, asSl_sl, s_agg, s_tup, s_fn, joinB, joinI, joinR, beq_true, beq_false, Bool.not_true, Bool.not_false, Bool.not_not, cond_true, cond_false, neI, s_mapS, bindS_inl, bindS_inr, Bool.and_true, Bool.true_and, Bool.and_false, Bool.false_and, s_isNoneS, s_isNoneN, s_ref, s_adv, s_ldf, s_ld, s_ldM, s_st, s_stM, s_bs, s_bn, s_pp, bump_blk, bump_next, put_next, splice_z, splice_zz, splice_s, s_decT, s_decF, s_eqT, s_eqF, s_i64, s_u64, s_u8, Int.toNat_natCast, Nat.zero_add, s_room, s_chkT, s_rdSl, s_wrSl, s_ldN, s_ldNM, s_ldNf, List.drop_zero, List.take_succ_cons, List.take_zero, List.take_nil, List.take_length, Nat.mul_one, List.flatten_cons, List.flatten_nil, List.append_nil, List.nil_append, List.cons_append]
    exact Ok_some.2 ⟨σ1, F1, S1, w1, a, W, rfl, out _ hile hlp⟩
  have hk : i < ps.length := by omega
  have hx := List.getElem?_eq_getElem hk
  have hpk := hp _ (List.mem_of_getElem? hx)
  generalize ps[i] = p at hx hpk
  obtain ⟨b, o, rfl, hld⟩ := Imm.row p8_len hj hx (by omega)
  have ld0 := hld O σ1 0 (by omega)
  have ld1 := hld O σ1 1 (by omega)
  simp only [p8, List.getElem?_cons_zero, List.getElem?_cons_succ, Nat.add_zero] at ld0 ld1
  obtain ⟨A, hA⟩ : ∃ A, Int.tmod p.1 (ws.length : Int) = A := ⟨_, rfl⟩
  have hA1 : 0 ≤ A ∧ A < ws.length := by
    rw [Int.tmod_eq_emod_of_nonneg hpk.1] at hA
    have := Int.emod_nonneg p.1 (show (ws.length : Int) ≠ 0 by omega)
    have := Int.emod_lt_of_pos p.1 (show (0 : Int) < ws.length by omega)
    omega
  obtain ⟨B, hB⟩ : ∃ B, Int.tmod p.2 ((ws.length : Int) - A) = B := ⟨_, rfl⟩
  have hB1 : 0 ≤ B ∧ B < (ws.length : Int) - A := by
    rw [Int.tmod_eq_emod_of_nonneg hpk.2.2.1] at hB
    have := Int.emod_nonneg p.2 (show (ws.length : Int) - A ≠ 0 by omega)
    have := Int.emod_lt_of_pos p.2 (show (0 : Int) < (ws.length : Int) - A by omega)
    omega
  have hlen := h1.len
  have htop := h1.top
  have ht2 := h1.s.top
  have hot := h1.otop
  have hr := h1.r
  have hwm := h1.wm
  by_cases cf : (W.length : Int) + (1 + B) > room
  · simp (config := { maxSteps := 2000000 }) -implicitDefEqProofs (disch := (first | omega | rfl | assumption | (simp only [put_next, bump_next, kill_next, List.length_cons, List.length_nil, List.mem_cons, List.not_mem_nil, or_false, not_false_eq_true]; first | omega | assumption))) only [law14_SemiTurns_L2, ld0, ld1, hA, hB, Nat.reduceAdd, Nat.reduceMul, Nat.reduceLT, Int.reduceToNat, Int.reduceAdd, Int.reduceSub, Int.reduceMul, s_beq, List.length_cons, List.length_nil, List.getD_cons_zero, List.getD_cons_succ, List.getElem?_cons_zero, List.getElem?_cons_succ, Option.bind_some, Option.bind_assoc, s_bindN, asI_i, asB_b, asS_s, asP_p, asPS_p, asSl_sl, s_agg, s_tup, s_fn, joinB, joinI, joinR, beq_true, beq_false, Bool.not_true, Bool.not_false, Bool.not_not, cond_true, cond_false, neI, s_mapS, bindS_inl, bindS_inr, Bool.and_true, Bool.true_and, Bool.and_false, Bool.false_and, s_isNoneS, s_isNoneN, s_ref, s_adv, s_ldf, s_ld, s_ldM, s_st, s_stM, s_bs, s_bn, s_pp, bump_blk, bump_next, put_next, splice_z, splice_zz, splice_s, s_decT, s_decF, s_eqT, s_eqF, s_i64, s_u64, s_u8, Int.toNat_natCast, Nat.zero_add, s_room, s_chkT, s_rdSl, s_wrSl, s_ldN, s_ldNM, s_ldNf, List.drop_zero, List.take_succ_cons, List.take_zero, List.take_nil, List.take_length, Nat.mul_one, List.flatten_cons, List.flatten_nil, List.append_nil, List.nil_append, List.cons_append]
    refine Ok.bindS (Q := fun r => ∃ σ2, r = .inl ([.sl a W.length], σ2) ∧ Ext σ1 σ2) ?_ ?_ (fun r h => by obtain ⟨_, e, _⟩ := h; cases e)
    · refine Ok.step (smove_full h1.s h1.o ⟨by omega, by omega⟩ (at_ := A) (n := 1 + B) (by omega) (by omega) (by omega) (by omega)) fun r ⟨k1, k2⟩ => ?_
      obtain ⟨q, σ2⟩ := r
      simp only at k1 k2
      subst k1
      have e3 : ((3 : Int) != 3) = false := rfl
      simp (config := { maxSteps := 2000000 }) -implicitDefEqProofs (disch := (first | omega | rfl | assumption | (simp only [put_next, bump_next, kill_next, List.length_cons, List.length_nil, List.mem_cons, List.not_mem_nil, or_false, not_false_eq_true]; first | omega | assumption))) only [e3, Nat.reduceAdd, Nat.reduceMul, Nat.reduceLT, Int.reduceToNat, Int.reduceAdd, Int.reduceSub, Int.reduceMul, s_beq, List.length_cons, List.length_nil, List.getD_cons_zero, List.getD_cons_succ, List.getElem?_cons_zero, List.getElem?_cons_succ, Option.bind_some, Option.bind_assoc, s_bindN, asI_i, asB_b, asS_s, asP_p, asPS_p, asSl_sl, s_agg, s_tup, s_fn, joinB, joinI, joinR, beq_true, beq_false, Bool.not_true, Bool.not_false, Bool.not_not, cond_true, cond_false, neI, s_mapS, bindS_inl, bindS_inr, Bool.and_true, Bool.true_and, Bool.and_false, Bool.false_and, s_isNoneS, s_isNoneN, s_ref, s_adv, s_ldf, s_ld, s_ldM, s_st, s_stM, s_bs, s_bn, s_pp, bump_blk, bump_next, put_next, splice_z, splice_zz, splice_s, s_decT, s_decF, s_eqT, s_eqF, s_i64, s_u64, s_u8, Int.toNat_natCast, Nat.zero_add, s_room, s_chkT, s_rdSl, s_wrSl, s_ldN, s_ldNM, s_ldNf, List.drop_zero, List.take_succ_cons, List.take_zero, List.take_nil, List.take_length, Nat.mul_one, List.flatten_cons, List.flatten_nil, List.append_nil, List.nil_append, List.cons_append]
      exact Ok_some.2 ⟨σ2, rfl, k2⟩
    · rintro _ ⟨σ2, e, k2⟩
      cases e
      simp (config := { maxSteps := 2000000 }) -implicitDefEqProofs (disch := (first | omega | rfl | assumption | (simp only [put_next, bump_next, kill_next, List.length_cons, List.length_nil, List.mem_cons, List.not_mem_nil, or_false, not_false_eq_true]; first | omega | assumption))) only [Nat.reduceAdd, Nat.reduceMul, Nat.reduceLT, Int.reduceToNat, Int.reduceAdd, Int.reduceSub, Int.reduceMul, s_beq, List.length_cons, List.length_nil, List.getD_cons_zero, List.getD_cons_succ, List.getElem?_cons_zero, List.getElem?_cons_succ, Option.bind_some, Option.bind_assoc, s_bindN, asI_i, asB_b, asS_s, asP_p, asPS_p, asSl_sl, s_agg, s_tup, s_fn, joinB, joinI, joinR, beq_true, beq_false, Bool.not_true, Bool.not_false, Bool.not_not, cond_true, cond_false, neI, s_mapS, bindS_inl, bindS_inr, Bool.and_true, Bool.true_and, Bool.and_false, Bool.false_and, s_isNoneS, s_isNoneN, s_ref, s_adv, s_ldf, s_ld, s_ldM, s_st, s_stM, s_bs, s_bn, s_pp, bump_blk, bump_next, put_next, splice_z, splice_zz, splice_s, s_decT, s_decF, s_eqT, s_eqF, s_i64, s_u64, s_u8, Int.toNat_natCast, Nat.zero_add, s_room, s_chkT, s_rdSl, s_wrSl, s_ldN, s_ldNM, s_ldNf, List.drop_zero, List.take_succ_cons, List.take_zero, List.take_nil, List.take_length, Nat.mul_one, List.flatten_cons, List.flatten_nil, List.append_nil, List.nil_append, List.cons_append]
      have hT := out (i + 1) (by omega) (by omega)
      exact Ok_some.2 ⟨ps.length - (i + 1), by omega, i + 1, σ2, F1, S1, w1, a, W, rfl, by omega, by simp, { hT with s := hT.s.ext k2, own := hT.own.of k2.next fun b hb => k2.blk b (hT.own.lt b hb) }⟩
  · simp (config := { maxSteps := 2000000 }) -implicitDefEqProofs (disch := (first | omega | rfl | assumption | (simp only [put_next, bump_next, kill_next, List.length_cons, List.length_nil, List.mem_cons, List.not_mem_nil, or_false, not_false_eq_true]; first | omega | assumption))) only [law14_SemiTurns_L2, ld0, ld1, hA, hB, Nat.reduceAdd, Nat.reduceMul, Nat.reduceLT, Int.reduceToNat, Int.reduceAdd, Int.reduceSub, Int.reduceMul, s_beq, List.length_cons, List.length_nil, List.getD_cons_zero, List.getD_cons_succ, List.getElem?_cons_zero, List.getElem?_cons_succ, Option.bind_some, Option.bind_assoc, s_bindN, asI_i, asB_b, asS_s, asP_p, asPS_p, asSl_sl, s_agg, s_tup, s_fn, joinB, joinI, joinR, beq_true, beq_false, Bool.not_true, Bool.not_false, Bool.not_not, cond_true, cond_false, neI, s_mapS, bindS_inl, bindS_inr, Bool.and_true, Bool.true_and, Bool.and_false, Bool.false_and, s_isNoneS, s_isNoneN, s_ref, s_adv, s_ldf, s_ld, s_ldM, s_st, s_stM, s_bs, s_bn, s_pp, bump_blk, bump_next, put_next, splice_z, splice_zz, splice_s, s_decT, s_decF, s_eqT, s_eqF, s_i64, s_u64, s_u8, Int.toNat_natCast, Nat.zero_add, s_room, s_chkT, s_rdSl, s_wrSl, s_ldN, s_ldNM, s_ldNf, List.drop_zero, List.take_succ_cons, List.take_zero, List.take_nil, List.take_length, Nat.mul_one, List.flatten_cons, List.flatten_nil, List.append_nil, List.nil_append, List.cons_append]
    refine Ok.bindS (Q := fun r => ∃ σ2 F2 S2 w2 a2 W2, r = .inl ([.sl a2 W2.length], σ2) ∧ T2 σ2 sb mb F2 S2 w2 ws room a2 W2 (i + 1)) ?_ ?_ (fun r h => by obtain ⟨_, _, _, _, _, _, e, _⟩ := h; cases e)
    · refine Ok.step (smove_ok h1.s h1.o ⟨by omega, by omega⟩ (at_ := A) (n := 1 + B) (by omega) (by omega) (by omega) (by omega)) fun r ⟨k1, F2, k2, k3, k4, k5⟩ => ?_
      obtain ⟨q, σ2⟩ := r
      simp only at k1 k2 k5
      rw [htop] at k1
      subst k1
      have e0 : ((0 : Int) != 0) = false := rfl
      have e1 : ((W.length : Int) != W.length) = false := by simp
      obtain ⟨a', g1, g2⟩ := hi.adv (lo := A.toNat) (m := (1 + B).toNat) (by omega)
      have g3 := (g2 O (σ2.bump 1)).rdSl
      have e2 : (A + (1 + B)).toNat - A.toNat = (1 + B).toNat := by omega
      have hv : ((ws.map (AV.i .u64)).drop (A.toNat * 1)).take ((1 + B).toNat * 1) = u64s ((ws.drop A.toNat).take (1 + B).toNat) := by simp [u64s, List.map_take, List.map_drop]
      rw [hv] at g3
      have own2 : OwnS (σ2.bump 1) T_uint64 1 a W.length (u64s W) := h1.own.of (by simp; have := k5.next; omega) fun b hb => by
        rw [bump_blk]
        exact k5.blk b (h1.own.lt b hb) (by have := h1.ap b hb; simp; exact this)
      have nb : σ2.next ∉ SA.bk a := fun hm => by have := h1.own.lt _ hm; have := k5.next; omega
      generalize hvv : (ws.drop A.toNat).take (1 + B).toNat = v at *
      have hvl : v.length = (1 + B).toNat := by rw [← hvv]; simp; omega
      simp (config := { maxSteps := 2000000 }) -implicitDefEqProofs (disch := (first | omega | rfl | assumption | (simp only [put_next, bump_next, kill_next, List.length_cons, List.length_nil, List.mem_cons, List.not_mem_nil, or_false, not_false_eq_true]; first | omega | assumption))) only [e0, e1, g1, g3, e2, Nat.reduceAdd, Nat.reduceMul, Nat.reduceLT, Int.reduceToNat, Int.reduceAdd, Int.reduceSub, Int.reduceMul, s_beq, List.length_cons, List.length_nil, List.getD_cons_zero, List.getD_cons_succ, List.getElem?_cons_zero, List.getElem?_cons_succ, Option.bind_some, Option.bind_assoc, s_bindN, asI_i, asB_b, asS_s, asP_p, asPS_p, asSl_sl, s_agg, s_tup, s_fn, joinB, joinI, joinR, beq_true, beq_false, Bool.not_true, Bool.not_false, Bool.not_not, cond_true, cond_false, neI, s_mapS, bindS_inl, bindS_inr, Bool.and_true, Bool.true_and, Bool.and_false, Bool.false_and, s_isNoneS, s_isNoneN, s_ref, s_adv, s_ldf, s_ld, s_ldM, s_st, s_stM, s_bs, s_bn, s_pp, bump_blk, bump_next, put_next, splice_z, splice_zz, splice_s, s_decT, s_decF, s_eqT, s_eqF, s_i64, s_u64, s_u8, Int.toNat_natCast, Nat.zero_add, s_room, s_chkT, s_rdSl, s_wrSl, s_ldN, s_ldNM, s_ldNf, List.drop_zero, List.take_succ_cons, List.take_zero, List.take_nil, List.take_length, Nat.mul_one, List.flatten_cons, List.flatten_nil, List.append_nil, List.nil_append, List.cons_append]
      refine Ok.step (app_ok own2 nb (by simp) (show (u64s v).length = (1 + B).toNat * 1 by rw [u64s_len]; omega)) fun r ⟨a2, q1, q2, q3, q4, q5⟩ => ?_
      obtain ⟨q, σ3⟩ := r
      simp only at q1 q2 q3 q4
      subst q1
      simp (config := { maxSteps := 2000000 }) -implicitDefEqProofs (disch := (first | omega | rfl | assumption | (simp only [put_next, bump_next, kill_next, List.length_cons, List.length_nil, List.mem_cons, List.not_mem_nil, or_false, not_false_eq_true]; first | omega | assumption))) only [Nat.reduceAdd, Nat.reduceMul, Nat.reduceLT, Int.reduceToNat, Int.reduceAdd, Int.reduceSub, Int.reduceMul, s_beq, List.length_cons, List.length_nil, List.getD_cons_zero, List.getD_cons_succ, List.getElem?_cons_zero, List.getElem?_cons_succ, Option.bind_some, Option.bind_assoc, s_bindN, asI_i, asB_b, asS_s, asP_p, asPS_p, asSl_sl, s_agg, s_tup, s_fn, joinB, joinI, joinR, beq_true, beq_false, Bool.not_true, Bool.not_false, Bool.not_not, cond_true, cond_false, neI, s_mapS, bindS_inl, bindS_inr, Bool.and_true, Bool.true_and, Bool.and_false, Bool.false_and, s_isNoneS, s_isNoneN, s_ref, s_adv, s_ldf, s_ld, s_ldM, s_st, s_stM, s_bs, s_bn, s_pp, bump_blk, bump_next, put_next, splice_z, splice_zz, splice_s, s_decT, s_decF, s_eqT, s_eqF, s_i64, s_u64, s_u8, Int.toNat_natCast, Nat.zero_add, s_room, s_chkT, s_rdSl, s_wrSl, s_ldN, s_ldNM, s_ldNf, List.drop_zero, List.take_succ_cons, List.take_zero, List.take_nil, List.take_length, Nat.mul_one, List.flatten_cons, List.flatten_nil, List.append_nil, List.nil_append, List.cons_append]
      have hWl : W.length + (1 + B).toNat = (W ++ v).length := by simp; omega
      have hch : Chg (SA.bk a) σ2 σ3 := ⟨by rw [q3]; simp, fun b hb hm => (q4 b (by omega) hm).trans (bump_blk)⟩
      have hsp : S1.M.sp = _ := h1.sp
      rw [hWl] at q2 ⊢
      refine Ok_some.2 ⟨σ3, F2, _, _, a2, W ++ v, rfl, k2.chg hch fun b hb hm => ?_, k3, ?_, ?_, ?_, h1.id, h1.oid, h1.otop, ?_, ?_, ?_, ?_, fun b hb => ?_⟩
      · have := h1.ap b hm
        rcases List.mem_cons.1 hb with g | g
        · exact this.1 g
        · rcases k4 b g with g | g
          · exact this.2 g
          · have := h1.own.lt b hm; omega
      · rw [patched_len (by rw [hvl]; omega)]; exact hlen
      · rw [htop, Int.toNat_natCast]
        have hp := h1.pre
        unfold patched
        rw [hp, List.take_left']
        rfl
      · show S1.top + (1 + B) = _
        rw [htop, ← hWl]; omega
      · show S1.M.sp.set S1.id.toNat (true, patched w1 S1.top.toNat ((ws.drop A.toNat).take (1 + B).toNat)) = _
        rw [hsp, h1.id, hvv]; rfl
      · show S1.M.met.r + (1 + B) ≤ _
        omega
      · show S1.M.met.w + (1 + B) ≤ _
        omega
      · have : u64s W ++ u64s v = u64s (W ++ v) := by simp [u64s]
        rw [← this]; exact q2
      · rw [q5 b hb]
        have := k2.lt
        exact ⟨by omega, fun hm => by have := k2.m.lt _ hm; omega⟩
    · rintro _ ⟨σ2, F2, S2, w2, a2, W2, e, h2⟩
      cases e
      simp (config := { maxSteps := 2000000 }) -implicitDefEqProofs (disch := (first | omega | rfl | assumption | (simp only [put_next, bump_next, kill_next, List.length_cons, List.length_nil, List.mem_cons, List.not_mem_nil, or_false, not_false_eq_true]; first | omega | assumption))) only [Nat.reduceAdd, Nat.reduceMul, Nat.reduceLT, Int.reduceToNat, Int.reduceAdd, Int.reduceSub, Int.reduceMul, s_beq, List.length_cons, List.length_nil, List.getD_cons_zero, List.getD_cons_succ, List.getElem?_cons_zero, List.getElem?_cons_succ, Option.bind_some, Option.bind_assoc, s_bindN, asI_i, asB_b, asS_s, asP_p, asPS_p, asSl_sl, s_agg, s_tup, s_fn, joinB, joinI, joinR, beq_true, beq_false, Bool.not_true, Bool.not_false, Bool.not_not, cond_true, cond_false, neI, s_mapS, bindS_inl, bindS_inr, Bool.and_true, Bool.true_and, Bool.and_false, Bool.false_and, s_isNoneS, s_isNoneN, s_ref, s_adv, s_ldf, s_ld, s_ldM, s_st, s_stM, s_bs, s_bn, s_pp, bump_blk, bump_next, put_next, splice_z, splice_zz, splice_s, s_decT, s_decF, s_eqT, s_eqF, s_i64, s_u64, s_u8, Int.toNat_natCast, Nat.zero_add, s_room, s_chkT, s_rdSl, s_wrSl, s_ldN, s_ldNM, s_ldNf, List.drop_zero, List.take_succ_cons, List.take_zero, List.take_nil, List.take_length, Nat.mul_one, List.flatten_cons, List.flatten_nil, List.append_nil, List.nil_append, List.cons_append]
      exact Ok_some.2 ⟨ps.length - (i + 1), by omega, i + 1, σ2, F2, S2, w2, a2, W2, rfl, by omega, by simp, h2⟩

theorem semiTurns_ok {σ : AH O} {sa sp : SA} {ws : List Int} {ps : List (Int × Int)} {more : Int} (hi : Imm 1 sa ws.length (ws.map (AV.i .u64))) (hj : Imm 2 sp ps.length (ps.flatMap p8)) (hp : ∀ p ∈ ps, 0 ≤ p.1 ∧ p.1 < 256 ∧ 0 ≤ p.2 ∧ p.2 < 256) (hm : 0 ≤ more ∧ more ≤ 255) :
    Ok (law14_SemiTurns [.sl sa ws.length, .sl sp ps.length, .i .u8 more] σ) fun r => r.1 = .b true := by
  by_cases hbig : (ws.length : Int) > 60
  · simp (config := { maxSteps := 2000000 }) -implicitDefEqProofs (disch := (first | omega | rfl | assumption | (simp only [put_next, bump_next, kill_next, List.length_cons, List.length_nil, List.mem_cons, List.not_mem_nil, or_false, not_false_eq_true]; first | omega | assumption))) only [law14_SemiTurns, law14_SemiTurns_c, Nat.reduceAdd, Nat.reduceMul, Nat.reduceLT, Int.reduceToNat, Int.reduceAdd, Int.reduceSub, Int.reduceMul, s_beq, List.length_cons, List.length_nil, List.getD_cons_zero, List.getD_cons_succ, List.getElem?_cons_zero, List.getElem?_cons_succ, Option.bind_some, Option.bind_assoc, s_bindN, asI_i, asB_b, asS_s, asP_p, asPS_p, asSl_sl, s_agg, s_tup, s_fn, joinB, joinI, joinR, beq_true, beq_false, Bool.not_true, Bool.not_false, Bool.not_not, cond_true, cond_false, neI, s_mapS, bindS_inl, bindS_inr, Bool.and_true, Bool.true_and, Bool.and_false, Bool.false_and, s_isNoneS, s_isNoneN, s_ref, s_adv, s_ldf, s_ld, s_ldM, s_st, s_stM, s_bs, s_bn, s_pp, bump_blk, bump_next, put_next, splice_z, splice_zz, splice_s, s_decT, s_decF, s_eqT, s_eqF, s_i64, s_u64, s_u8, Int.toNat_natCast, Nat.zero_add, s_room, s_chkT, s_rdSl, s_wrSl, s_ldN, s_ldNM, s_ldNf, List.drop_zero, List.take_succ_cons, List.take_zero, List.take_nil, List.take_length, Nat.mul_one, List.flatten_cons, List.flatten_nil, List.append_nil, List.nil_append, List.cons_append]
    refine Ok.step awake14_ok fun r ⟨g1, g2⟩ => ?_
    obtain ⟨q, σ1⟩ := r
    simp only at g1 g2
    subst g1
    simp (config := { maxSteps := 2000000 }) -implicitDefEqProofs (disch := (first | omega | rfl | assumption | (simp only [put_next, bump_next, kill_next, List.length_cons, List.length_nil, List.mem_cons, List.not_mem_nil, or_false, not_false_eq_true]; first | omega | assumption))) only [Nat.reduceAdd, Nat.reduceMul, Nat.reduceLT, Int.reduceToNat, Int.reduceAdd, Int.reduceSub, Int.reduceMul, s_beq, List.length_cons, List.length_nil, List.getD_cons_zero, List.getD_cons_succ, List.getElem?_cons_zero, List.getElem?_cons_succ, Option.bind_some, Option.bind_assoc, s_bindN, asI_i, asB_b, asS_s, asP_p, asPS_p, asSl_sl, s_agg, s_tup, s_fn, joinB, joinI, joinR, beq_true, beq_false, Bool.not_true, Bool.not_false, Bool.not_not, cond_true, cond_false, neI, s_mapS, bindS_inl, bindS_inr, Bool.and_true, Bool.true_and, Bool.and_false, Bool.false_and, s_isNoneS, s_isNoneN, s_ref, s_adv, s_ldf, s_ld, s_ldM, s_st, s_stM, s_bs, s_bn, s_pp, bump_blk, bump_next, put_next, splice_z, splice_zz, splice_s, s_decT, s_decF, s_eqT, s_eqF, s_i64, s_u64, s_u8, Int.toNat_natCast, Nat.zero_add, s_room, s_chkT, s_rdSl, s_wrSl, s_ldN, s_ldNM, s_ldNf, List.drop_zero, List.take_succ_cons, List.take_zero, List.take_nil, List.take_length, Nat.mul_one, List.flatten_cons, List.flatten_nil, List.append_nil, List.nil_append, List.cons_append]
    exact Ok_some.2 rfl
  by_cases hbig2 : (ps.length : Int) > 20
  · simp (config := { maxSteps := 2000000 }) -implicitDefEqProofs (disch := (first | omega | rfl | assumption | (simp only [put_next, bump_next, kill_next, List.length_cons, List.length_nil, List.mem_cons, List.not_mem_nil, or_false, not_false_eq_true]; first | omega | assumption))) only [law14_SemiTurns, law14_SemiTurns_c, Nat.reduceAdd, Nat.reduceMul, Nat.reduceLT, Int.reduceToNat, Int.reduceAdd, Int.reduceSub, Int.reduceMul, s_beq, List.length_cons, List.length_nil, List.getD_cons_zero, List.getD_cons_succ, List.getElem?_cons_zero, List.getElem?_cons_succ, Option.bind_some, Option.bind_assoc, s_bindN, asI_i, asB_b, asS_s, asP_p, asPS_p, asSl_sl, s_agg, s_tup, s_fn, joinB, joinI, joinR, beq_true, beq_false, Bool.not_true, Bool.not_false, Bool.not_not, cond_true, cond_false, neI, s_mapS, bindS_inl, bindS_inr, Bool.and_true, Bool.true_and, Bool.and_false, Bool.false_and, s_isNoneS, s_isNoneN, s_ref, s_adv, s_ldf, s_ld, s_ldM, s_st, s_stM, s_bs, s_bn, s_pp, bump_blk, bump_next, put_next, splice_z, splice_zz, splice_s, s_decT, s_decF, s_eqT, s_eqF, s_i64, s_u64, s_u8, Int.toNat_natCast, Nat.zero_add, s_room, s_chkT, s_rdSl, s_wrSl, s_ldN, s_ldNM, s_ldNf, List.drop_zero, List.take_succ_cons, List.take_zero, List.take_nil, List.take_length, Nat.mul_one, List.flatten_cons, List.flatten_nil, List.append_nil, List.nil_append, List.cons_append]
    refine Ok.step awake14_ok fun r ⟨g1, g2⟩ => ?_
    obtain ⟨q, σ1⟩ := r
    simp only at g1 g2
    subst g1
    simp (config := { maxSteps := 2000000 }) -implicitDefEqProofs (disch := (first | omega | rfl | assumption | (simp only [put_next, bump_next, kill_next, List.length_cons, List.length_nil, List.mem_cons, List.not_mem_nil, or_false, not_false_eq_true]; first | omega | assumption))) only [Nat.reduceAdd, Nat.reduceMul, Nat.reduceLT, Int.reduceToNat, Int.reduceAdd, Int.reduceSub, Int.reduceMul, s_beq, List.length_cons, List.length_nil, List.getD_cons_zero, List.getD_cons_succ, List.getElem?_cons_zero, List.getElem?_cons_succ, Option.bind_some, Option.bind_assoc, s_bindN, asI_i, asB_b, asS_s, asP_p, asPS_p, asSl_sl, s_agg, s_tup, s_fn, joinB, joinI, joinR, beq_true, beq_false, Bool.not_true, Bool.not_false, Bool.not_not, cond_true, cond_false, neI, s_mapS, bindS_inl, bindS_inr, Bool.and_true, Bool.true_and, Bool.and_false, Bool.false_and, s_isNoneS, s_isNoneN, s_ref, s_adv, s_ldf, s_ld, s_ldM, s_st, s_stM, s_bs, s_bn, s_pp, bump_blk, bump_next, put_next, splice_z, splice_zz, splice_s, s_decT, s_decF, s_eqT, s_eqF, s_i64, s_u64, s_u8, Int.toNat_natCast, Nat.zero_add, s_room, s_chkT, s_rdSl, s_wrSl, s_ldN, s_ldNM, s_ldNf, List.drop_zero, List.take_succ_cons, List.take_zero, List.take_nil, List.take_length, Nat.mul_one, List.flatten_cons, List.flatten_nil, List.append_nil, List.nil_append, List.cons_append]
    exact Ok_some.2 rfl
  simp (config := { maxSteps := 2000000 }) -implicitDefEqProofs (disch := (first | omega | rfl | assumption | (simp only [put_next, bump_next, kill_next, List.length_cons, List.length_nil, List.mem_cons, List.not_mem_nil, or_false, not_false_eq_true]; first | omega | assumption))) only [law14_SemiTurns, law14_SemiTurns_c, Nat.reduceAdd, Nat.reduceMul, Nat.reduceLT, Int.reduceToNat, Int.reduceAdd, Int.reduceSub, Int.reduceMul, s_beq, List.length_cons, List.length_nil, List.getD_cons_zero, List.getD_cons_succ, List.getElem?_cons_zero, List.getElem?_cons_succ, Option.bind_some, Option.bind_assoc, s_bindN, asI_i, asB_b, asS_s, asP_p, asPS_p, asSl_sl, s_agg, s_tup, s_fn, joinB, joinI, joinR, beq_true, beq_false, Bool.not_true, Bool.not_false, Bool.not_not, cond_true, cond_false, neI, s_mapS, bindS_inl, bindS_inr, Bool.and_true, Bool.true_and, Bool.and_false, Bool.false_and, s_isNoneS, s_isNoneN, s_ref, s_adv, s_ldf, s_ld, s_ldM, s_st, s_stM, s_bs, s_bn, s_pp, bump_blk, bump_next, put_next, splice_z, splice_zz, splice_s, s_decT, s_decF, s_eqT, s_eqF, s_i64, s_u64, s_u8, Int.toNat_natCast, Nat.zero_add, s_room, s_chkT, s_rdSl, s_wrSl, s_ldN, s_ldNM, s_ldNf, List.drop_zero, List.take_succ_cons, List.take_zero, List.take_nil, List.take_length, Nat.mul_one, List.flatten_cons, List.flatten_nil, List.append_nil, List.nil_append, List.cons_append]
  refine Ok.step awake14_ok fun r ⟨g1, g2⟩ => ?_
  obtain ⟨q, σ1⟩ := r
  simp only at g1 g2
  subst g1
  simp (config := { maxSteps := 2000000 }) -implicitDefEqProofs (disch := (first | omega | rfl | assumption | (simp only [put_next, bump_next, kill_next, List.length_cons, List.length_nil, List.mem_cons, List.not_mem_nil, or_false, not_false_eq_true]; first | omega | assumption))) only [Nat.reduceAdd, Nat.reduceMul, Nat.reduceLT, Int.reduceToNat, Int.reduceAdd, Int.reduceSub, Int.reduceMul, s_beq, List.length_cons, List.length_nil, List.getD_cons_zero, List.getD_cons_succ, List.getElem?_cons_zero, List.getElem?_cons_succ, Option.bind_some, Option.bind_assoc, s_bindN, asI_i, asB_b, asS_s, asP_p, asPS_p, asSl_sl, s_agg, s_tup, s_fn, joinB, joinI, joinR, beq_true, beq_false, Bool.not_true, Bool.not_false, Bool.not_not, cond_true, cond_false, neI, s_mapS, bindS_inl, bindS_inr, Bool.and_true, Bool.true_and, Bool.and_false, Bool.false_and, s_isNoneS, s_isNoneN, s_ref, s_adv, s_ldf, s_ld, s_ldM, s_st, s_stM, s_bs, s_bn, s_pp, bump_blk, bump_next, put_next, splice_z, splice_zz, splice_s, s_decT, s_decF, s_eqT, s_eqF, s_i64, s_u64, s_u8, Int.toNat_natCast, Nat.zero_add, s_room, s_chkT, s_rdSl, s_wrSl, s_ldN, s_ldNM, s_ldNf, List.drop_zero, List.take_succ_cons, List.take_zero, List.take_nil, List.take_length, Nat.mul_one, List.flatten_cons, List.flatten_nil, List.append_nil, List.nil_append, List.cons_append]
  refine Ok.step (made_ok (n := (ws.length : Int)) (by omega)) fun r ⟨mb, sb, F, g1, g2, g3, g4, g5, g6⟩ => ?_
  obtain ⟨q, σ2⟩ := r
  simp only at g1 g2 g6
  subst g1
  simp (config := { maxSteps := 2000000 }) -implicitDefEqProofs (disch := (first | omega | rfl | assumption | (simp only [put_next, bump_next, kill_next, List.length_cons, List.length_nil, List.mem_cons, List.not_mem_nil, or_false, not_false_eq_true]; first | omega | assumption))) only [Nat.reduceAdd, Nat.reduceMul, Nat.reduceLT, Int.reduceToNat, Int.reduceAdd, Int.reduceSub, Int.reduceMul, s_beq, List.length_cons, List.length_nil, List.getD_cons_zero, List.getD_cons_succ, List.getElem?_cons_zero, List.getElem?_cons_succ, Option.bind_some, Option.bind_assoc, s_bindN, asI_i, asB_b, asS_s, asP_p, asPS_p, asSl_sl, s_agg, s_tup, s_fn, joinB, joinI, joinR, beq_true, beq_false, Bool.not_true, Bool.not_false, Bool.not_not, cond_true, cond_false, neI, s_mapS, bindS_inl, bindS_inr, Bool.and_true, Bool.true_and, Bool.and_false, Bool.false_and, s_isNoneS, s_isNoneN, s_ref, s_adv, s_ldf, s_ld, s_ldM, s_st, s_stM, s_bs, s_bn, s_pp, bump_blk, bump_next, put_next, splice_z, splice_zz, splice_s, s_decT, s_decF, s_eqT, s_eqF, s_i64, s_u64, s_u8, Int.toNat_natCast, Nat.zero_add, s_room, s_chkT, s_rdSl, s_wrSl, s_ldN, s_ldNM, s_ldNf, List.drop_zero, List.take_succ_cons, List.take_zero, List.take_nil, List.take_length, Nat.mul_one, List.flatten_cons, List.flatten_nil, List.append_nil, List.nil_append, List.cons_append]
  rw [Int.toNat_natCast] at g2
  have b0 : T1 σ2 sb mb F (SemS.new ws.length) (List.replicate ws.length 0) ws 0 → True := fun _ => trivial
  refine Ok.step (Q := fun r => ∃ σ3 S, r = ([], σ3) ∧ T1 σ3 sb mb F S (List.replicate ws.length 0) ws 0) ?_ ?_
  · by_cases hn : ws.length = 0
    · simp (config := { maxSteps := 2000000 }) -implicitDefEqProofs (disch := (first | omega | rfl | assumption | (simp only [put_next, bump_next, kill_next, List.length_cons, List.length_nil, List.mem_cons, List.not_mem_nil, or_false, not_false_eq_true]; first | omega | assumption))) only [Nat.reduceAdd, Nat.reduceMul, Nat.reduceLT, Int.reduceToNat, Int.reduceAdd, Int.reduceSub, Int.reduceMul, s_beq, List.length_cons, List.length_nil, List.getD_cons_zero, List.getD_cons_succ, List.getElem?_cons_zero, List.getElem?_cons_succ, Option.bind_some, Option.bind_assoc, s_bindN, asI_i, asB_b, asS_s, asP_p, asPS_p, asSl_sl, s_agg, s_tup, s_fn, joinB, joinI, joinR, beq_true, beq_false, Bool.not_true, Bool.not_false, Bool.not_not, cond_true, cond_false, neI, s_mapS, bindS_inl, bindS_inr, Bool.and_true, Bool.true_and, Bool.and_false, Bool.false_and, s_isNoneS, s_isNoneN, s_ref, s_adv, s_ldf, s_ld, s_ldM, s_st, s_stM, s_bs, s_bn, s_pp, bump_blk, bump_next, put_next, splice_z, splice_zz, splice_s, s_decT, s_decF, s_eqT, s_eqF, s_i64, s_u64, s_u8, Int.toNat_natCast, Nat.zero_add, s_room, s_chkT, s_rdSl, s_wrSl, s_ldN, s_ldNM, s_ldNf, List.drop_zero, List.take_succ_cons, List.take_zero, List.take_nil, List.take_length, Nat.mul_one, List.flatten_cons, List.flatten_nil, List.append_nil, List.nil_append, List.cons_append]
      exact Ok_some.2 ⟨σ2, _, rfl, g2, by simp, fun i hi => by omega, by simp [hn, SemS.new], rfl, rfl, by simp [SemS.new, MemS.opn, MemS.new, putAt], rfl, Int.le_refl 0, Int.le_refl 0⟩
    · simp (config := { maxSteps := 2000000 }) -implicitDefEqProofs (disch := (first | omega | rfl | assumption | (simp only [put_next, bump_next, kill_next, List.length_cons, List.length_nil, List.mem_cons, List.not_mem_nil, or_false, not_false_eq_true]; first | omega | assumption))) only [Nat.reduceAdd, Nat.reduceMul, Nat.reduceLT, Int.reduceToNat, Int.reduceAdd, Int.reduceSub, Int.reduceMul, s_beq, List.length_cons, List.length_nil, List.getD_cons_zero, List.getD_cons_succ, List.getElem?_cons_zero, List.getElem?_cons_succ, Option.bind_some, Option.bind_assoc, s_bindN, asI_i, asB_b, asS_s, asP_p, asPS_p, asSl_sl, s_agg, s_tup, s_fn, joinB, joinI, joinR, beq_true, beq_false, Bool.not_true, Bool.not_false, Bool.not_not, cond_true, cond_false, neI, s_mapS, bindS_inl, bindS_inr, Bool.and_true, Bool.true_and, Bool.and_false, Bool.false_and, s_isNoneS, s_isNoneN, s_ref, s_adv, s_ldf, s_ld, s_ldM, s_st, s_stM, s_bs, s_bn, s_pp, bump_blk, bump_next, put_next, splice_z, splice_zz, splice_s, s_decT, s_decF, s_eqT, s_eqF, s_i64, s_u64, s_u8, Int.toNat_natCast, Nat.zero_add, s_room, s_chkT, s_rdSl, s_wrSl, s_ldN, s_ldNM, s_ldNf, List.drop_zero, List.take_succ_cons, List.take_zero, List.take_nil, List.take_length, Nat.mul_one, List.flatten_cons, List.flatten_nil, List.append_nil, List.nil_append, List.cons_append]
      refine Ok.step (stake_ok g2 (n := (ws.length : Int)) (by omega) (by simp [SemS.new])) fun r ⟨k1, k2, k3⟩ => ?_
      obtain ⟨q, σ3⟩ := r
      simp only at k1 k2 k3
      subst k1
      simp (config := { maxSteps := 2000000 }) -implicitDefEqProofs (disch := (first | omega | rfl | assumption | (simp only [put_next, bump_next, kill_next, List.length_cons, List.length_nil, List.mem_cons, List.not_mem_nil, or_false, not_false_eq_true]; first | omega | assumption))) only [Nat.reduceAdd, Nat.reduceMul, Nat.reduceLT, Int.reduceToNat, Int.reduceAdd, Int.reduceSub, Int.reduceMul, s_beq, List.length_cons, List.length_nil, List.getD_cons_zero, List.getD_cons_succ, List.getElem?_cons_zero, List.getElem?_cons_succ, Option.bind_some, Option.bind_assoc, s_bindN, asI_i, asB_b, asS_s, asP_p, asPS_p, asSl_sl, s_agg, s_tup, s_fn, joinB, joinI, joinR, beq_true, beq_false, Bool.not_true, Bool.not_false, Bool.not_not, cond_true, cond_false, neI, s_mapS, bindS_inl, bindS_inr, Bool.and_true, Bool.true_and, Bool.and_false, Bool.false_and, s_isNoneS, s_isNoneN, s_ref, s_adv, s_ldf, s_ld, s_ldM, s_st, s_stM, s_bs, s_bn, s_pp, bump_blk, bump_next, put_next, splice_z, splice_zz, splice_s, s_decT, s_decF, s_eqT, s_eqF, s_i64, s_u64, s_u8, Int.toNat_natCast, Nat.zero_add, s_room, s_chkT, s_rdSl, s_wrSl, s_ldN, s_ldNM, s_ldNf, List.drop_zero, List.take_succ_cons, List.take_zero, List.take_nil, List.take_length, Nat.mul_one, List.flatten_cons, List.flatten_nil, List.append_nil, List.nil_append, List.cons_append]
      exact Ok_some.2 ⟨σ3, _, rfl, k2, by simp, fun i hi => by omega, by simp [SemS.new], rfl, rfl, by simp [SemS.new, MemS.opn, MemS.new, putAt], rfl, Int.le_refl 0, Int.le_refl 0⟩
  rintro _ ⟨σ3, S, rfl, h3⟩
  refine Ok.step (turns_w hi (by omega) h3) ?_
  rintro _ ⟨σ4, F4, S4, rfl, h4⟩
  simp (config := { maxSteps := 2000000 }) -implicitDefEqProofs (disch := (first | omega | rfl | assumption | (simp only [put_next, bump_next, kill_next, List.length_cons, List.length_nil, List.mem_cons, List.not_mem_nil, or_false, not_false_eq_true]; first | omega | assumption))) only [Nat.reduceAdd, Nat.reduceMul, Nat.reduceLT, Int.reduceToNat, Int.reduceAdd, Int.reduceSub, Int.reduceMul, s_beq, List.length_cons, List.length_nil, List.getD_cons_zero, List.getD_cons_succ, List.getElem?_cons_zero, List.getElem?_cons_succ, Option.bind_some, Option.bind_assoc, s_bindN, asI_i, asB_b, asS_s, asP_p, asPS_p, asSl_sl, s_agg, s_tup, s_fn, joinB, joinI, joinR, beq_true, beq_false, Bool.not_true, Bool.not_false, Bool.not_not, cond_true, cond_false, neI, s_mapS, bindS_inl, bindS_inr, Bool.and_true, Bool.true_and, Bool.and_false, Bool.false_and, s_isNoneS, s_isNoneN, s_ref, s_adv, s_ldf, s_ld, s_ldM, s_st, s_stM, s_bs, s_bn, s_pp, bump_blk, bump_next, put_next, splice_z, splice_zz, splice_s, s_decT, s_decF, s_eqT, s_eqF, s_i64, s_u64, s_u8, Int.toNat_natCast, Nat.zero_add, s_room, s_chkT, s_rdSl, s_wrSl, s_ldN, s_ldNM, s_ldNf, List.drop_zero, List.take_succ_cons, List.take_zero, List.take_nil, List.take_length, Nat.mul_one, List.flatten_cons, List.flatten_nil, List.append_nil, List.nil_append, List.cons_append]
  have hr4 := h4.r
  have hw4 := h4.wm
  refine Ok.step (sflip_ok h4.s ⟨by omega, by omega⟩ (n := (ws.length : Int) + more) h4.turn (by omega) (by rw [h4.cnt]; decide)) fun r ⟨k1, F5, k2, k3, k4, k5⟩ => ?_
  obtain ⟨q, σ5⟩ := r
  simp only at k1 k2 k5
  subst k1
  have e0 : ((0 : Int) != 0) = false := rfl
  simp (config := { maxSteps := 2000000 }) -implicitDefEqProofs (disch := (first | omega | rfl | assumption | (simp only [put_next, bump_next, kill_next, List.length_cons, List.length_nil, List.mem_cons, List.not_mem_nil, or_false, not_false_eq_true]; first | omega | assumption))) only [e0, Nat.reduceAdd, Nat.reduceMul, Nat.reduceLT, Int.reduceToNat, Int.reduceAdd, Int.reduceSub, Int.reduceMul, s_beq, List.length_cons, List.length_nil, List.getD_cons_zero, List.getD_cons_succ, List.getElem?_cons_zero, List.getElem?_cons_succ, Option.bind_some, Option.bind_assoc, s_bindN, asI_i, asB_b, asS_s, asP_p, asPS_p, asSl_sl, s_agg, s_tup, s_fn, joinB, joinI, joinR, beq_true, beq_false, Bool.not_true, Bool.not_false, Bool.not_not, cond_true, cond_false, neI, s_mapS, bindS_inl, bindS_inr, Bool.and_true, Bool.true_and, Bool.and_false, Bool.false_and, s_isNoneS, s_isNoneN, s_ref, s_adv, s_ldf, s_ld, s_ldM, s_st, s_stM, s_bs, s_bn, s_pp, bump_blk, bump_next, put_next, splice_z, splice_zz, splice_s, s_decT, s_decF, s_eqT, s_eqF, s_i64, s_u64, s_u8, Int.toNat_natCast, Nat.zero_add, s_room, s_chkT, s_rdSl, s_wrSl, s_ldN, s_ldNM, s_ldNf, List.drop_zero, List.take_succ_cons, List.take_zero, List.take_nil, List.take_length, Nat.mul_one, List.flatten_cons, List.flatten_nil, List.append_nil, List.nil_append, List.cons_append]
  have hff : ff S4.M.sp = 1 := by rw [h4.sp]; rfl
  have h5 : T2 σ5 sb mb F5 (S4.flip ((ws.length : Int) + more)) (List.replicate ((ws.length : Int) + more).toNat 0) ws ((ws.length : Int) + more) .nil [] 0 := by
    refine ⟨k2, k3, by rw [List.length_replicate]; omega, rfl, rfl, ?_, h4.id, h4.top, ?_, ?_, ?_, OwnS.nil _ _ _, by simp [SA.bk]⟩
    · show (ff S4.M.sp : Int) = 1
      rw [hff]; rfl
    · show putAt S4.M.sp (ff S4.M.sp) _ = _
      rw [hff, h4.sp]; rfl
    · show S4.M.met.r ≤ _
      omega
    · show S4.M.met.w ≤ _
      omega
  refine Ok.bindS (turns_m hi hj hp (by omega) (by omega) (by omega) h5) ?_ (fun r h => by obtain ⟨_, _, _, _, _, _, e, _⟩ := h; cases e)
  rintro _ ⟨σ6, F6, S6, w6, a, W, e, h6⟩
  cases e
  simp (config := { maxSteps := 2000000 }) -implicitDefEqProofs (disch := (first | omega | rfl | assumption | (simp only [put_next, bump_next, kill_next, List.length_cons, List.length_nil, List.mem_cons, List.not_mem_nil, or_false, not_false_eq_true]; first | omega | assumption))) only [Nat.reduceAdd, Nat.reduceMul, Nat.reduceLT, Int.reduceToNat, Int.reduceAdd, Int.reduceSub, Int.reduceMul, s_beq, List.length_cons, List.length_nil, List.getD_cons_zero, List.getD_cons_succ, List.getElem?_cons_zero, List.getElem?_cons_succ, Option.bind_some, Option.bind_assoc, s_bindN, asI_i, asB_b, asS_s, asP_p, asPS_p, asSl_sl, s_agg, s_tup, s_fn, joinB, joinI, joinR, beq_true, beq_false, Bool.not_true, Bool.not_false, Bool.not_not, cond_true, cond_false, neI, s_mapS, bindS_inl, bindS_inr, Bool.and_true, Bool.true_and, Bool.and_false, Bool.false_and, s_isNoneS, s_isNoneN, s_ref, s_adv, s_ldf, s_ld, s_ldM, s_st, s_stM, s_bs, s_bn, s_pp, bump_blk, bump_next, put_next, splice_z, splice_zz, splice_s, s_decT, s_decF, s_eqT, s_eqF, s_i64, s_u64, s_u8, Int.toNat_natCast, Nat.zero_add, s_room, s_chkT, s_rdSl, s_wrSl, s_ldN, s_ldNM, s_ldNf, List.drop_zero, List.take_succ_cons, List.take_zero, List.take_nil, List.take_length, Nat.mul_one, List.flatten_cons, List.flatten_nil, List.append_nil, List.nil_append, List.cons_append]
  have hr6 := h6.r
  have hw6 := h6.wm
  have hmt := h6.s.ok.met
  refine Ok.step (send_ok h6.s ⟨by omega, by omega⟩ h6.o (by rw [h6.oid]; decide)) fun r ⟨p1, F7, p2, p3, p4⟩ => ?_
  obtain ⟨q, σ7⟩ := r
  simp only at p1 p2 p4
  subst p1
  have sn := send_none p2 ⟨by show S6.M.met.r < _; omega, by show S6.M.met.w < _; omega⟩ rfl
  have tp := stop_ok p2
  have tp' : (S6.fin ws).top = W.length := h6.top
  rw [tp'] at tp
  obtain ⟨tb, el, rest, hm7, hmet⟩ := p2.m.meter
  have hh := held_ok hmet
  have hheld : (S6.fin ws).M.met.held = (ws.length : Int) + more := by
    rw [p2.ok.held]
    show (((((S6.M.sp.set S6.oid.toNat (false, [])).map fun s => s.2.length).sum : Nat)) : Int) = _
    rw [h6.sp, h6.oid]
    have := h6.len
    simp; omega
  rw [hheld] at hh
  have e4 : ((4 : Int) != 4) = false := rfl
  have e5 : (((ws.length : Int) + more) != ((ws.length : Int) + more)) = false := by simp
  have e6 : ((W.length : Int) != (W.length : Int)) = false := by simp
  simp (config := { maxSteps := 2000000 }) -implicitDefEqProofs (disch := (first | omega | rfl | assumption | (simp only [put_next, bump_next, kill_next, List.length_cons, List.length_nil, List.mem_cons, List.not_mem_nil, or_false, not_false_eq_true]; first | omega | assumption))) only [e0, sn, e4, hm7, hh, e5, tp, e6, Nat.reduceAdd, Nat.reduceMul, Nat.reduceLT, Int.reduceToNat, Int.reduceAdd, Int.reduceSub, Int.reduceMul, s_beq, List.length_cons, List.length_nil, List.getD_cons_zero, List.getD_cons_succ, List.getElem?_cons_zero, List.getElem?_cons_succ, Option.bind_some, Option.bind_assoc, s_bindN, asI_i, asB_b, asS_s, asP_p, asPS_p, asSl_sl, s_agg, s_tup, s_fn, joinB, joinI, joinR, beq_true, beq_false, Bool.not_true, Bool.not_false, Bool.not_not, cond_true, cond_false, neI, s_mapS, bindS_inl, bindS_inr, Bool.and_true, Bool.true_and, Bool.and_false, Bool.false_and, s_isNoneS, s_isNoneN, s_ref, s_adv, s_ldf, s_ld, s_ldM, s_st, s_stM, s_bs, s_bn, s_pp, bump_blk, bump_next, put_next, splice_z, splice_zz, splice_s, s_decT, s_decF, s_eqT, s_eqF, s_i64, s_u64, s_u8, Int.toNat_natCast, Nat.zero_add, s_room, s_chkT, s_rdSl, s_wrSl, s_ldN, s_ldNM, s_ldNf, List.drop_zero, List.take_succ_cons, List.take_zero, List.take_nil, List.take_length, Nat.mul_one, List.flatten_cons, List.flatten_nil, List.append_nil, List.nil_append, List.cons_append]
  have own7 : OwnS σ7 T_uint64 1 a W.length (u64s W) := h6.own.of p4.next fun b hb => p4.blk b (h6.own.lt b hb) (by have := h6.ap b hb; simp; exact this)
  have ap7 : ∀ b ∈ SA.bk a, b ∉ F7 := fun b hb hm => by
    rcases p3 b hm with g | g
    · exact (h6.ap b hb).2 g
    · have := h6.own.lt b hb; omega
  have hWl : W.length ≤ w6.length := by have := congrArg List.length h6.pre; simp at this; omega
  have h6len := h6.len
  refine Ok.bindS (Q := fun r => ∃ σ8, r = .inl ([], σ8)) ?_ ?_ (fun r h => by obtain ⟨_, e⟩ := h; cases e)
  · refine Ok.count W.length (fun k s => ∃ σ8 F8 S8, s = ([.i .i64 (k : Int)], σ8) ∧ SemAt σ8 sb mb F8 S8 w6 ∧ S8.top = W.length ∧ S8.M.met.r ≤ 1500 + k ∧ S8.M.met.w ≤ 1500 ∧ OwnS σ8 T_uint64 1 a W.length (u64s W) ∧ (∀ b ∈ SA.bk a, b ∉ F8)) ?_ ?_ ⟨σ7, F7, _, rfl, p2, tp', by show S6.M.met.r ≤ _; omega, by show S6.M.met.w ≤ _; omega, own7, ap7⟩
    · rintro k s hk ⟨σ8, F8, S8, rfl, q1, q2, q3, q4, q5, q6⟩
      have hx := List.getElem?_eq_getElem hk
      generalize W[k] = x at hx
      have hwk : w6.getD k 0 = x := by
        have h0 := hx
        rw [← h6.pre, List.getElem?_take, if_pos hk] at h0
        rw [List.getD_eq_getElem?_getD, h0]; rfl
      simp (config := { maxSteps := 2000000 }) -implicitDefEqProofs (disch := (first | omega | rfl | assumption | (simp only [put_next, bump_next, kill_next, List.length_cons, List.length_nil, List.mem_cons, List.not_mem_nil, or_false, not_false_eq_true]; first | omega | assumption))) only [law14_SemiTurns_L3, Nat.reduceAdd, Nat.reduceMul, Nat.reduceLT, Int.reduceToNat, Int.reduceAdd, Int.reduceSub, Int.reduceMul, s_beq, List.length_cons, List.length_nil, List.getD_cons_zero, List.getD_cons_succ, List.getElem?_cons_zero, List.getElem?_cons_succ, Option.bind_some, Option.bind_assoc, s_bindN, asI_i, asB_b, asS_s, asP_p, asPS_p, asSl_sl, s_agg, s_tup, s_fn, joinB, joinI, joinR, beq_true, beq_false, Bool.not_true, Bool.not_false, Bool.not_not, cond_true, cond_false, neI, s_mapS, bindS_inl, bindS_inr, Bool.and_true, Bool.true_and, Bool.and_false, Bool.false_and, s_isNoneS, s_isNoneN, s_ref, s_adv, s_ldf, s_ld, s_ldM, s_st, s_stM, s_bs, s_bn, s_pp, bump_blk, bump_next, put_next, splice_z, splice_zz, splice_s, s_decT, s_decF, s_eqT, s_eqF, s_i64, s_u64, s_u8, Int.toNat_natCast, Nat.zero_add, s_room, s_chkT, s_rdSl, s_wrSl, s_ldN, s_ldNM, s_ldNf, List.drop_zero, List.take_succ_cons, List.take_zero, List.take_nil, List.take_length, Nat.mul_one, List.flatten_cons, List.flatten_nil, List.append_nil, List.nil_append, List.cons_append]
      refine Ok.step (sread_ok q1 ⟨by omega, by omega⟩ (at_ := (k : Int)) (by omega) (by omega)) fun r ⟨m1, F9, m2, m3, m4⟩ => ?_
      obtain ⟨q, σ9⟩ := r
      simp only at m1 m2 m4
      rw [Int.toNat_natCast, hwk] at m1
      subst m1
      have own9 : OwnS σ9 T_uint64 1 a W.length (u64s W) := q5.of m4.next fun b hb => m4.blk b (q5.lt b hb) (q6 b hb)
      obtain ⟨b, o, ea, hld⟩ := own9.rd.at1 (u64s_get hx)
      rw [Nat.mul_one] at hld
      have href : SA.ref a = some (b, o) := by rw [ea]; rfl
      have ex : (x != x) = false := by simp
      simp (config := { maxSteps := 2000000 }) -implicitDefEqProofs (disch := (first | omega | rfl | assumption | (simp only [put_next, bump_next, kill_next, List.length_cons, List.length_nil, List.mem_cons, List.not_mem_nil, or_false, not_false_eq_true]; first | omega | assumption))) only [href, hld, ex, e0, Nat.reduceAdd, Nat.reduceMul, Nat.reduceLT, Int.reduceToNat, Int.reduceAdd, Int.reduceSub, Int.reduceMul, s_beq, List.length_cons, List.length_nil, List.getD_cons_zero, List.getD_cons_succ, List.getElem?_cons_zero, List.getElem?_cons_succ, Option.bind_some, Option.bind_assoc, s_bindN, asI_i, asB_b, asS_s, asP_p, asPS_p, asSl_sl, s_agg, s_tup, s_fn, joinB, joinI, joinR, beq_true, beq_false, Bool.not_true, Bool.not_false, Bool.not_not, cond_true, cond_false, neI, s_mapS, bindS_inl, bindS_inr, Bool.and_true, Bool.true_and, Bool.and_false, Bool.false_and, s_isNoneS, s_isNoneN, s_ref, s_adv, s_ldf, s_ld, s_ldM, s_st, s_stM, s_bs, s_bn, s_pp, bump_blk, bump_next, put_next, splice_z, splice_zz, splice_s, s_decT, s_decF, s_eqT, s_eqF, s_i64, s_u64, s_u8, Int.toNat_natCast, Nat.zero_add, s_room, s_chkT, s_rdSl, s_wrSl, s_ldN, s_ldNM, s_ldNf, List.drop_zero, List.take_succ_cons, List.take_zero, List.take_nil, List.take_length, Nat.mul_one, List.flatten_cons, List.flatten_nil, List.append_nil, List.nil_append, List.cons_append]
      refine Ok_some.2 ⟨σ9, F9, _, by simp, m2, q2, by show S8.M.met.r + 1 ≤ _; omega, q4, own9, fun b hb hm => ?_⟩
      rcases m3 b hm with g | g
      · exact q6 b hb g
      · have := q5.lt b hb; omega
    · rintro s ⟨σ8, F8, S8, rfl, _⟩
      simp (config := { maxSteps := 2000000 }) -implicitDefEqProofs (disch := (first | omega | rfl | assumption | (simp only [put_next, bump_next, kill_next, List.length_cons, List.length_nil, List.mem_cons, List.not_mem_nil, or_false, not_false_eq_true]; first | omega | assumption))) only [law14_SemiTurns_L3, Nat.reduceAdd, Nat.reduceMul, Nat.reduceLT, Int.reduceToNat, Int.reduceAdd, Int.reduceSub, Int.reduceMul, s_beq, List.length_cons, List.length_nil, List.getD_cons_zero, List.getD_cons_succ, List.getElem?_cons_zero, List.getElem?_cons_succ, Option.bind_some, Option.bind_assoc, s_bindN, asI_i, asB_b, asS_s, asP_p, asPS_p, asSl_sl, s_agg, s_tup, s_fn, joinB, joinI, joinR, beq_true, beq_false, Bool.not_true, Bool.not_false, Bool.not_not, cond_true, cond_false, neI, s_mapS, bindS_inl, bindS_inr, Bool.and_true, Bool.true_and, Bool.and_false, Bool.false_and, s_isNoneS, s_isNoneN, s_ref, s_adv, s_ldf, s_ld, s_ldM, s_st, s_stM, s_bs, s_bn, s_pp, bump_blk, bump_next, put_next, splice_z, splice_zz, splice_s, s_decT, s_decF, s_eqT, s_eqF, s_i64, s_u64, s_u8, Int.toNat_natCast, Nat.zero_add, s_room, s_chkT, s_rdSl, s_wrSl, s_ldN, s_ldNM, s_ldNf, List.drop_zero, List.take_succ_cons, List.take_zero, List.take_nil, List.take_length, Nat.mul_one, List.flatten_cons, List.flatten_nil, List.append_nil, List.nil_append, List.cons_append]
      exact Ok_some.2 ⟨σ8, rfl⟩
  rintro _ ⟨σ8, e⟩
  cases e
  simp (config := { maxSteps := 2000000 }) -implicitDefEqProofs (disch := (first | omega | rfl | assumption | (simp only [put_next, bump_next, kill_next, List.length_cons, List.length_nil, List.mem_cons, List.not_mem_nil, or_false, not_false_eq_true]; first | omega | assumption))) only [Nat.reduceAdd, Nat.reduceMul, Nat.reduceLT, Int.reduceToNat, Int.reduceAdd, Int.reduceSub, Int.reduceMul, s_beq, List.length_cons, List.length_nil, List.getD_cons_zero, List.getD_cons_succ, List.getElem?_cons_zero, List.getElem?_cons_succ, Option.bind_some, Option.bind_assoc, s_bindN, asI_i, asB_b, asS_s, asP_p, asPS_p, asSl_sl, s_agg, s_tup, s_fn, joinB, joinI, joinR, beq_true, beq_false, Bool.not_true, Bool.not_false, Bool.not_not, cond_true, cond_false, neI, s_mapS, bindS_inl, bindS_inr, Bool.and_true, Bool.true_and, Bool.and_false, Bool.false_and, s_isNoneS, s_isNoneN, s_ref, s_adv, s_ldf, s_ld, s_ldM, s_st, s_stM, s_bs, s_bn, s_pp, bump_blk, bump_next, put_next, splice_z, splice_zz, splice_s, s_decT, s_decF, s_eqT, s_eqF, s_i64, s_u64, s_u8, Int.toNat_natCast, Nat.zero_add, s_room, s_chkT, s_rdSl, s_wrSl, s_ldN, s_ldNM, s_ldNf, List.drop_zero, List.take_succ_cons, List.take_zero, List.take_nil, List.take_length, Nat.mul_one, List.flatten_cons, List.flatten_nil, List.append_nil, List.nil_append, List.cons_append]
  exact Ok_some.2 rfl

theorem pairsOf {sa : SA} {els : List (List AV)} (hrow : ∀ el ∈ els, ∃ ns : List Int, el = ns.map (AV.i .u8) ∧ ns.length = 2 ∧ ∀ x ∈ ns, IntKind.u8.min ≤ x ∧ x ≤ IntKind.u8.max)
    (himm : Imm 2 sa els.length els.flatten) : ∃ ps : List (Int × Int), els.length = ps.length ∧ Imm 2 sa ps.length (ps.flatMap p8) ∧ ∀ p ∈ ps, 0 ≤ p.1 ∧ p.1 < 256 ∧ 0 ≤ p.2 ∧ p.2 < 256 := by
  have : ∃ ps : List (Int × Int), els = ps.map p8 ∧ ∀ p ∈ ps, 0 ≤ p.1 ∧ p.1 < 256 ∧ 0 ≤ p.2 ∧ p.2 < 256 := by
    clear himm
    induction els with
    | nil => exact ⟨[], rfl, by simp⟩
    | cons el els ih =>
      obtain ⟨ps, e, hr⟩ := ih fun x hx => hrow x (List.mem_cons_of_mem _ hx)
      obtain ⟨ns, rfl, hl, hn⟩ := hrow el List.mem_cons_self
      match ns, hl with
      | [a, b], _ =>
        refine ⟨(a, b) :: ps, by rw [e]; rfl, fun o ho => ?_⟩
        rcases List.mem_cons.1 ho with rfl | ho
        · have h1 := wf_u8 (hn a (by simp))
          have h2 := wf_u8 (hn b (by simp))
          exact ⟨h1.1, h1.2, h2.1, h2.2⟩
        · exact hr o ho
  obtain ⟨ps, rfl, hr⟩ := this
  exact ⟨ps, by simp, by simpa [List.flatMap_def] using himm, hr⟩
end Go.Abs.Try
