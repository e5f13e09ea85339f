/-
  The document's answer for layer 8, as it is run: what is asked of a state, and a state of one's own. No conditions.
-/
import Derived.Test.YtjfblnpolgoojaaM8f
import Derived.Test.YtjfblnpolgoojaaR7
set_option linter.unusedVariables false
set_option linter.unusedSimpArgs false
set_option linter.constructorNameAsVariable false
set_option linter.unusedSimpArgs false
set_option linter.unusedVariables false
set_option maxHeartbeats 1000000
namespace Go.Abs.Try
open Go Go.Abs
variable {O : Type}

structure RSp where
  a : SA
  op : Bool
  ws : List Int
def RSp.cells (s : RSp) : List AV := [.b s.op, .sl s.a s.ws.length]
theorem RSp.len (s : RSp) : s.cells.length = 2 := rfl
def RSp.sl (s : RSp) : SA × List AV := (s.a, u64s s.ws)
def RSp.v (s : RSp) : Bool × List Int := (s.op, s.ws)
/-- the spaces of a state that is never written again -/
structure RImm (a : SA) (L : List RSp) : Prop where
  imm : Imm 2 a L.length (L.flatMap RSp.cells)
  ws : ∀ s ∈ L, Imm 1 s.a s.ws.length (u64s s.ws)
/-- the spaces of a state of one's own -/
structure ROwn (σ : AH O) (base : Nat) (a : SA) (L : List RSp) : Prop where
  own : OwnS σ T_haymowref08_Space 2 a L.length (L.flatMap RSp.cells)
  sls : Sls σ T_uint64 1 (L.map RSp.sl)
  nb : ∀ b ∈ SA.bk a, base ≤ b ∧ b ∉ sbk (L.map RSp.sl)
  ns : ∀ b ∈ sbk (L.map RSp.sl), base ≤ b
abbrev rst (a : SA) (n : Nat) (m : Met) : AV := .agg (.sl a n :: m.cells)
theorem RImm.nil : RImm .nil [] := ⟨Imm.nil _, fun s hs => by cases hs⟩
theorem RImm.at {a : SA} {L : List RSp} (h : RImm a L) {i : Nat} {s : RSp} (hs : L[i]? = some s) : ∃ b o, a = .loc b o 2 ∧ (∀ (O : Type) (σ : AH O), σ.ld b (o + i * 2) = some (.b s.op)) ∧ (∀ (O : Type) (σ : AH O), σ.ld b (o + i * 2 + 1) = some (.sl s.a s.ws.length)) ∧ Imm 1 s.a s.ws.length (u64s s.ws) := by
  obtain ⟨b, o, rfl, g⟩ := h.imm.row RSp.len hs (by omega)
  exact ⟨b, o, rfl, fun O σ => g O σ 0 (by omega), fun O σ => g O σ 1 (by omega), h.ws s (List.mem_of_getElem? hs)⟩

theorem rcount_ok {σ : AH O} {a : SA} {L : List RSp} {m : Met} (h : RImm a L) (hl : L.length ≤ 262144) : Ok (haymowref08_Count [rst a L.length m] σ) fun r => r.1 = .i .i64 ((L.map RSp.v).countP (·.1) : Nat) ∧ Ext σ r.2 := by
  simp -implicitDefEqProofs (disch := (first | omega | rfl | assumption | (simp only [put_next, bump_next, kill_next, List.length_cons, List.length_nil, List.mem_cons, List.not_mem_nil, or_false, not_false_eq_true]; first | omega | assumption))) only [haymowref08_Count, haymowref08_Count_c, rst, Met.cells, Nat.reduceAdd, Nat.reduceMul, Nat.reduceLT, Int.reduceToNat, Int.reduceAdd, Int.reduceSub, Int.reduceMul, s_beq, List.length_cons, List.length_nil, List.getD_cons_zero, List.getD_cons_succ, List.getElem?_cons_zero, List.getElem?_cons_succ, Option.bind_some, Option.bind_assoc, s_bindN, asI_i, asB_b, asS_s, asP_p, asPS_p, asSl_sl, s_agg, s_tup, s_fn, joinB, joinI, joinR, beq_true, beq_false, Bool.not_true, Bool.not_false, Bool.not_not, cond_true, cond_false, neI, s_mapS, bindS_inl, bindS_inr, Bool.and_true, Bool.true_and, Bool.and_false, Bool.false_and, s_isNoneS, s_isNoneN, s_ref, s_adv, s_ldf, s_ld, s_ldM, s_st, s_stM, s_bs, s_bn, s_pp, bump_blk, bump_next, put_next, splice_z, splice_zz, splice_s, s_decT, s_decF, s_eqT, s_eqF, s_i64, s_u64, s_u8, Int.toNat_natCast, Nat.zero_add, s_room, s_chkT, s_rdSl, s_wrSl, s_ldN, s_ldNM, s_ldNf, List.drop_zero, List.take_succ_cons, List.take_zero, List.take_nil, List.take_length, Nat.mul_one, List.flatten_cons, List.flatten_nil, List.append_nil, List.nil_append, List.cons_append]
  generalize hσ1 : (σ.bump 1).put σ.next _ = σ1
  have b1 : ∃ el rest, σ1.blk σ.next = some (.cells true el (.sl a L.length :: rest)) := by rw [← hσ1, s_bs]; exact ⟨_, _, rfl⟩
  have E : Ext σ σ1 := by rw [← hσ1]; exact (ext_of (by simp only [put_next, bump_next, kill_next]; omega) (fun b hb => by simp -implicitDefEqProofs (disch := (first | omega | rfl | assumption | (simp only [put_next, bump_next, kill_next, List.length_cons, List.length_nil, List.mem_cons, List.not_mem_nil, or_false, not_false_eq_true]; first | omega | assumption))) only [s_bn, s_kn, bump_blk, s_ext]))
  obtain ⟨el, rest, b1⟩ := b1
  clear hσ1
  refine Ok.step (Q := fun r => r = ([.i .i64 ((L.map RSp.v).countP (·.1) : Nat)], σ1)) ?_ fun r e => ?_
  · refine Ok.count L.length (fun k s => s = ([.i .i64 (((L.take k).map RSp.v).countP (·.1) : Nat), .i .i64 (k : Int)], σ1)) ?_ ?_ rfl
    · rintro k s hk rfl
      have hx := List.getElem?_eq_getElem hk
      generalize L[k] = x at hx
      obtain ⟨b, o, rfl, h0, h1, _⟩ := h.at hx
      have hc := List.countP_le_length (p := fun s : Bool × List Int => s.1) (l := (L.take k).map RSp.v)
      simp only [List.length_map, List.length_take] at hc
      have hn : (((L.take (k + 1)).map RSp.v).countP (·.1)) = ((L.take k).map RSp.v).countP (·.1) + (if x.op = true then 1 else 0) := by
        rw [List.take_add_one, hx]
        simp [List.countP_append, RSp.v, List.countP_cons]
      cases ho : x.op with
      | true =>
        rw [ho] at h0 hn
        simp -implicitDefEqProofs (disch := (first | omega | rfl | assumption | (simp only [put_next, bump_next, kill_next, List.length_cons, List.length_nil, List.mem_cons, List.not_mem_nil, or_false, not_false_eq_true]; first | omega | assumption))) only [haymowref08_Count_L1, b1, h0, Nat.reduceAdd, Nat.reduceMul, Nat.reduceLT, Int.reduceToNat, Int.reduceAdd, Int.reduceSub, Int.reduceMul, s_beq, List.length_cons, List.length_nil, List.getD_cons_zero, List.getD_cons_succ, List.getElem?_cons_zero, List.getElem?_cons_succ, Option.bind_some, Option.bind_assoc, s_bindN, asI_i, asB_b, asS_s, asP_p, asPS_p, asSl_sl, s_agg, s_tup, s_fn, joinB, joinI, joinR, beq_true, beq_false, Bool.not_true, Bool.not_false, Bool.not_not, cond_true, cond_false, neI, s_mapS, bindS_inl, bindS_inr, Bool.and_true, Bool.true_and, Bool.and_false, Bool.false_and, s_isNoneS, s_isNoneN, s_ref, s_adv, s_ldf, s_ld, s_ldM, s_st, s_stM, s_bs, s_bn, s_pp, bump_blk, bump_next, put_next, splice_z, splice_zz, splice_s, s_decT, s_decF, s_eqT, s_eqF, s_i64, s_u64, s_u8, Int.toNat_natCast, Nat.zero_add, s_room, s_chkT, s_rdSl, s_wrSl, s_ldN, s_ldNM, s_ldNf, List.drop_zero, List.take_succ_cons, List.take_zero, List.take_nil, List.take_length, Nat.mul_one, List.flatten_cons, List.flatten_nil, List.append_nil, List.nil_append, List.cons_append]
        refine Ok_some.2 ?_
        rw [hn]; simp
      | false =>
        rw [ho] at h0 hn
        simp -implicitDefEqProofs (disch := (first | omega | rfl | assumption | (simp only [put_next, bump_next, kill_next, List.length_cons, List.length_nil, List.mem_cons, List.not_mem_nil, or_false, not_false_eq_true]; first | omega | assumption))) only [haymowref08_Count_L1, b1, h0, Nat.reduceAdd, Nat.reduceMul, Nat.reduceLT, Int.reduceToNat, Int.reduceAdd, Int.reduceSub, Int.reduceMul, s_beq, List.length_cons, List.length_nil, List.getD_cons_zero, List.getD_cons_succ, List.getElem?_cons_zero, List.getElem?_cons_succ, Option.bind_some, Option.bind_assoc, s_bindN, asI_i, asB_b, asS_s, asP_p, asPS_p, asSl_sl, s_agg, s_tup, s_fn, joinB, joinI, joinR, beq_true, beq_false, Bool.not_true, Bool.not_false, Bool.not_not, cond_true, cond_false, neI, s_mapS, bindS_inl, bindS_inr, Bool.and_true, Bool.true_and, Bool.and_false, Bool.false_and, s_isNoneS, s_isNoneN, s_ref, s_adv, s_ldf, s_ld, s_ldM, s_st, s_stM, s_bs, s_bn, s_pp, bump_blk, bump_next, put_next, splice_z, splice_zz, splice_s, s_decT, s_decF, s_eqT, s_eqF, s_i64, s_u64, s_u8, Int.toNat_natCast, Nat.zero_add, s_room, s_chkT, s_rdSl, s_wrSl, s_ldN, s_ldNM, s_ldNf, List.drop_zero, List.take_succ_cons, List.take_zero, List.take_nil, List.take_length, Nat.mul_one, List.flatten_cons, List.flatten_nil, List.append_nil, List.nil_append, List.cons_append]
        refine Ok_some.2 ?_
        rw [hn]; simp
    · rintro s rfl
      simp -implicitDefEqProofs (disch := (first | omega | rfl | assumption | (simp only [put_next, bump_next, kill_next, List.length_cons, List.length_nil, List.mem_cons, List.not_mem_nil, or_false, not_false_eq_true]; first | omega | assumption))) only [haymowref08_Count_L1, b1, Nat.reduceAdd, Nat.reduceMul, Nat.reduceLT, Int.reduceToNat, Int.reduceAdd, Int.reduceSub, Int.reduceMul, s_beq, List.length_cons, List.length_nil, List.getD_cons_zero, List.getD_cons_succ, List.getElem?_cons_zero, List.getElem?_cons_succ, Option.bind_some, Option.bind_assoc, s_bindN, asI_i, asB_b, asS_s, asP_p, asPS_p, asSl_sl, s_agg, s_tup, s_fn, joinB, joinI, joinR, beq_true, beq_false, Bool.not_true, Bool.not_false, Bool.not_not, cond_true, cond_false, neI, s_mapS, bindS_inl, bindS_inr, Bool.and_true, Bool.true_and, Bool.and_false, Bool.false_and, s_isNoneS, s_isNoneN, s_ref, s_adv, s_ldf, s_ld, s_ldM, s_st, s_stM, s_bs, s_bn, s_pp, bump_blk, bump_next, put_next, splice_z, splice_zz, splice_s, s_decT, s_decF, s_eqT, s_eqF, s_i64, s_u64, s_u8, Int.toNat_natCast, Nat.zero_add, s_room, s_chkT, s_rdSl, s_wrSl, s_ldN, s_ldNM, s_ldNf, List.drop_zero, List.take_succ_cons, List.take_zero, List.take_nil, List.take_length, Nat.mul_one, List.flatten_cons, List.flatten_nil, List.append_nil, List.nil_append, List.cons_append]
      exact Ok_some.2 (by simp)
  subst e
  simp -implicitDefEqProofs (disch := (first | omega | rfl | assumption | (simp only [put_next, bump_next, kill_next, List.length_cons, List.length_nil, List.mem_cons, List.not_mem_nil, or_false, not_false_eq_true]; first | omega | assumption))) only [Nat.reduceAdd, Nat.reduceMul, Nat.reduceLT, Int.reduceToNat, Int.reduceAdd, Int.reduceSub, Int.reduceMul, s_beq, List.length_cons, List.length_nil, List.getD_cons_zero, List.getD_cons_succ, List.getElem?_cons_zero, List.getElem?_cons_succ, Option.bind_some, Option.bind_assoc, s_bindN, asI_i, asB_b, asS_s, asP_p, asPS_p, asSl_sl, s_agg, s_tup, s_fn, joinB, joinI, joinR, beq_true, beq_false, Bool.not_true, Bool.not_false, Bool.not_not, cond_true, cond_false, neI, s_mapS, bindS_inl, bindS_inr, Bool.and_true, Bool.true_and, Bool.and_false, Bool.false_and, s_isNoneS, s_isNoneN, s_ref, s_adv, s_ldf, s_ld, s_ldM, s_st, s_stM, s_bs, s_bn, s_pp, bump_blk, bump_next, put_next, splice_z, splice_zz, splice_s, s_decT, s_decF, s_eqT, s_eqF, s_i64, s_u64, s_u8, Int.toNat_natCast, Nat.zero_add, s_room, s_chkT, s_rdSl, s_wrSl, s_ldN, s_ldNM, s_ldNf, List.drop_zero, List.take_succ_cons, List.take_zero, List.take_nil, List.take_length, Nat.mul_one, List.flatten_cons, List.flatten_nil, List.append_nil, List.nil_append, List.cons_append]
  exact Ok_some.2 ⟨rfl, E⟩

theorem ris_ok {σ : AH O} {a : SA} {L : List RSp} {m : Met} {id : Int} (h : RImm a L) : Ok (haymowref08_Is [rst a L.length m, .i .i64 id] σ) fun r => r.1 = .b (wordsOf (L.map RSp.v) id).isSome ∧ Ext σ r.2 := by
  by_cases h0 : id < 0
  · simp -implicitDefEqProofs (disch := (first | omega | rfl | assumption | (simp only [put_next, bump_next, kill_next, List.length_cons, List.length_nil, List.mem_cons, List.not_mem_nil, or_false, not_false_eq_true]; first | omega | assumption))) only [haymowref08_Is, haymowref08_Is_c, rst, Met.cells, Nat.reduceAdd, Nat.reduceMul, Nat.reduceLT, Int.reduceToNat, Int.reduceAdd, Int.reduceSub, Int.reduceMul, s_beq, List.length_cons, List.length_nil, List.getD_cons_zero, List.getD_cons_succ, List.getElem?_cons_zero, List.getElem?_cons_succ, Option.bind_some, Option.bind_assoc, s_bindN, asI_i, asB_b, asS_s, asP_p, asPS_p, asSl_sl, s_agg, s_tup, s_fn, joinB, joinI, joinR, beq_true, beq_false, Bool.not_true, Bool.not_false, Bool.not_not, cond_true, cond_false, neI, s_mapS, bindS_inl, bindS_inr, Bool.and_true, Bool.true_and, Bool.and_false, Bool.false_and, s_isNoneS, s_isNoneN, s_ref, s_adv, s_ldf, s_ld, s_ldM, s_st, s_stM, s_bs, s_bn, s_pp, bump_blk, bump_next, put_next, splice_z, splice_zz, splice_s, s_decT, s_decF, s_eqT, s_eqF, s_i64, s_u64, s_u8, Int.toNat_natCast, Nat.zero_add, s_room, s_chkT, s_rdSl, s_wrSl, s_ldN, s_ldNM, s_ldNf, List.drop_zero, List.take_succ_cons, List.take_zero, List.take_nil, List.take_length, Nat.mul_one, List.flatten_cons, List.flatten_nil, List.append_nil, List.nil_append, List.cons_append]
    refine Ok_some.2 ⟨?_, (ext_of (by simp only [put_next, bump_next, kill_next]; omega) (fun b hb => by simp -implicitDefEqProofs (disch := (first | omega | rfl | assumption | (simp only [put_next, bump_next, kill_next, List.length_cons, List.length_nil, List.mem_cons, List.not_mem_nil, or_false, not_false_eq_true]; first | omega | assumption))) only [s_bn, s_kn, bump_blk, s_ext]))⟩
    have : wordsOf (L.map RSp.v) id = none := by unfold wordsOf; rw [if_neg (by omega)]
    rw [this]; rfl
  · by_cases h1 : id < L.length
    · have hlt : id.toNat < L.length := by omega
      have hx := List.getElem?_eq_getElem hlt
      generalize L[id.toNat] = x at hx
      obtain ⟨b, o, rfl, g0, g1, _⟩ := h.at hx
      simp -implicitDefEqProofs (disch := (first | omega | rfl | assumption | (simp only [put_next, bump_next, kill_next, List.length_cons, List.length_nil, List.mem_cons, List.not_mem_nil, or_false, not_false_eq_true]; first | omega | assumption))) only [haymowref08_Is, haymowref08_Is_c, rst, Met.cells, g0, Nat.reduceAdd, Nat.reduceMul, Nat.reduceLT, Int.reduceToNat, Int.reduceAdd, Int.reduceSub, Int.reduceMul, s_beq, List.length_cons, List.length_nil, List.getD_cons_zero, List.getD_cons_succ, List.getElem?_cons_zero, List.getElem?_cons_succ, Option.bind_some, Option.bind_assoc, s_bindN, asI_i, asB_b, asS_s, asP_p, asPS_p, asSl_sl, s_agg, s_tup, s_fn, joinB, joinI, joinR, beq_true, beq_false, Bool.not_true, Bool.not_false, Bool.not_not, cond_true, cond_false, neI, s_mapS, bindS_inl, bindS_inr, Bool.and_true, Bool.true_and, Bool.and_false, Bool.false_and, s_isNoneS, s_isNoneN, s_ref, s_adv, s_ldf, s_ld, s_ldM, s_st, s_stM, s_bs, s_bn, s_pp, bump_blk, bump_next, put_next, splice_z, splice_zz, splice_s, s_decT, s_decF, s_eqT, s_eqF, s_i64, s_u64, s_u8, Int.toNat_natCast, Nat.zero_add, s_room, s_chkT, s_rdSl, s_wrSl, s_ldN, s_ldNM, s_ldNf, List.drop_zero, List.take_succ_cons, List.take_zero, List.take_nil, List.take_length, Nat.mul_one, List.flatten_cons, List.flatten_nil, List.append_nil, List.nil_append, List.cons_append]
      refine Ok_some.2 ⟨?_, (ext_of (by simp only [put_next, bump_next, kill_next]; omega) (fun b hb => by simp -implicitDefEqProofs (disch := (first | omega | rfl | assumption | (simp only [put_next, bump_next, kill_next, List.length_cons, List.length_nil, List.mem_cons, List.not_mem_nil, or_false, not_false_eq_true]; first | omega | assumption))) only [s_bn, s_kn, bump_blk, s_ext]))⟩
      have : (wordsOf (L.map RSp.v) id).isSome = x.op := by
        unfold wordsOf
        rw [if_pos (by omega), List.getElem?_map, hx, Option.map_some, RSp.v]
        cases x.op <;> rfl
      rw [this]
    · simp -implicitDefEqProofs (disch := (first | omega | rfl | assumption | (simp only [put_next, bump_next, kill_next, List.length_cons, List.length_nil, List.mem_cons, List.not_mem_nil, or_false, not_false_eq_true]; first | omega | assumption))) only [haymowref08_Is, haymowref08_Is_c, rst, Met.cells, Nat.reduceAdd, Nat.reduceMul, Nat.reduceLT, Int.reduceToNat, Int.reduceAdd, Int.reduceSub, Int.reduceMul, s_beq, List.length_cons, List.length_nil, List.getD_cons_zero, List.getD_cons_succ, List.getElem?_cons_zero, List.getElem?_cons_succ, Option.bind_some, Option.bind_assoc, s_bindN, asI_i, asB_b, asS_s, asP_p, asPS_p, asSl_sl, s_agg, s_tup, s_fn, joinB, joinI, joinR, beq_true, beq_false, Bool.not_true, Bool.not_false, Bool.not_not, cond_true, cond_false, neI, s_mapS, bindS_inl, bindS_inr, Bool.and_true, Bool.true_and, Bool.and_false, Bool.false_and, s_isNoneS, s_isNoneN, s_ref, s_adv, s_ldf, s_ld, s_ldM, s_st, s_stM, s_bs, s_bn, s_pp, bump_blk, bump_next, put_next, splice_z, splice_zz, splice_s, s_decT, s_decF, s_eqT, s_eqF, s_i64, s_u64, s_u8, Int.toNat_natCast, Nat.zero_add, s_room, s_chkT, s_rdSl, s_wrSl, s_ldN, s_ldNM, s_ldNf, List.drop_zero, List.take_succ_cons, List.take_zero, List.take_nil, List.take_length, Nat.mul_one, List.flatten_cons, List.flatten_nil, List.append_nil, List.nil_append, List.cons_append]
      refine Ok_some.2 ⟨?_, (ext_of (by simp only [put_next, bump_next, kill_next]; omega) (fun b hb => by simp -implicitDefEqProofs (disch := (first | omega | rfl | assumption | (simp only [put_next, bump_next, kill_next, List.length_cons, List.length_nil, List.mem_cons, List.not_mem_nil, or_false, not_false_eq_true]; first | omega | assumption))) only [s_bn, s_kn, bump_blk, s_ext]))⟩
      have : wordsOf (L.map RSp.v) id = none := by
        unfold wordsOf
        rw [if_pos (by omega), List.getElem?_map, List.getElem?_eq_none (by omega)]; rfl
      rw [this]; rfl
theorem getR {L : List RSp} {id : Int} {w : List Int} (h : wordsOf (L.map RSp.v) id = some w) : 0 ≤ id ∧ ∃ s, L[id.toNat]? = some s ∧ s.op = true ∧ s.ws = w := by
  obtain ⟨h0, h1⟩ := wordsOf_some h
  rw [List.getElem?_map] at h1
  obtain ⟨s, hs, hsv⟩ := Option.map_eq_some_iff.1 h1
  simp only [RSp.v, Prod.mk.injEq] at hsv
  exact ⟨h0, s, hs, hsv.1, hsv.2⟩
theorem rwrong_ok {σ : AH O} {a : SA} {L : List RSp} {m : Met} {id at_ n : Int} (h : RImm a L) (hl : ∀ s ∈ L, s.ws.length ≤ 4194304) (hn : -9223372036854775808 ≤ n ∧ n ≤ 9223372036854775807) :
    Ok (haymowref08_wrong [rst a L.length m, .i .i64 id, .i .i64 at_, .i .i64 n] σ) fun r => r.1 = .i .i64 (wrongR (L.map RSp.v) id at_ n) ∧ Ext σ r.2 := by
  simp -implicitDefEqProofs (disch := (first | omega | rfl | assumption | (simp only [put_next, bump_next, kill_next, List.length_cons, List.length_nil, List.mem_cons, List.not_mem_nil, or_false, not_false_eq_true]; first | omega | assumption))) only [haymowref08_wrong, haymowref08_wrong_c, rst, Met.cells, Nat.reduceAdd, Nat.reduceMul, Nat.reduceLT, Int.reduceToNat, Int.reduceAdd, Int.reduceSub, Int.reduceMul, s_beq, List.length_cons, List.length_nil, List.getD_cons_zero, List.getD_cons_succ, List.getElem?_cons_zero, List.getElem?_cons_succ, Option.bind_some, Option.bind_assoc, s_bindN, asI_i, asB_b, asS_s, asP_p, asPS_p, asSl_sl, s_agg, s_tup, s_fn, joinB, joinI, joinR, beq_true, beq_false, Bool.not_true, Bool.not_false, Bool.not_not, cond_true, cond_false, neI, s_mapS, bindS_inl, bindS_inr, Bool.and_true, Bool.true_and, Bool.and_false, Bool.false_and, s_isNoneS, s_isNoneN, s_ref, s_adv, s_ldf, s_ld, s_ldM, s_st, s_stM, s_bs, s_bn, s_pp, bump_blk, bump_next, put_next, splice_z, splice_zz, splice_s, s_decT, s_decF, s_eqT, s_eqF, s_i64, s_u64, s_u8, Int.toNat_natCast, Nat.zero_add, s_room, s_chkT, s_rdSl, s_wrSl, s_ldN, s_ldNM, s_ldNf, List.drop_zero, List.take_succ_cons, List.take_zero, List.take_nil, List.take_length, Nat.mul_one, List.flatten_cons, List.flatten_nil, List.append_nil, List.nil_append, List.cons_append]
  generalize hσ1 : (σ.bump 1).put σ.next _ = σ1
  have b1 : ∃ el rest, σ1.blk σ.next = some (.cells true el (.sl a L.length :: rest)) := by rw [← hσ1, s_bs]; exact ⟨_, _, rfl⟩
  have E : Ext σ σ1 := by rw [← hσ1]; exact (ext_of (by simp only [put_next, bump_next, kill_next]; omega) (fun b hb => by simp -implicitDefEqProofs (disch := (first | omega | rfl | assumption | (simp only [put_next, bump_next, kill_next, List.length_cons, List.length_nil, List.mem_cons, List.not_mem_nil, or_false, not_false_eq_true]; first | omega | assumption))) only [s_bn, s_kn, bump_blk, s_ext]))
  have n1 : σ.next < σ1.next := by rw [← hσ1]; simp
  obtain ⟨el, rest, b1⟩ := b1
  clear hσ1
  refine Ok.step (ris_ok (m := m) (id := id) h) fun r ⟨g1, g2⟩ => ?_
  obtain ⟨q, σ2⟩ := r
  simp only at g1 g2
  subst g1
  have b2 := (g2.blk σ.next n1).trans b1
  unfold wrongR
  cases hw : wordsOf (L.map RSp.v) id with
  | none =>
    simp -implicitDefEqProofs (disch := (first | omega | rfl | assumption | (simp only [put_next, bump_next, kill_next, List.length_cons, List.length_nil, List.mem_cons, List.not_mem_nil, or_false, not_false_eq_true]; first | omega | assumption))) only [Option.isSome_none, Nat.reduceAdd, Nat.reduceMul, Nat.reduceLT, Int.reduceToNat, Int.reduceAdd, Int.reduceSub, Int.reduceMul, s_beq, List.length_cons, List.length_nil, List.getD_cons_zero, List.getD_cons_succ, List.getElem?_cons_zero, List.getElem?_cons_succ, Option.bind_some, Option.bind_assoc, s_bindN, asI_i, asB_b, asS_s, asP_p, asPS_p, asSl_sl, s_agg, s_tup, s_fn, joinB, joinI, joinR, beq_true, beq_false, Bool.not_true, Bool.not_false, Bool.not_not, cond_true, cond_false, neI, s_mapS, bindS_inl, bindS_inr, Bool.and_true, Bool.true_and, Bool.and_false, Bool.false_and, s_isNoneS, s_isNoneN, s_ref, s_adv, s_ldf, s_ld, s_ldM, s_st, s_stM, s_bs, s_bn, s_pp, bump_blk, bump_next, put_next, splice_z, splice_zz, splice_s, s_decT, s_decF, s_eqT, s_eqF, s_i64, s_u64, s_u8, Int.toNat_natCast, Nat.zero_add, s_room, s_chkT, s_rdSl, s_wrSl, s_ldN, s_ldNM, s_ldNf, List.drop_zero, List.take_succ_cons, List.take_zero, List.take_nil, List.take_length, Nat.mul_one, List.flatten_cons, List.flatten_nil, List.append_nil, List.nil_append, List.cons_append]
    exact Ok_some.2 ⟨rfl, E.trans g2⟩
  | some w =>
    obtain ⟨h0, s, hs, ho, rfl⟩ := getR hw
    have hlt := (List.getElem?_eq_some_iff.1 hs).1
    have hlen := hl s (List.mem_of_getElem? hs)
    obtain ⟨b, o, rfl, k0, k1, _⟩ := h.at hs
    simp only
    by_cases c1 : n < 0
    · simp -implicitDefEqProofs (disch := (first | omega | rfl | assumption | (simp only [put_next, bump_next, kill_next, List.length_cons, List.length_nil, List.mem_cons, List.not_mem_nil, or_false, not_false_eq_true]; first | omega | assumption))) only [Option.isSome_some, b2, k1, Nat.reduceAdd, Nat.reduceMul, Nat.reduceLT, Int.reduceToNat, Int.reduceAdd, Int.reduceSub, Int.reduceMul, s_beq, List.length_cons, List.length_nil, List.getD_cons_zero, List.getD_cons_succ, List.getElem?_cons_zero, List.getElem?_cons_succ, Option.bind_some, Option.bind_assoc, s_bindN, asI_i, asB_b, asS_s, asP_p, asPS_p, asSl_sl, s_agg, s_tup, s_fn, joinB, joinI, joinR, beq_true, beq_false, Bool.not_true, Bool.not_false, Bool.not_not, cond_true, cond_false, neI, s_mapS, bindS_inl, bindS_inr, Bool.and_true, Bool.true_and, Bool.and_false, Bool.false_and, s_isNoneS, s_isNoneN, s_ref, s_adv, s_ldf, s_ld, s_ldM, s_st, s_stM, s_bs, s_bn, s_pp, bump_blk, bump_next, put_next, splice_z, splice_zz, splice_s, s_decT, s_decF, s_eqT, s_eqF, s_i64, s_u64, s_u8, Int.toNat_natCast, Nat.zero_add, s_room, s_chkT, s_rdSl, s_wrSl, s_ldN, s_ldNM, s_ldNf, List.drop_zero, List.take_succ_cons, List.take_zero, List.take_nil, List.take_length, Nat.mul_one, List.flatten_cons, List.flatten_nil, List.append_nil, List.nil_append, List.cons_append]
      exact Ok_some.2 ⟨by rw [if_pos (by omega)], E.trans g2⟩
    · by_cases c2 : at_ < 0
      · simp -implicitDefEqProofs (disch := (first | omega | rfl | assumption | (simp only [put_next, bump_next, kill_next, List.length_cons, List.length_nil, List.mem_cons, List.not_mem_nil, or_false, not_false_eq_true]; first | omega | assumption))) only [Option.isSome_some, b2, k1, Nat.reduceAdd, Nat.reduceMul, Nat.reduceLT, Int.reduceToNat, Int.reduceAdd, Int.reduceSub, Int.reduceMul, s_beq, List.length_cons, List.length_nil, List.getD_cons_zero, List.getD_cons_succ, List.getElem?_cons_zero, List.getElem?_cons_succ, Option.bind_some, Option.bind_assoc, s_bindN, asI_i, asB_b, asS_s, asP_p, asPS_p, asSl_sl, s_agg, s_tup, s_fn, joinB, joinI, joinR, beq_true, beq_false, Bool.not_true, Bool.not_false, Bool.not_not, cond_true, cond_false, neI, s_mapS, bindS_inl, bindS_inr, Bool.and_true, Bool.true_and, Bool.and_false, Bool.false_and, s_isNoneS, s_isNoneN, s_ref, s_adv, s_ldf, s_ld, s_ldM, s_st, s_stM, s_bs, s_bn, s_pp, bump_blk, bump_next, put_next, splice_z, splice_zz, splice_s, s_decT, s_decF, s_eqT, s_eqF, s_i64, s_u64, s_u8, Int.toNat_natCast, Nat.zero_add, s_room, s_chkT, s_rdSl, s_wrSl, s_ldN, s_ldNM, s_ldNf, List.drop_zero, List.take_succ_cons, List.take_zero, List.take_nil, List.take_length, Nat.mul_one, List.flatten_cons, List.flatten_nil, List.append_nil, List.nil_append, List.cons_append]
        exact Ok_some.2 ⟨by rw [if_pos (by omega)], E.trans g2⟩
      · by_cases c3 : n > (s.ws.length : Int)
        · simp -implicitDefEqProofs (disch := (first | omega | rfl | assumption | (simp only [put_next, bump_next, kill_next, List.length_cons, List.length_nil, List.mem_cons, List.not_mem_nil, or_false, not_false_eq_true]; first | omega | assumption))) only [Option.isSome_some, b2, k1, Nat.reduceAdd, Nat.reduceMul, Nat.reduceLT, Int.reduceToNat, Int.reduceAdd, Int.reduceSub, Int.reduceMul, s_beq, List.length_cons, List.length_nil, List.getD_cons_zero, List.getD_cons_succ, List.getElem?_cons_zero, List.getElem?_cons_succ, Option.bind_some, Option.bind_assoc, s_bindN, asI_i, asB_b, asS_s, asP_p, asPS_p, asSl_sl, s_agg, s_tup, s_fn, joinB, joinI, joinR, beq_true, beq_false, Bool.not_true, Bool.not_false, Bool.not_not, cond_true, cond_false, neI, s_mapS, bindS_inl, bindS_inr, Bool.and_true, Bool.true_and, Bool.and_false, Bool.false_and, s_isNoneS, s_isNoneN, s_ref, s_adv, s_ldf, s_ld, s_ldM, s_st, s_stM, s_bs, s_bn, s_pp, bump_blk, bump_next, put_next, splice_z, splice_zz, splice_s, s_decT, s_decF, s_eqT, s_eqF, s_i64, s_u64, s_u8, Int.toNat_natCast, Nat.zero_add, s_room, s_chkT, s_rdSl, s_wrSl, s_ldN, s_ldNM, s_ldNf, List.drop_zero, List.take_succ_cons, List.take_zero, List.take_nil, List.take_length, Nat.mul_one, List.flatten_cons, List.flatten_nil, List.append_nil, List.nil_append, List.cons_append]
          exact Ok_some.2 ⟨by rw [if_pos (by omega)], E.trans g2⟩
        · by_cases c4 : at_ > (s.ws.length : Int) - n
          · simp -implicitDefEqProofs (disch := (first | omega | rfl | assumption | (simp only [put_next, bump_next, kill_next, List.length_cons, List.length_nil, List.mem_cons, List.not_mem_nil, or_false, not_false_eq_true]; first | omega | assumption))) only [Option.isSome_some, b2, k1, Nat.reduceAdd, Nat.reduceMul, Nat.reduceLT, Int.reduceToNat, Int.reduceAdd, Int.reduceSub, Int.reduceMul, s_beq, List.length_cons, List.length_nil, List.getD_cons_zero, List.getD_cons_succ, List.getElem?_cons_zero, List.getElem?_cons_succ, Option.bind_some, Option.bind_assoc, s_bindN, asI_i, asB_b, asS_s, asP_p, asPS_p, asSl_sl, s_agg, s_tup, s_fn, joinB, joinI, joinR, beq_true, beq_false, Bool.not_true, Bool.not_false, Bool.not_not, cond_true, cond_false, neI, s_mapS, bindS_inl, bindS_inr, Bool.and_true, Bool.true_and, Bool.and_false, Bool.false_and, s_isNoneS, s_isNoneN, s_ref, s_adv, s_ldf, s_ld, s_ldM, s_st, s_stM, s_bs, s_bn, s_pp, bump_blk, bump_next, put_next, splice_z, splice_zz, splice_s, s_decT, s_decF, s_eqT, s_eqF, s_i64, s_u64, s_u8, Int.toNat_natCast, Nat.zero_add, s_room, s_chkT, s_rdSl, s_wrSl, s_ldN, s_ldNM, s_ldNf, List.drop_zero, List.take_succ_cons, List.take_zero, List.take_nil, List.take_length, Nat.mul_one, List.flatten_cons, List.flatten_nil, List.append_nil, List.nil_append, List.cons_append]
            exact Ok_some.2 ⟨by rw [if_pos (by omega)], E.trans g2⟩
          · simp -implicitDefEqProofs (disch := (first | omega | rfl | assumption | (simp only [put_next, bump_next, kill_next, List.length_cons, List.length_nil, List.mem_cons, List.not_mem_nil, or_false, not_false_eq_true]; first | omega | assumption))) only [Option.isSome_some, b2, k1, Nat.reduceAdd, Nat.reduceMul, Nat.reduceLT, Int.reduceToNat, Int.reduceAdd, Int.reduceSub, Int.reduceMul, s_beq, List.length_cons, List.length_nil, List.getD_cons_zero, List.getD_cons_succ, List.getElem?_cons_zero, List.getElem?_cons_succ, Option.bind_some, Option.bind_assoc, s_bindN, asI_i, asB_b, asS_s, asP_p, asPS_p, asSl_sl, s_agg, s_tup, s_fn, joinB, joinI, joinR, beq_true, beq_false, Bool.not_true, Bool.not_false, Bool.not_not, cond_true, cond_false, neI, s_mapS, bindS_inl, bindS_inr, Bool.and_true, Bool.true_and, Bool.and_false, Bool.false_and, s_isNoneS, s_isNoneN, s_ref, s_adv, s_ldf, s_ld, s_ldM, s_st, s_stM, s_bs, s_bn, s_pp, bump_blk, bump_next, put_next, splice_z, splice_zz, splice_s, s_decT, s_decF, s_eqT, s_eqF, s_i64, s_u64, s_u8, Int.toNat_natCast, Nat.zero_add, s_room, s_chkT, s_rdSl, s_wrSl, s_ldN, s_ldNM, s_ldNf, List.drop_zero, List.take_succ_cons, List.take_zero, List.take_nil, List.take_length, Nat.mul_one, List.flatten_cons, List.flatten_nil, List.append_nil, List.nil_append, List.cons_append]
            exact Ok_some.2 ⟨by rw [if_neg (by omega)], E.trans g2⟩
/-- are two lists of words the same? -/
theorem rsame_ok {σ : AH O} {a b : SA} {l l' : List Int} (h : Imm 1 a l.length (u64s l)) (h' : Imm 1 b l'.length (u64s l')) (hl : l.length ≤ 4194304) : haymowref05_Same [.sl a l.length, .sl b l'.length] σ = some (.b (decide (l = l')), σ) := by
  by_cases hle : l.length = l'.length
  · have hq : Ok (haymowref05_Same [.sl a l.length, .sl b l'.length] σ) fun r => r = (.b (decide (l = l')), σ) := by
      simp -implicitDefEqProofs (disch := (first | omega | rfl | assumption | (simp only [put_next, bump_next, kill_next, List.length_cons, List.length_nil, List.mem_cons, List.not_mem_nil, or_false, not_false_eq_true]; first | omega | assumption))) only [haymowref05_Same, haymowref05_Same_c, Nat.reduceAdd, Nat.reduceMul, Nat.reduceLT, Int.reduceToNat, Int.reduceAdd, Int.reduceSub, Int.reduceMul, s_beq, List.length_cons, List.length_nil, List.getD_cons_zero, List.getD_cons_succ, List.getElem?_cons_zero, List.getElem?_cons_succ, Option.bind_some, Option.bind_assoc, s_bindN, asI_i, asB_b, asS_s, asP_p, asPS_p, asSl_sl, s_agg, s_tup, s_fn, joinB, joinI, joinR, beq_true, beq_false, Bool.not_true, Bool.not_false, Bool.not_not, cond_true, cond_false, neI, s_mapS, bindS_inl, bindS_inr, Bool.and_true, Bool.true_and, Bool.and_false, Bool.false_and, s_isNoneS, s_isNoneN, s_ref, s_adv, s_ldf, s_ld, s_ldM, s_st, s_stM, s_bs, s_bn, s_pp, bump_blk, bump_next, put_next, splice_z, splice_zz, splice_s, s_decT, s_decF, s_eqT, s_eqF, s_i64, s_u64, s_u8, Int.toNat_natCast, Nat.zero_add, s_room, s_chkT, s_rdSl, s_wrSl, s_ldN, s_ldNM, s_ldNf, List.drop_zero, List.take_succ_cons, List.take_zero, List.take_nil, List.take_length, Nat.mul_one, List.flatten_cons, List.flatten_nil, List.append_nil, List.nil_append, List.cons_append]
      refine Ok.bindS (Q := fun r => (r = .inl ([], σ) ∧ l = l') ∨ (r = .inr (.b false, σ) ∧ l ≠ l')) ?_ ?_ ?_
      · refine Ok.count l.length (fun k s => s = ([.i .i64 (k : Int)], σ) ∧ l.take k = l'.take k) ?_ ?_ ⟨rfl, rfl⟩
        · rintro k s hk ⟨rfl, ht⟩
          have hx := List.getElem?_eq_getElem hk
          have hk' : k < l'.length := by omega
          have hy := List.getElem?_eq_getElem hk'
          obtain ⟨b1, o1, rfl, q1⟩ := (h O σ).at1 (u64s_get hx)
          obtain ⟨b2, o2, rfl, q2⟩ := (h' O σ).at1 (u64s_get hy)
          rw [Nat.mul_one] at q1 q2
          by_cases he : l[k] = l'[k]
          · simp -implicitDefEqProofs (disch := (first | omega | rfl | assumption | (simp only [put_next, bump_next, kill_next, List.length_cons, List.length_nil, List.mem_cons, List.not_mem_nil, or_false, not_false_eq_true]; first | omega | assumption))) only [haymowref05_Same_L1, q1, q2, Nat.reduceAdd, Nat.reduceMul, Nat.reduceLT, Int.reduceToNat, Int.reduceAdd, Int.reduceSub, Int.reduceMul, s_beq, List.length_cons, List.length_nil, List.getD_cons_zero, List.getD_cons_succ, List.getElem?_cons_zero, List.getElem?_cons_succ, Option.bind_some, Option.bind_assoc, s_bindN, asI_i, asB_b, asS_s, asP_p, asPS_p, asSl_sl, s_agg, s_tup, s_fn, joinB, joinI, joinR, beq_true, beq_false, Bool.not_true, Bool.not_false, Bool.not_not, cond_true, cond_false, neI, s_mapS, bindS_inl, bindS_inr, Bool.and_true, Bool.true_and, Bool.and_false, Bool.false_and, s_isNoneS, s_isNoneN, s_ref, s_adv, s_ldf, s_ld, s_ldM, s_st, s_stM, s_bs, s_bn, s_pp, bump_blk, bump_next, put_next, splice_z, splice_zz, splice_s, s_decT, s_decF, s_eqT, s_eqF, s_i64, s_u64, s_u8, Int.toNat_natCast, Nat.zero_add, s_room, s_chkT, s_rdSl, s_wrSl, s_ldN, s_ldNM, s_ldNf, List.drop_zero, List.take_succ_cons, List.take_zero, List.take_nil, List.take_length, Nat.mul_one, List.flatten_cons, List.flatten_nil, List.append_nil, List.nil_append, List.cons_append]
            refine Ok_some.2 ⟨by simp, ?_⟩
            rw [List.take_add_one, List.take_add_one, ht, hx, hy, he]
          · simp -implicitDefEqProofs (disch := (first | omega | rfl | assumption | (simp only [put_next, bump_next, kill_next, List.length_cons, List.length_nil, List.mem_cons, List.not_mem_nil, or_false, not_false_eq_true]; first | omega | assumption))) only [haymowref05_Same_L1, q1, q2, Nat.reduceAdd, Nat.reduceMul, Nat.reduceLT, Int.reduceToNat, Int.reduceAdd, Int.reduceSub, Int.reduceMul, s_beq, List.length_cons, List.length_nil, List.getD_cons_zero, List.getD_cons_succ, List.getElem?_cons_zero, List.getElem?_cons_succ, Option.bind_some, Option.bind_assoc, s_bindN, asI_i, asB_b, asS_s, asP_p, asPS_p, asSl_sl, s_agg, s_tup, s_fn, joinB, joinI, joinR, beq_true, beq_false, Bool.not_true, Bool.not_false, Bool.not_not, cond_true, cond_false, neI, s_mapS, bindS_inl, bindS_inr, Bool.and_true, Bool.true_and, Bool.and_false, Bool.false_and, s_isNoneS, s_isNoneN, s_ref, s_adv, s_ldf, s_ld, s_ldM, s_st, s_stM, s_bs, s_bn, s_pp, bump_blk, bump_next, put_next, splice_z, splice_zz, splice_s, s_decT, s_decF, s_eqT, s_eqF, s_i64, s_u64, s_u8, Int.toNat_natCast, Nat.zero_add, s_room, s_chkT, s_rdSl, s_wrSl, s_ldN, s_ldNM, s_ldNf, List.drop_zero, List.take_succ_cons, List.take_zero, List.take_nil, List.take_length, Nat.mul_one, List.flatten_cons, List.flatten_nil, List.append_nil, List.nil_append, List.cons_append]
            refine Ok_some.2 (.inr ⟨rfl, fun e => he ?_⟩)
            subst e; rfl
        · rintro s ⟨rfl, ht⟩
          simp -implicitDefEqProofs (disch := (first | omega | rfl | assumption | (simp only [put_next, bump_next, kill_next, List.length_cons, List.length_nil, List.mem_cons, List.not_mem_nil, or_false, not_false_eq_true]; first | omega | assumption))) only [haymowref05_Same_L1, Nat.reduceAdd, Nat.reduceMul, Nat.reduceLT, Int.reduceToNat, Int.reduceAdd, Int.reduceSub, Int.reduceMul, s_beq, List.length_cons, List.length_nil, List.getD_cons_zero, List.getD_cons_succ, List.getElem?_cons_zero, List.getElem?_cons_succ, Option.bind_some, Option.bind_assoc, s_bindN, asI_i, asB_b, asS_s, asP_p, asPS_p, asSl_sl, s_agg, s_tup, s_fn, joinB, joinI, joinR, beq_true, beq_false, Bool.not_true, Bool.not_false, Bool.not_not, cond_true, cond_false, neI, s_mapS, bindS_inl, bindS_inr, Bool.and_true, Bool.true_and, Bool.and_false, Bool.false_and, s_isNoneS, s_isNoneN, s_ref, s_adv, s_ldf, s_ld, s_ldM, s_st, s_stM, s_bs, s_bn, s_pp, bump_blk, bump_next, put_next, splice_z, splice_zz, splice_s, s_decT, s_decF, s_eqT, s_eqF, s_i64, s_u64, s_u8, Int.toNat_natCast, Nat.zero_add, s_room, s_chkT, s_rdSl, s_wrSl, s_ldN, s_ldNM, s_ldNf, List.drop_zero, List.take_succ_cons, List.take_zero, List.take_nil, List.take_length, Nat.mul_one, List.flatten_cons, List.flatten_nil, List.append_nil, List.nil_append, List.cons_append]
          refine Ok_some.2 (.inl ⟨rfl, ?_⟩)
          rw [List.take_length, hle, List.take_length] at ht
          exact ht
      · rintro s (⟨e, ht⟩ | ⟨e, _⟩)
        · cases e
          simp -implicitDefEqProofs (disch := (first | omega | rfl | assumption | (simp only [put_next, bump_next, kill_next, List.length_cons, List.length_nil, List.mem_cons, List.not_mem_nil, or_false, not_false_eq_true]; first | omega | assumption))) only [Nat.reduceAdd, Nat.reduceMul, Nat.reduceLT, Int.reduceToNat, Int.reduceAdd, Int.reduceSub, Int.reduceMul, s_beq, List.length_cons, List.length_nil, List.getD_cons_zero, List.getD_cons_succ, List.getElem?_cons_zero, List.getElem?_cons_succ, Option.bind_some, Option.bind_assoc, s_bindN, asI_i, asB_b, asS_s, asP_p, asPS_p, asSl_sl, s_agg, s_tup, s_fn, joinB, joinI, joinR, beq_true, beq_false, Bool.not_true, Bool.not_false, Bool.not_not, cond_true, cond_false, neI, s_mapS, bindS_inl, bindS_inr, Bool.and_true, Bool.true_and, Bool.and_false, Bool.false_and, s_isNoneS, s_isNoneN, s_ref, s_adv, s_ldf, s_ld, s_ldM, s_st, s_stM, s_bs, s_bn, s_pp, bump_blk, bump_next, put_next, splice_z, splice_zz, splice_s, s_decT, s_decF, s_eqT, s_eqF, s_i64, s_u64, s_u8, Int.toNat_natCast, Nat.zero_add, s_room, s_chkT, s_rdSl, s_wrSl, s_ldN, s_ldNM, s_ldNf, List.drop_zero, List.take_succ_cons, List.take_zero, List.take_nil, List.take_length, Nat.mul_one, List.flatten_cons, List.flatten_nil, List.append_nil, List.nil_append, List.cons_append]
          refine Ok_some.2 ?_
          rfl
        · cases e
      · rintro r (⟨e, _⟩ | ⟨e, ht⟩)
        · cases e
        · cases e
          rw [decide_eq_false ht]
    obtain ⟨r, e, rfl⟩ := hq
    exact e
  · have : l ≠ l' := fun e => hle (by rw [e])
    rw [decide_eq_false this]
    simp -implicitDefEqProofs (disch := (first | omega | rfl | assumption | (simp only [put_next, bump_next, kill_next, List.length_cons, List.length_nil, List.mem_cons, List.not_mem_nil, or_false, not_false_eq_true]; first | omega | assumption))) only [haymowref05_Same, haymowref05_Same_c, Nat.reduceAdd, Nat.reduceMul, Nat.reduceLT, Int.reduceToNat, Int.reduceAdd, Int.reduceSub, Int.reduceMul, s_beq, List.length_cons, List.length_nil, List.getD_cons_zero, List.getD_cons_succ, List.getElem?_cons_zero, List.getElem?_cons_succ, Option.bind_some, Option.bind_assoc, s_bindN, asI_i, asB_b, asS_s, asP_p, asPS_p, asSl_sl, s_agg, s_tup, s_fn, joinB, joinI, joinR, beq_true, beq_false, Bool.not_true, Bool.not_false, Bool.not_not, cond_true, cond_false, neI, s_mapS, bindS_inl, bindS_inr, Bool.and_true, Bool.true_and, Bool.and_false, Bool.false_and, s_isNoneS, s_isNoneN, s_ref, s_adv, s_ldf, s_ld, s_ldM, s_st, s_stM, s_bs, s_bn, s_pp, bump_blk, bump_next, put_next, splice_z, splice_zz, splice_s, s_decT, s_decF, s_eqT, s_eqF, s_i64, s_u64, s_u8, Int.toNat_natCast, Nat.zero_add, s_room, s_chkT, s_rdSl, s_wrSl, s_ldN, s_ldNM, s_ldNf, List.drop_zero, List.take_succ_cons, List.take_zero, List.take_nil, List.take_length, Nat.mul_one, List.flatten_cons, List.flatten_nil, List.append_nil, List.nil_append, List.cons_append]

/-! ### A state of one's own -/
theorem ROwn.at {σ : AH O} {base : Nat} {a : SA} {L : List RSp} (h : ROwn σ base a L) {i : Nat} {s : RSp} (hs : L[i]? = some s) :
    ∃ k, a = .loc (.n k) 0 2 ∧ σ.blk k = some (.cells true T_haymowref08_Space (L.flatMap RSp.cells)) ∧ k < σ.next ∧ (L.flatMap RSp.cells)[i * 2]? = some (.b s.op) ∧ (L.flatMap RSp.cells)[i * 2 + 1]? = some (.sl s.a s.ws.length) ∧ OwnS σ T_uint64 1 s.a s.ws.length (u64s s.ws) := by
  have hlt := (List.getElem?_eq_some_iff.1 hs).1
  obtain ⟨k, rfl, hk, hk'⟩ := h.own.loc (by omega)
  have g0 := fm_get' RSp.len (j := 0) (by omega) hs
  have g1 := fm_get' RSp.len (j := 1) (by omega) hs
  obtain ⟨n, ho⟩ := h.sls.own s.sl (List.mem_map.2 ⟨s, List.mem_of_getElem? hs, rfl⟩)
  have hn := ho.len
  simp only [RSp.sl, u64s_len, Nat.mul_one] at hn
  subst hn
  exact ⟨k, rfl, hk, hk', g0, g1, ho⟩
theorem ROwn.of {σ σ' : AH O} {base : Nat} {a : SA} {L : List RSp} (h : ROwn σ base a L) (hn : σ.next ≤ σ'.next) (hb : ∀ b, b ∈ SA.bk a ∨ b ∈ sbk (L.map RSp.sl) → σ'.blk b = σ.blk b) : ROwn σ' base a L :=
  ⟨h.own.of hn fun b hb' => hb b (.inl hb'), h.sls.of hn fun b hb' => hb b (.inr hb'), h.nb, h.ns⟩
theorem ROwn.ext {σ σ' : AH O} {base : Nat} {a : SA} {L : List RSp} (h : ROwn σ base a L) (he : Ext σ σ') : ROwn σ' base a L :=
  h.of he.next fun b hb => he.blk b (by rcases hb with hb | hb; exact h.own.lt b hb; exact h.sls.lt b hb)
/-- rows that are frozen one by one -/
theorem FZL.rows {d : Nat} {H : Nat → Option (Blk O)} (σ : AH O) : ∀ (L : List RSp), Sls σ T_uint64 1 (L.map RSp.sl) → (∀ b ∈ sbk (L.map RSp.sl), H b = σ.blk b) →
    ∃ L' : List RSp, FZL (d + 3) H (sbk (L.map RSp.sl)) (L.flatMap RSp.cells) (L'.flatMap RSp.cells) ∧ L'.map RSp.v = L.map RSp.v ∧ ∀ s ∈ L', Imm 1 s.a s.ws.length (u64s s.ws)
  | [], _, _ => ⟨[], FZL.nil, rfl, fun s hs => by cases hs⟩
  | s :: L, h, hH => by
    obtain ⟨n, ho⟩ := h.own s.sl List.mem_cons_self
    have hn := ho.len
    simp only [RSp.sl, u64s_len, Nat.mul_one] at hn
    subst hn
    have hL : Sls σ T_uint64 1 (L.map RSp.sl) := ⟨fun p hp => h.own p (List.mem_cons_of_mem _ hp), fun i j p q b h1 h2 h3 h4 => by have := h.apart (i + 1) (j + 1) p q b (by simpa using h1) (by simpa using h2) h3 h4; omega⟩
    have hd : ∀ b ∈ SA.bk s.a, b ∉ sbk (L.map RSp.sl) := fun b hb hb' => by
      obtain ⟨p, hp, hb'⟩ := mem_sbk.1 hb'
      obtain ⟨j, hj⟩ := List.getElem?_of_mem hp
      have := h.apart 0 (j + 1) s.sl p b (by simp) (by simpa using hj) hb hb'
      omega
    obtain ⟨L', g1, g2, g3⟩ := FZL.rows (d := d) σ L hL fun b hb => hH b (by simp only [List.map_cons, sbk, List.flatMap_cons, List.mem_append]; exact .inr hb)
    obtain ⟨a', f1, f2⟩ := FZ.sl (d := d + 1) (H := H) (L := []) ho (fun b hb => hH b (by simp only [List.map_cons, sbk, List.flatMap_cons, List.mem_append]; exact .inl hb)) (FZL.flat (u64s_flat _)) rfl (by simp)
    rw [List.append_nil] at f1
    refine ⟨⟨a', s.op, s.ws⟩ :: L', ?_, by simp only [List.map_cons, g2]; rfl, fun x hx => ?_⟩
    · have h1 : FZL (d + 3) H (SA.bk s.a ++ []) (RSp.cells s) (RSp.cells ⟨a', s.op, s.ws⟩) := by
        have := FZL.cons0 (d := d + 3) (FZ.flat (d := d + 2) (H := H) (v := .b s.op) rfl) (FZL.cons f1 FZL.nil (by simp))
        exact this
      have := FZL.append h1 g1 (by simpa using hd)
      simpa [sbk, RSp.sl] using this
    · rcases List.mem_cons.1 hx with rfl | hx
      · exact f2
      · exact g3 x hx
/-- it is never written again -/
theorem ROwn.frz {σ : AH O} {base : Nat} {a : SA} {L : List RSp} (h : ROwn σ base a L) (m : Met) : ∃ a' L', FZ 7 σ.blk (SA.bk a ++ sbk (L.map RSp.sl)) (rst a L.length m) (rst a' L'.length m) ∧ RImm a' L' ∧ L'.map RSp.v = L.map RSp.v ∧ L'.length = L.length := by
  obtain ⟨L', g1, g2, g3⟩ := FZL.rows (d := 2) (H := σ.blk) σ L h.sls fun _ _ => rfl
  have hl : L'.length = L.length := by simpa using congrArg List.length g2
  obtain ⟨a', f1, f2⟩ := FZ.sl (d := 4) (H := σ.blk) h.own (fun _ _ => rfl) g1 (by rw [fm_len RSp.len, fm_len RSp.len, hl]) (fun b hb => (h.nb b hb).2)
  refine ⟨a', L', ?_, ⟨by rw [hl]; exact f2, g3⟩, g2, hl⟩
  rw [hl]
  refine FZ.agg ?_
  have := FZL.cons f1 (FZL.flat (d := 5) (H := σ.blk) (vs := m.cells) (by simp [Met.cells, AV.flat])) (by simp)
  simpa using this
end Go.Abs.Try
