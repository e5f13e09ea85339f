/-
  The document's answer for layer 8, as it is run: a copy of a state; spaces opened, closed, grown. No conditions.
-/
import Derived.Test.YtjfblnpolgoojaaR8
set_option linter.unusedVariables false
set_option linter.unusedSimpArgs false
set_option linter.constructorNameAsVariable false
set_option linter.unusedSimpArgs false
set_option linter.unusedVariables false
set_option maxHeartbeats 1000000
namespace Go.Abs.Try
open Go Go.Abs
variable {O : Type}

theorem rcells_set {L : List RSp} {i : Nat} {s : RSp} {x : SA} (hs : L[i]? = some s) : splice (L.flatMap RSp.cells) (i * 2 + 1) [.sl x s.ws.length] = (L.set i { s with a := x }).flatMap RSp.cells :=
  fm_splice RSp.len L i 1 [.sl x s.ws.length] s { s with a := x } hs (by simp) (by simp [splice, RSp.cells])
/-- a copy of a state -/
theorem copied_ok {σ : AH O} {a : SA} {L : List RSp} {m : Met} (h : RImm a L) (hl : L.length ≤ 262144) (hw : ∀ s ∈ L, s.ws.length ≤ 4194304) :
    Ok (haymowref08_copied [rst a L.length m] σ) fun r => ∃ a' L', r.1 = rst a' L.length m ∧ ROwn r.2 σ.next a' L' ∧ L'.map RSp.v = L.map RSp.v ∧ L'.length = L.length ∧ Ext σ r.2 := by
  have hz : Nat.ble ((0 + L.length) * 33) 35184372088832 = true := s_room (by omega)
  generalize hσ1 : ((((σ.bump 2).put σ.next (.cells true T_haymowref08_State (.sl a L.length :: m.cells))).put (σ.next + 1) (.cells true T_haymowref08_State [.sl .nil 0, .i .u64 0, .i .u64 0, .i .u64 0, .i .u64 0, .i .i64 0, .i .i64 0])).bump 2).put (σ.next + 2) (.cells true T_haymowref08_Space []) = σ1
  have hr := (h.imm O σ1).rdSl
  have E1 : Ext σ σ1 := by rw [← hσ1]; exact (ext_of (by simp only [put_next, bump_next, kill_next]; omega) (fun b hb => by simp -implicitDefEqProofs (disch := (first | omega | rfl | assumption | (simp only [put_next, bump_next, kill_next, List.length_cons, List.length_nil, List.mem_cons, List.not_mem_nil, or_false, not_false_eq_true]; first | omega | assumption))) only [s_bn, s_kn, bump_blk, s_ext]))
  have n1 : σ1.next = σ.next + 4 := by rw [← hσ1]; rfl
  have b1 : σ1.blk σ.next = some (.cells true T_haymowref08_State (.sl a L.length :: m.cells)) := by rw [← hσ1, s_bn (by omega), bump_blk, s_bn (by omega), s_bs]
  have c1 : ∃ cs, cs.length = 7 ∧ σ1.blk (σ.next + 1) = some (.cells true T_haymowref08_State cs) := by rw [← hσ1, s_bn (by omega), bump_blk, s_bs]; exact ⟨_, rfl, rfl⟩
  have d1 : σ1.blk (σ.next + 2) = some (.cells true T_haymowref08_Space []) := by rw [← hσ1, s_bs]
  simp only [Met.cells] at hσ1
  simp -implicitDefEqProofs (disch := (first | omega | rfl | assumption | (simp only [put_next, bump_next, kill_next, List.length_cons, List.length_nil, List.mem_cons, List.not_mem_nil, or_false, not_false_eq_true]; first | omega | assumption))) only [haymowref08_copied, haymowref08_copied_c, rst, Met.cells, hz, hσ1, hr, Nat.reduceAdd, Nat.reduceMul, Nat.reduceLT, Int.reduceToNat, Int.reduceAdd, Int.reduceSub, Int.reduceMul, s_beq, List.length_cons, List.length_nil, List.getD_cons_zero, List.getD_cons_succ, List.getElem?_cons_zero, List.getElem?_cons_succ, Option.bind_some, Option.bind_assoc, s_bindN, asI_i, asB_b, asS_s, asP_p, asPS_p, asSl_sl, s_agg, s_tup, s_fn, joinB, joinI, joinR, beq_true, beq_false, Bool.not_true, Bool.not_false, Bool.not_not, cond_true, cond_false, neI, s_mapS, bindS_inl, bindS_inr, Bool.and_true, Bool.true_and, Bool.and_false, Bool.false_and, s_isNoneS, s_isNoneN, s_ref, s_adv, s_ldf, s_ld, s_ldM, s_st, s_stM, s_bs, s_bn, s_pp, bump_blk, bump_next, put_next, splice_z, splice_zz, splice_s, s_decT, s_decF, s_eqT, s_eqF, s_i64, s_u64, s_u8, Int.toNat_natCast, Nat.zero_add, s_room, s_chkT, s_rdSl, s_wrSl, s_ldN, s_ldNM, s_ldNf, List.drop_zero, List.take_succ_cons, List.take_zero, List.take_nil, List.take_length, Nat.mul_one, List.flatten_cons, List.flatten_nil, List.append_nil, List.nil_append, List.cons_append]
  clear hσ1 hr
  refine Ok.step (app_ok (el := T_haymowref08_Space) (es := 2) (n := 0) (cs := []) (OwnS.new (by simp) d1 (by omega)) (by simp [SA.bk]) (by omega) h.imm.len) fun r ⟨a1, g1, g2, g3, g4, g5⟩ => ?_
  obtain ⟨q, σ2⟩ := r
  simp only at g1 g2 g3 g4 g5
  subst g1
  rw [Nat.zero_add, List.nil_append] at g2
  simp only [SA.bk, List.mem_singleton] at g4
  have b2 := (g4 σ.next (by omega) (by omega)).trans b1
  obtain ⟨cs1, hc1, c1⟩ := c1
  have c2 := (g4 (σ.next + 1) (by omega) (by omega)).trans c1
  have E2 : Ext σ σ2 := ⟨by rw [g3]; exact E1.next, fun b hb => (g4 b (by omega) (by omega)).trans (E1.blk b hb)⟩
  simp -implicitDefEqProofs (disch := (first | omega | rfl | assumption | (simp only [put_next, bump_next, kill_next, List.length_cons, List.length_nil, List.mem_cons, List.not_mem_nil, or_false, not_false_eq_true]; first | omega | assumption))) only [Nat.reduceAdd, Nat.reduceMul, Nat.reduceLT, Int.reduceToNat, Int.reduceAdd, Int.reduceSub, Int.reduceMul, s_beq, List.length_cons, List.length_nil, List.getD_cons_zero, List.getD_cons_succ, List.getElem?_cons_zero, List.getElem?_cons_succ, Option.bind_some, Option.bind_assoc, s_bindN, asI_i, asB_b, asS_s, asP_p, asPS_p, asSl_sl, s_agg, s_tup, s_fn, joinB, joinI, joinR, beq_true, beq_false, Bool.not_true, Bool.not_false, Bool.not_not, cond_true, cond_false, neI, s_mapS, bindS_inl, bindS_inr, Bool.and_true, Bool.true_and, Bool.and_false, Bool.false_and, s_isNoneS, s_isNoneN, s_ref, s_adv, s_ldf, s_ld, s_ldM, s_st, s_stM, s_bs, s_bn, s_pp, bump_blk, bump_next, put_next, splice_z, splice_zz, splice_s, s_decT, s_decF, s_eqT, s_eqF, s_i64, s_u64, s_u8, Int.toNat_natCast, Nat.zero_add, s_room, s_chkT, s_rdSl, s_wrSl, s_ldN, s_ldNM, s_ldNf, List.drop_zero, List.take_succ_cons, List.take_zero, List.take_nil, List.take_length, Nat.mul_one, List.flatten_cons, List.flatten_nil, List.append_nil, List.nil_append, List.cons_append]
  -- the words
  refine Ok.step (Q := fun r => ∃ (L' : List RSp) (σ3 : AH O), r = ([], σ3) ∧ ROwn σ3 (σ.next + 2) a1 L' ∧ L'.map RSp.v = L.map RSp.v ∧ L'.length = L.length ∧ σ2.next ≤ σ3.next ∧ ∀ b, b < σ2.next → b ∉ SA.bk a1 → σ3.blk b = σ2.blk b) ?_ ?_
  · refine Ok.count L.length (fun k s => ∃ (L' : List RSp) (σ3 : AH O), s = ([.i .i64 (k : Int)], σ3) ∧ OwnS σ3 T_haymowref08_Space 2 a1 L.length (L'.flatMap RSp.cells) ∧ Sls σ3 T_uint64 1 ((L'.take k).map RSp.sl) ∧ (∀ b ∈ sbk ((L'.take k).map RSp.sl), σ2.next ≤ b) ∧
        L'.map RSp.v = L.map RSp.v ∧ (∀ i, k ≤ i → L'[i]? = L[i]?) ∧ σ2.next ≤ σ3.next ∧ ∀ b, b < σ2.next → b ∉ SA.bk a1 → σ3.blk b = σ2.blk b) ?_ ?_ ⟨L, σ2, rfl, g2, by rw [List.take_zero]; exact Sls.nil _ _ _, by simp [sbk], rfl, fun _ _ => rfl, Nat.le_refl _, fun _ _ _ => rfl⟩
    · rintro k s hk ⟨L', σ3, rfl, k1, k2, k3, k4, k5, k6, k7⟩
      have hx0 := List.getElem?_eq_getElem hk
      generalize L[k] = x at hx0
      have hx : L'[k]? = some x := (k5 k (Nat.le_refl _)).trans hx0
      have hll : L'.length = L.length := by simpa using congrArg List.length k4
      have hwx := hw x (List.mem_of_getElem? hx0)
      have himx := h.ws x (List.mem_of_getElem? hx0)
      obtain ⟨kb, rfl, q1, q2⟩ := k1.loc (by omega)
      have f1 := fm_get' RSp.len (j := 1) (by omega) hx
      simp only [RSp.cells, List.getElem?_cons_succ, List.getElem?_cons_zero] at f1
      have kbn : kb < σ2.next := by
        have := g2.lt kb (by simp [SA.bk]); exact this
      have hz2 : Nat.ble ((0 + x.ws.length) * 9) 35184372088832 = true := s_room (by omega)
      have hr := (himx O ((σ3.bump 2).put σ3.next (.cells true T_uint64 []))).rdSl
      simp -implicitDefEqProofs (disch := (first | omega | rfl | assumption | (simp only [put_next, bump_next, kill_next, List.length_cons, List.length_nil, List.mem_cons, List.not_mem_nil, or_false, not_false_eq_true]; first | omega | assumption))) only [haymowref08_copied_L1, q1, f1, hr, hz2, Nat.reduceAdd, Nat.reduceMul, Nat.reduceLT, Int.reduceToNat, Int.reduceAdd, Int.reduceSub, Int.reduceMul, s_beq, List.length_cons, List.length_nil, List.getD_cons_zero, List.getD_cons_succ, List.getElem?_cons_zero, List.getElem?_cons_succ, Option.bind_some, Option.bind_assoc, s_bindN, asI_i, asB_b, asS_s, asP_p, asPS_p, asSl_sl, s_agg, s_tup, s_fn, joinB, joinI, joinR, beq_true, beq_false, Bool.not_true, Bool.not_false, Bool.not_not, cond_true, cond_false, neI, s_mapS, bindS_inl, bindS_inr, Bool.and_true, Bool.true_and, Bool.and_false, Bool.false_and, s_isNoneS, s_isNoneN, s_ref, s_adv, s_ldf, s_ld, s_ldM, s_st, s_stM, s_bs, s_bn, s_pp, bump_blk, bump_next, put_next, splice_z, splice_zz, splice_s, s_decT, s_decF, s_eqT, s_eqF, s_i64, s_u64, s_u8, Int.toNat_natCast, Nat.zero_add, s_room, s_chkT, s_rdSl, s_wrSl, s_ldN, s_ldNM, s_ldNf, List.drop_zero, List.take_succ_cons, List.take_zero, List.take_nil, List.take_length, Nat.mul_one, List.flatten_cons, List.flatten_nil, List.append_nil, List.nil_append, List.cons_append]
      refine Ok.step (app_ok (el := T_uint64) (es := 1) (n := 0) (cs := []) (OwnS.new (by simp) s_bs (by simp)) (by simp [SA.bk]) (by simp) himx.len) fun r ⟨a2, p1, p2, p3, p4, p5⟩ => ?_
      obtain ⟨q, σ4⟩ := r
      simp only at p1 p2 p3 p4 p5
      subst p1
      rw [Nat.zero_add, List.nil_append] at p2
      simp only [SA.bk, List.mem_singleton, put_next, bump_next] at p3 p4
      have q4 := (p4 kb (by omega) (by omega)).trans ((s_bn (by omega)).trans q1)
      have hlen2 : k * 2 + 1 < (L'.flatMap RSp.cells).length := by rw [fm_len RSp.len, hll]; omega
      simp -implicitDefEqProofs (disch := (first | omega | rfl | assumption | (simp only [put_next, bump_next, kill_next, List.length_cons, List.length_nil, List.mem_cons, List.not_mem_nil, or_false, not_false_eq_true]; first | omega | assumption))) only [q4, rcells_set hx, Nat.reduceAdd, Nat.reduceMul, Nat.reduceLT, Int.reduceToNat, Int.reduceAdd, Int.reduceSub, Int.reduceMul, s_beq, List.length_cons, List.length_nil, List.getD_cons_zero, List.getD_cons_succ, List.getElem?_cons_zero, List.getElem?_cons_succ, Option.bind_some, Option.bind_assoc, s_bindN, asI_i, asB_b, asS_s, asP_p, asPS_p, asSl_sl, s_agg, s_tup, s_fn, joinB, joinI, joinR, beq_true, beq_false, Bool.not_true, Bool.not_false, Bool.not_not, cond_true, cond_false, neI, s_mapS, bindS_inl, bindS_inr, Bool.and_true, Bool.true_and, Bool.and_false, Bool.false_and, s_isNoneS, s_isNoneN, s_ref, s_adv, s_ldf, s_ld, s_ldM, s_st, s_stM, s_bs, s_bn, s_pp, bump_blk, bump_next, put_next, splice_z, splice_zz, splice_s, s_decT, s_decF, s_eqT, s_eqF, s_i64, s_u64, s_u8, Int.toNat_natCast, Nat.zero_add, s_room, s_chkT, s_rdSl, s_wrSl, s_ldN, s_ldNM, s_ldNf, List.drop_zero, List.take_succ_cons, List.take_zero, List.take_nil, List.take_length, Nat.mul_one, List.flatten_cons, List.flatten_nil, List.append_nil, List.nil_append, List.cons_append]
      refine Ok_some.2 ⟨L'.set k { x with a := a2 }, _, rfl, ?_, ?_, ?_, ?_, ?_, ?_, ?_⟩
      · refine OwnS.new ?_ s_bs (by simp only [put_next]; omega)
        rw [fm_len RSp.len, List.length_set, hll]
      · have ht : (L'.set k { x with a := a2 }).take (k + 1) = L'.take k ++ [{ x with a := a2 }] := by
          rw [List.take_add_one, List.getElem?_set, if_pos rfl, if_pos (by omega), List.take_set, List.set_eq_of_length_le (by rw [List.length_take]; omega)]; rfl
        rw [ht, List.map_append]
        refine Sls.snoc ?_ ⟨x.ws.length, ?_⟩ ?_
        · refine k2.of (by simp only [put_next]; omega) fun b hb => ?_
          have := k2.lt b hb
          have := k3 b hb
          rw [s_bn (by omega), p4 b (by omega) (by omega), s_bn (by omega)]; rfl
        · exact p2.of (by simp only [put_next]; omega) fun b hb => s_bn (by have := p5 b hb; omega)
        · intro b hb hb'
          have := p5 b hb
          have := k2.lt b hb'
          omega
      · have ht : (L'.set k { x with a := a2 }).take (k + 1) = L'.take k ++ [{ x with a := a2 }] := by
          rw [List.take_add_one, List.getElem?_set, if_pos rfl, if_pos (by omega), List.take_set, List.set_eq_of_length_le (by rw [List.length_take]; omega)]; rfl
        rw [ht, List.map_append, sbk_append]
        intro b hb
        rcases List.mem_append.1 hb with hb | hb
        · exact k3 b hb
        · simp only [List.map_cons, List.map_nil, sbk, List.flatMap_cons, List.flatMap_nil, List.append_nil] at hb
          have := p5 b hb; omega
      · rw [List.map_set, ← k4]
        apply List.ext_getElem?
        intro i
        rw [List.getElem?_set]
        split
        · rename_i hi; subst hi
          rw [List.getElem?_map, hx]
          simp [hll, hk, RSp.v]
        · rfl
      · intro i hi
        rw [List.getElem?_set, if_neg (by omega)]
        exact k5 i (by omega)
      · simp only [put_next]; omega
      · intro b hb hb'
        have : b ≠ kb := fun e => hb' (by simp [SA.bk, e])
        rw [s_bn this, p4 b (by omega) (by omega), s_bn (by omega)]
        exact k7 b hb hb'
    · rintro s ⟨L', σ3, rfl, k1, k2, k3, k4, k5, k6, k7⟩
      have hll : L'.length = L.length := by simpa using congrArg List.length k4
      simp -implicitDefEqProofs (disch := (first | omega | rfl | assumption | (simp only [put_next, bump_next, kill_next, List.length_cons, List.length_nil, List.mem_cons, List.not_mem_nil, or_false, not_false_eq_true]; first | omega | assumption))) only [haymowref08_copied_L1, Nat.reduceAdd, Nat.reduceMul, Nat.reduceLT, Int.reduceToNat, Int.reduceAdd, Int.reduceSub, Int.reduceMul, s_beq, List.length_cons, List.length_nil, List.getD_cons_zero, List.getD_cons_succ, List.getElem?_cons_zero, List.getElem?_cons_succ, Option.bind_some, Option.bind_assoc, s_bindN, asI_i, asB_b, asS_s, asP_p, asPS_p, asSl_sl, s_agg, s_tup, s_fn, joinB, joinI, joinR, beq_true, beq_false, Bool.not_true, Bool.not_false, Bool.not_not, cond_true, cond_false, neI, s_mapS, bindS_inl, bindS_inr, Bool.and_true, Bool.true_and, Bool.and_false, Bool.false_and, s_isNoneS, s_isNoneN, s_ref, s_adv, s_ldf, s_ld, s_ldM, s_st, s_stM, s_bs, s_bn, s_pp, bump_blk, bump_next, put_next, splice_z, splice_zz, splice_s, s_decT, s_decF, s_eqT, s_eqF, s_i64, s_u64, s_u8, Int.toNat_natCast, Nat.zero_add, s_room, s_chkT, s_rdSl, s_wrSl, s_ldN, s_ldNM, s_ldNf, List.drop_zero, List.take_succ_cons, List.take_zero, List.take_nil, List.take_length, Nat.mul_one, List.flatten_cons, List.flatten_nil, List.append_nil, List.nil_append, List.cons_append]
      rw [← hll, List.take_length] at k2 k3
      refine Ok_some.2 ⟨L', σ3, rfl, ⟨by rw [hll]; exact k1, k2, fun b hb => ⟨by have := g5 b hb; omega, fun hb' => ?_⟩, fun b hb => ?_⟩, k4, hll, k6, k7⟩
      · have := g5 b hb
        have := k3 b hb'
        omega
      · have := k3 b hb; omega
  rintro r ⟨L', σ3, rfl, k1, k2, k3, k4, k5⟩
  have nb : ∀ b, b < σ.next + 2 → b ∉ SA.bk a1 := fun b hb hb' => by have := g5 b hb'; omega
  have b3 := (k5 σ.next (by omega) (nb _ (by omega))).trans b2
  have c3 := (k5 (σ.next + 1) (by omega) (nb _ (by omega))).trans c2
  match cs1, hc1, c3 with
  | [x0, x1, x2, x3, x4, x5, x6], _, c3 =>
  simp -implicitDefEqProofs (disch := (first | omega | rfl | assumption | (simp only [put_next, bump_next, kill_next, List.length_cons, List.length_nil, List.mem_cons, List.not_mem_nil, or_false, not_false_eq_true]; first | omega | assumption))) only [b3, c3, Met.cells, Nat.reduceAdd, Nat.reduceMul, Nat.reduceLT, Int.reduceToNat, Int.reduceAdd, Int.reduceSub, Int.reduceMul, s_beq, List.length_cons, List.length_nil, List.getD_cons_zero, List.getD_cons_succ, List.getElem?_cons_zero, List.getElem?_cons_succ, Option.bind_some, Option.bind_assoc, s_bindN, asI_i, asB_b, asS_s, asP_p, asPS_p, asSl_sl, s_agg, s_tup, s_fn, joinB, joinI, joinR, beq_true, beq_false, Bool.not_true, Bool.not_false, Bool.not_not, cond_true, cond_false, neI, s_mapS, bindS_inl, bindS_inr, Bool.and_true, Bool.true_and, Bool.and_false, Bool.false_and, s_isNoneS, s_isNoneN, s_ref, s_adv, s_ldf, s_ld, s_ldM, s_st, s_stM, s_bs, s_bn, s_pp, bump_blk, bump_next, put_next, splice_z, splice_zz, splice_s, s_decT, s_decF, s_eqT, s_eqF, s_i64, s_u64, s_u8, Int.toNat_natCast, Nat.zero_add, s_room, s_chkT, s_rdSl, s_wrSl, s_ldN, s_ldNM, s_ldNf, List.drop_zero, List.take_succ_cons, List.take_zero, List.take_nil, List.take_length, Nat.mul_one, List.flatten_cons, List.flatten_nil, List.append_nil, List.nil_append, List.cons_append]
  refine Ok_some.2 ⟨a1, L', rfl, ?_, k2, k3, ?_⟩
  · have := k1.of (σ' := ((σ3.put σ.next (.cells true T_haymowref08_State (.sl a1 L.length :: m.cells))).put (σ.next + 1) (.cells true T_haymowref08_State (.sl a1 L.length :: m.cells)))) (Nat.le_refl _) fun b hb => by
      have hb2 : σ.next + 2 ≤ b := by
        rcases hb with hb | hb
        · exact (k1.nb b hb).1
        · exact k1.ns b hb
      rw [s_bn (by omega), s_bn (by omega)]
    exact ⟨this.own, this.sls, fun b hb => ⟨by have := (this.nb b hb).1; omega, (this.nb b hb).2⟩, fun b hb => by have := this.ns b hb; omega⟩
  · refine ext_of (by simp only [put_next]; omega) fun b hb => ?_
    rw [s_bn (by omega), s_bn (by omega), k5 b (by omega) (nb b (by omega))]
    exact E2.blk b hb

/-! ### A state of one's own is turned -/
theorem ROwn.lt {σ : AH O} {base : Nat} {a : SA} {L : List RSp} (h : ROwn σ base a L) : ∀ b, b ∈ SA.bk a ∨ b ∈ sbk (L.map RSp.sl) → base ≤ b ∧ b < σ.next := fun b hb => by
  rcases hb with hb | hb
  · exact ⟨(h.nb b hb).1, h.own.lt b hb⟩
  · exact ⟨h.ns b hb, h.sls.lt b hb⟩
/-- one space is another, its words new or gone -/
theorem ROwn.repl {σ σ' : AH O} {base : Nat} {a : SA} {L : List RSp} (h : ROwn σ base a L) {i : Nat} {s s' : RSp} (hs : L[i]? = some s) {k : Nat} (hk : a = .loc (.n k) 0 2) (hn : σ.next ≤ σ'.next)
    (hb : ∀ b ∈ sbk (L.map RSp.sl), b ∉ SA.bk s.a → σ'.blk b = σ.blk b) (hsp : σ'.blk k = some (.cells true T_haymowref08_Space ((L.set i s').flatMap RSp.cells)))
    (how : ∃ n, OwnS σ' T_uint64 1 s'.a n (u64s s'.ws)) (hf : ∀ b ∈ SA.bk s'.a, b ∈ SA.bk s.a ∨ (σ.next ≤ b)) : ROwn σ' base a (L.set i s') := by
  have hs' : (L.map RSp.sl)[i]? = some s.sl := by rw [List.getElem?_map, hs]; rfl
  have hmap : (L.set i s').map RSp.sl = (L.map RSp.sl).set i s'.sl := by rw [List.map_set]
  have kb : k ∈ SA.bk a := by rw [hk]; simp [SA.bk]
  have hkk := h.nb k kb
  have hlt := h.lt
  have hsm : ∀ b ∈ SA.bk s.a, b ∈ sbk (L.map RSp.sl) := fun b hb' => mem_sbk.2 ⟨s.sl, List.mem_of_getElem? hs', hb'⟩
  have hnew : ∀ b ∈ SA.bk s'.a, base ≤ b ∧ b ∉ SA.bk a := fun b hb' => by
    rcases hf b hb' with g | g
    · exact ⟨h.ns b (hsm b g), fun hm => (h.nb b hm).2 (hsm b g)⟩
    · have := hlt k (.inl kb)
      exact ⟨by omega, fun hm => by have := hlt b (.inl hm); omega⟩
  refine ⟨?_, ?_, fun b hb' => ⟨(h.nb b hb').1, fun hm => ?_⟩, fun b hb' => ?_⟩
  · rw [hk]
    exact OwnS.new (by rw [fm_len RSp.len]) hsp (by have := hlt k (.inl kb); omega)
  · rw [hmap]
    refine h.sls.set hs' hn hb how fun b hb' => ?_
    rcases hf b hb' with g | g
    · exact .inl g
    · exact .inr fun hm => by have := hlt b (.inr hm); omega
  · rw [hmap] at hm
    rcases sbk_set hm with g | g
    · exact (hnew b g).2 hb'
    · exact (h.nb b hb').2 g
  · rw [hmap] at hb'
    rcases sbk_set hb' with g | g
    · exact (hnew b g).1
    · exact h.ns b g
/-- one space more -/
theorem ROwn.snoc {σ σ' : AH O} {base nid : Nat} {a a' : SA} {L : List RSp} (h : ROwn σ base a L) (hn : σ.next ≤ σ'.next) (hb : ∀ b ∈ sbk (L.map RSp.sl), σ'.blk b = σ.blk b)
    (how : OwnS σ' T_haymowref08_Space 2 a' (L.length + 1) (L.flatMap RSp.cells ++ [.b false, .sl .nil 0])) (hf : ∀ b ∈ SA.bk a', b = nid) (hbn : base ≤ nid) (hnn : nid ∉ sbk (L.map RSp.sl)) : ROwn σ' base a' (L ++ [⟨.nil, false, []⟩]) := by
  have hcells : L.flatMap RSp.cells ++ [.b false, .sl .nil 0] = (L ++ [(⟨.nil, false, []⟩ : RSp)]).flatMap RSp.cells := by simp [RSp.cells]
  have hmap : (L ++ [(⟨.nil, false, []⟩ : RSp)]).map RSp.sl = L.map RSp.sl ++ [(.nil, [])] := by simp [RSp.sl, u64s]
  have hsb : sbk (L.map RSp.sl ++ [(.nil, [])]) = sbk (L.map RSp.sl) := by rw [sbk_append]; simp [sbk, SA.bk]
  refine ⟨by rw [← hcells, List.length_append]; exact how, ?_, fun b hb' => ?_, fun b hb' => ?_⟩
  · rw [hmap]
    exact Sls.snoc (h.sls.of hn hb) ⟨0, OwnS.nil _ _ _⟩ (by simp [SA.bk])
  · rw [hmap, hsb]
    have := hf b hb'
    subst this
    exact ⟨hbn, hnn⟩
  · rw [hmap, hsb] at hb'
    exact h.ns b hb'

/-- what is given back, never written again -/
theorem fin3 {σ σ' : AH O} {base : Nat} {a : SA} {L : List RSp} {m : Met} {vs : List AV} (h : ROwn σ' base a L) (hf : vs.all AV.flat = true) (hb : σ.next ≤ base) (hE : Ext σ σ') {Q : AV → Prop}
    (hQ : ∀ a' L', RImm a' L' → L'.map RSp.v = L.map RSp.v → Q (.tup (rst a' L'.length m :: vs))) : ∃ v' K, FZ 8 σ'.blk K (.tup (rst a L.length m :: vs)) v' ∧ (∀ b ∈ K, σ.next ≤ b) ∧ Ext σ σ' ∧ Q v' := by
  obtain ⟨a', L', g1, g2, g3, _⟩ := h.frz m
  refine ⟨_, _, FZ.tup (FZL.cons g1 (FZL.flat (d := 6) (H := σ'.blk) hf) (by simp)), fun b hb' => ?_, hE, hQ a' L' g2 g3⟩
  simp only [List.append_nil, List.mem_append] at hb'
  have := h.lt b hb'
  omega
theorem fin0 {σ σ' : AH O} {a : SA} {L : List RSp} {m : Met} {vs : List AV} (h : RImm a L) (hf : vs.all AV.flat = true) (hE : Ext σ σ') {Q : AV → Prop}
    (hQ : Q (.tup (rst a L.length m :: vs))) : ∃ v' K, FZ 8 σ'.blk K (.tup (rst a L.length m :: vs)) v' ∧ (∀ b ∈ K, σ.next ≤ b) ∧ Ext σ σ' ∧ Q v' := by
  have hs : (AV.sl a L.length).flat = true := by
    have := h.imm.bk
    match a, this with
    | .nil, _ => rfl
    | .z, _ => rfl
    | .loc (.f _) _ _, _ => rfl
    | .loc (.n _) _ _, h => simp [SA.bk] at h
  have h1 : FZ 7 σ'.blk [] (rst a L.length m) (rst a L.length m) := FZ.agg (FZL.flat (d := 5) (by show (AV.flat (AV.sl a L.length) && _) = true; rw [hs]; rfl))
  exact ⟨_, [], FZ.tup (FZL.cons0 h1 (FZL.flat (d := 6) hf)), by simp, hE, hQ⟩
end Go.Abs.Try
