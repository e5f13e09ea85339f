/-
  The document's answer for layer 8, as it is run: Read, Write. No conditions.
-/
import Derived.Test.YtjfblnpolgoojaaR8c
set_option linter.unusedVariables false
set_option linter.unusedSimpArgs false
set_option linter.constructorNameAsVariable false
set_option linter.unusedSimpArgs false
set_option linter.unusedVariables false
set_option maxHeartbeats 4000000
set_option maxRecDepth 100000
namespace Go.Abs.Try
open Go Go.Abs
variable {O : Type}

theorem ROwn.wput {σ : AH O} {base : Nat} {a : SA} {L : List RSp} (h : ROwn σ base a L) {i : Nat} {s : RSp} (hs : L[i]? = some s) {kw : Nat} (ha : s.a = .loc (.n kw) 0 1) {w' : List Int} (hl : w'.length = s.ws.length) :
    ROwn (σ.put kw (.cells true T_uint64 (u64s w'))) base a (L.set i { s with ws := w' }) ∧ kw < σ.next ∧ base ≤ kw := by
  obtain ⟨k, rfl, h1, h2, h3, h4, h5⟩ := h.at hs
  have hks : kw ∈ sbk (L.map RSp.sl) := mem_sbk.2 ⟨s.sl, List.mem_map.2 ⟨s, List.mem_of_getElem? hs, rfl⟩, by show kw ∈ SA.bk s.a; rw [ha]; simp [SA.bk]⟩
  have hne : k ≠ kw := fun e => (h.nb k (by simp [SA.bk])).2 (e ▸ hks)
  have hlt := h.lt kw (.inr hks)
  have hcell : (L.set i { s with ws := w' }).flatMap RSp.cells = L.flatMap RSp.cells := by
    rw [List.flatMap_def, List.flatMap_def, List.map_set]
    congr 1
    apply List.ext_getElem?
    intro j
    rw [List.getElem?_set]
    split
    · rename_i hij; subst hij
      rw [List.getElem?_map, hs]
      have := (List.getElem?_eq_some_iff.1 hs).1
      simp [RSp.cells, hl, this]
    · rfl
  refine ⟨h.repl hs rfl (Nat.le_refl _) (fun b _ hb => s_bn fun e => hb (by rw [ha, e]; simp [SA.bk])) (by rw [s_bn hne, hcell]; exact h1) ⟨s.ws.length, ?_⟩ (fun b hb => .inl hb), hlt.2, hlt.1⟩
  show OwnS _ T_uint64 1 s.a _ (u64s w')
  rw [ha]
  exact OwnS.new (by simp [u64s_len, hl]) s_bs hlt.2

theorem rread_T {σ : AH O} {a : SA} {L : List RSp} {M : MemS} (h : RM a L M) (hc : M.calm) {id at_ : Int} : Ok (haymowref08_Read [rst a L.length M.met, .i .i64 id, .i .i64 at_] σ) (RGives σ (M.readR id at_).1 [.i .u64 (M.readR id at_).2.1, .i .i64 (M.readR id at_).2.2]) := by
  unfold haymowref08_Read
  refine frz_ok (Q := RQ (M.readR id at_).1 [.i .u64 (M.readR id at_).2.1, .i .i64 (M.readR id at_).2.2]) ?_
  have B := boxes_new (σ := σ) (a := a) (n := L.length) (m := M.met)
  simp only [Met.cells] at B
  generalize hσ1 : ((σ.bump 2).put σ.next (.cells true T_haymowref08_State _)).put (σ.next + 1) (.cells true T_haymowref08_State _) = σ1 at B
  simp (config := { maxSteps := 2000000 }) -implicitDefEqProofs (disch := (first | omega | rfl | assumption | (simp only [put_next, bump_next, kill_next, List.length_cons, List.length_nil, List.mem_cons, List.not_mem_nil, or_false, not_false_eq_true]; first | omega | assumption))) only [haymowref08_Read_c, rst, Met.cells, hσ1, Nat.reduceAdd, Nat.reduceMul, Nat.reduceLT, Int.reduceToNat, Int.reduceAdd, Int.reduceSub, Int.reduceMul, s_beq, List.length_cons, List.length_nil, List.getD_cons_zero, List.getD_cons_succ, List.getElem?_cons_zero, List.getElem?_cons_succ, Option.bind_some, Option.bind_assoc, s_bindN, asI_i, asB_b, asS_s, asP_p, asPS_p, asSl_sl, s_agg, s_tup, s_fn, joinB, joinI, joinR, beq_true, beq_false, Bool.not_true, Bool.not_false, Bool.not_not, cond_true, cond_false, neI, s_mapS, bindS_inl, bindS_inr, Bool.and_true, Bool.true_and, Bool.and_false, Bool.false_and, s_isNoneS, s_isNoneN, s_ref, s_adv, s_ldf, s_ld, s_ldM, s_st, s_stM, s_bs, s_bn, s_pp, bump_blk, bump_next, put_next, splice_z, splice_zz, splice_s, s_decT, s_decF, s_eqT, s_eqF, s_i64, s_u64, s_u8, Int.toNat_natCast, Nat.zero_add, s_room, s_chkT, s_rdSl, s_wrSl, s_ldN, s_ldNM, s_ldNf, List.drop_zero, List.take_succ_cons, List.take_zero, List.take_nil, List.take_length, Nat.mul_one, List.flatten_cons, List.flatten_nil, List.append_nil, List.nil_append, List.cons_append]
  clear hσ1
  refine Ok.step (rwrong_ok (m := M.met) (id := id) (at_ := at_) (n := 1) h.imm h.size (by omega)) fun r ⟨g1, g2⟩ => ?_
  obtain ⟨q, σ2⟩ := r
  simp only at g1 g2
  subst g1
  have B2 := B.ext g2
  obtain ⟨cs, hc', c2⟩ := B2.c
  obtain ⟨x0, x1, x2, x3, x4, x5, x6, rfl⟩ := seven hc'
  have b2 := B2.b
  have n2 := B2.n
  have E := B2.e
  rw [h.sp]
  unfold MemS.readR
  by_cases hz : wrongR M.sp id at_ 1 = 0
  · rw [if_pos hz]
    obtain ⟨w, hw, h1, h2, h3⟩ := wrong_0 hz
    have hwL := hw
    rw [← h.sp] at hwL
    obtain ⟨h0, s, hs, ho, rfl⟩ := getR hwL
    obtain ⟨bb, oo, rfl, u0, u1, u2⟩ := h.imm.at hs
    have hlt := (List.getElem?_eq_some_iff.1 hs).1
    have hlt2 : at_.toNat < s.ws.length := by omega
    have hx := List.getElem?_eq_getElem hlt2
    obtain ⟨b3, o3, e3, _⟩ := (u2 O σ2).at1 (u64s_get hx)
    have v3 : ∀ (σ' : AH O), σ'.ld b3 (o3 + at_.toNat) = some (.i .u64 s.ws[at_.toNat]) := fun σ' => by
      obtain ⟨b4, o4, e4, g4⟩ := (u2 O σ').at1 (u64s_get hx)
      rw [e3] at e4; cases e4
      rwa [Nat.mul_one] at g4
    rw [hz]
    simp (config := { maxSteps := 2000000 }) -implicitDefEqProofs (disch := (first | omega | rfl | assumption | (simp only [put_next, bump_next, kill_next, List.length_cons, List.length_nil, List.mem_cons, List.not_mem_nil, or_false, not_false_eq_true]; first | omega | assumption))) only [b2, Met.cells, Nat.reduceAdd, Nat.reduceMul, Nat.reduceLT, Int.reduceToNat, Int.reduceAdd, Int.reduceSub, Int.reduceMul, s_beq, List.length_cons, List.length_nil, List.getD_cons_zero, List.getD_cons_succ, List.getElem?_cons_zero, List.getElem?_cons_succ, Option.bind_some, Option.bind_assoc, s_bindN, asI_i, asB_b, asS_s, asP_p, asPS_p, asSl_sl, s_agg, s_tup, s_fn, joinB, joinI, joinR, beq_true, beq_false, Bool.not_true, Bool.not_false, Bool.not_not, cond_true, cond_false, neI, s_mapS, bindS_inl, bindS_inr, Bool.and_true, Bool.true_and, Bool.and_false, Bool.false_and, s_isNoneS, s_isNoneN, s_ref, s_adv, s_ldf, s_ld, s_ldM, s_st, s_stM, s_bs, s_bn, s_pp, bump_blk, bump_next, put_next, splice_z, splice_zz, splice_s, s_decT, s_decF, s_eqT, s_eqF, s_i64, s_u64, s_u8, Int.toNat_natCast, Nat.zero_add, s_room, s_chkT, s_rdSl, s_wrSl, s_ldN, s_ldNM, s_ldNf, List.drop_zero, List.take_succ_cons, List.take_zero, List.take_nil, List.take_length, Nat.mul_one, List.flatten_cons, List.flatten_nil, List.append_nil, List.nil_append, List.cons_append]
    have hcr := hc.r
    have hmr := h.ok.met.r
    refine Ok.step (r7_step_r (m := M.met) (n := 1) hmr (by omega)) fun r ⟨p1, p2⟩ => ?_
    obtain ⟨q, σ3⟩ := r
    simp only at p1 p2
    subst p1
    have B3 := B2.ext p2
    obtain ⟨cs, hc', c3⟩ := B3.c
    obtain ⟨y0, y1, y2, y3, y4, y5, y6, rfl⟩ := seven hc'
    have b3' := B3.b
    have n3 := B3.n
    have E3 := B3.e
    simp (config := { maxSteps := 2000000 }) -implicitDefEqProofs (disch := (first | omega | rfl | assumption | (simp only [put_next, bump_next, kill_next, List.length_cons, List.length_nil, List.mem_cons, List.not_mem_nil, or_false, not_false_eq_true]; first | omega | assumption))) only [b3', c3, u1, e3, v3, Met.cells, s_chk, Nat.reduceAdd, Nat.reduceMul, Nat.reduceLT, Int.reduceToNat, Int.reduceAdd, Int.reduceSub, Int.reduceMul, s_beq, List.length_cons, List.length_nil, List.getD_cons_zero, List.getD_cons_succ, List.getElem?_cons_zero, List.getElem?_cons_succ, Option.bind_some, Option.bind_assoc, s_bindN, asI_i, asB_b, asS_s, asP_p, asPS_p, asSl_sl, s_agg, s_tup, s_fn, joinB, joinI, joinR, beq_true, beq_false, Bool.not_true, Bool.not_false, Bool.not_not, cond_true, cond_false, neI, s_mapS, bindS_inl, bindS_inr, Bool.and_true, Bool.true_and, Bool.and_false, Bool.false_and, s_isNoneS, s_isNoneN, s_ref, s_adv, s_ldf, s_ld, s_ldM, s_st, s_stM, s_bs, s_bn, s_pp, bump_blk, bump_next, put_next, splice_z, splice_zz, splice_s, s_decT, s_decF, s_eqT, s_eqF, s_i64, s_u64, s_u8, Int.toNat_natCast, Nat.zero_add, s_room, s_chkT, s_rdSl, s_wrSl, s_ldN, s_ldNM, s_ldNf, List.drop_zero, List.take_succ_cons, List.take_zero, List.take_nil, List.take_length, Nat.mul_one, List.flatten_cons, List.flatten_nil, List.append_nil, List.nil_append, List.cons_append]
    refine Ok_some.2 (fin0 (m := { M.met with r := M.met.r + 1 }) h.imm rfl (ext_of (by simp only [put_next, bump_next, kill_next]; omega) (fun b hb => by simp -implicitDefEqProofs (disch := (first | omega | rfl | assumption | (simp only [put_next, bump_next, kill_next, List.length_cons, List.length_nil, List.mem_cons, List.not_mem_nil, or_false, not_false_eq_true]; first | omega | assumption))) only [s_bn, s_kn, bump_blk, s_ext])) ⟨_, L, ?_, h.imm, h.sp⟩)
    simp only [hw, Option.getD_some, List.getD_eq_getElem?_getD, hx, MemS.rd]
  · rw [if_neg hz]
    simp (config := { maxSteps := 2000000 }) -implicitDefEqProofs (disch := (first | omega | rfl | assumption | (simp only [put_next, bump_next, kill_next, List.length_cons, List.length_nil, List.mem_cons, List.not_mem_nil, or_false, not_false_eq_true]; first | omega | assumption))) only [b2, c2, Met.cells, Nat.reduceAdd, Nat.reduceMul, Nat.reduceLT, Int.reduceToNat, Int.reduceAdd, Int.reduceSub, Int.reduceMul, s_beq, List.length_cons, List.length_nil, List.getD_cons_zero, List.getD_cons_succ, List.getElem?_cons_zero, List.getElem?_cons_succ, Option.bind_some, Option.bind_assoc, s_bindN, asI_i, asB_b, asS_s, asP_p, asPS_p, asSl_sl, s_agg, s_tup, s_fn, joinB, joinI, joinR, beq_true, beq_false, Bool.not_true, Bool.not_false, Bool.not_not, cond_true, cond_false, neI, s_mapS, bindS_inl, bindS_inr, Bool.and_true, Bool.true_and, Bool.and_false, Bool.false_and, s_isNoneS, s_isNoneN, s_ref, s_adv, s_ldf, s_ld, s_ldM, s_st, s_stM, s_bs, s_bn, s_pp, bump_blk, bump_next, put_next, splice_z, splice_zz, splice_s, s_decT, s_decF, s_eqT, s_eqF, s_i64, s_u64, s_u8, Int.toNat_natCast, Nat.zero_add, s_room, s_chkT, s_rdSl, s_wrSl, s_ldN, s_ldNM, s_ldNf, List.drop_zero, List.take_succ_cons, List.take_zero, List.take_nil, List.take_length, Nat.mul_one, List.flatten_cons, List.flatten_nil, List.append_nil, List.nil_append, List.cons_append]
    exact Ok_some.2 (fin0 (m := M.met) h.imm rfl (ext_of (by simp only [put_next, bump_next, kill_next]; omega) (fun b hb => by simp -implicitDefEqProofs (disch := (first | omega | rfl | assumption | (simp only [put_next, bump_next, kill_next, List.length_cons, List.length_nil, List.mem_cons, List.not_mem_nil, or_false, not_false_eq_true]; first | omega | assumption))) only [s_bn, s_kn, bump_blk, s_ext])) ⟨a, L, rfl, h.imm, h.sp⟩)

theorem rwrite_T {σ : AH O} {a : SA} {L : List RSp} {M : MemS} (h : RM a L M) (hc : M.calm) {id at_ x : Int} : Ok (haymowref08_Write [rst a L.length M.met, .i .i64 id, .i .i64 at_, .i .u64 x] σ) (RGives σ (M.writeR id at_ x).1 [.i .i64 (M.writeR id at_ x).2]) := by
  unfold haymowref08_Write
  refine frz_ok (Q := RQ (M.writeR id at_ x).1 [.i .i64 (M.writeR id at_ x).2]) ?_
  have B := boxes_new (σ := σ) (a := a) (n := L.length) (m := M.met)
  simp only [Met.cells] at B
  generalize hσ1 : ((σ.bump 2).put σ.next (.cells true T_haymowref08_State _)).put (σ.next + 1) (.cells true T_haymowref08_State _) = σ1 at B
  simp (config := { maxSteps := 2000000 }) -implicitDefEqProofs (disch := (first | omega | rfl | assumption | (simp only [put_next, bump_next, kill_next, List.length_cons, List.length_nil, List.mem_cons, List.not_mem_nil, or_false, not_false_eq_true]; first | omega | assumption))) only [haymowref08_Write_c, rst, Met.cells, hσ1, Nat.reduceAdd, Nat.reduceMul, Nat.reduceLT, Int.reduceToNat, Int.reduceAdd, Int.reduceSub, Int.reduceMul, s_beq, List.length_cons, List.length_nil, List.getD_cons_zero, List.getD_cons_succ, List.getElem?_cons_zero, List.getElem?_cons_succ, Option.bind_some, Option.bind_assoc, s_bindN, asI_i, asB_b, asS_s, asP_p, asPS_p, asSl_sl, s_agg, s_tup, s_fn, joinB, joinI, joinR, beq_true, beq_false, Bool.not_true, Bool.not_false, Bool.not_not, cond_true, cond_false, neI, s_mapS, bindS_inl, bindS_inr, Bool.and_true, Bool.true_and, Bool.and_false, Bool.false_and, s_isNoneS, s_isNoneN, s_ref, s_adv, s_ldf, s_ld, s_ldM, s_st, s_stM, s_bs, s_bn, s_pp, bump_blk, bump_next, put_next, splice_z, splice_zz, splice_s, s_decT, s_decF, s_eqT, s_eqF, s_i64, s_u64, s_u8, Int.toNat_natCast, Nat.zero_add, s_room, s_chkT, s_rdSl, s_wrSl, s_ldN, s_ldNM, s_ldNf, List.drop_zero, List.take_succ_cons, List.take_zero, List.take_nil, List.take_length, Nat.mul_one, List.flatten_cons, List.flatten_nil, List.append_nil, List.nil_append, List.cons_append]
  clear hσ1
  refine Ok.step (rwrong_ok (m := M.met) (id := id) (at_ := at_) (n := 1) h.imm h.size (by omega)) fun r ⟨g1, g2⟩ => ?_
  obtain ⟨q, σ2⟩ := r
  simp only at g1 g2
  subst g1
  have B2 := B.ext g2
  obtain ⟨cs, hc', c2⟩ := B2.c
  obtain ⟨x0, x1, x2, x3, x4, x5, x6, rfl⟩ := seven hc'
  have b2 := B2.b
  have n2 := B2.n
  have E := B2.e
  rw [h.sp]
  unfold MemS.writeR
  by_cases hz : wrongR M.sp id at_ 1 = 0
  · rw [if_pos hz]
    obtain ⟨w, hw, h1, h2, h3⟩ := wrong_0 hz
    have hwL := hw
    rw [← h.sp] at hwL
    rw [hz]
    simp (config := { maxSteps := 2000000 }) -implicitDefEqProofs (disch := (first | omega | rfl | assumption | (simp only [put_next, bump_next, kill_next, List.length_cons, List.length_nil, List.mem_cons, List.not_mem_nil, or_false, not_false_eq_true]; first | omega | assumption))) only [b2, Met.cells, Nat.reduceAdd, Nat.reduceMul, Nat.reduceLT, Int.reduceToNat, Int.reduceAdd, Int.reduceSub, Int.reduceMul, s_beq, List.length_cons, List.length_nil, List.getD_cons_zero, List.getD_cons_succ, List.getElem?_cons_zero, List.getElem?_cons_succ, Option.bind_some, Option.bind_assoc, s_bindN, asI_i, asB_b, asS_s, asP_p, asPS_p, asSl_sl, s_agg, s_tup, s_fn, joinB, joinI, joinR, beq_true, beq_false, Bool.not_true, Bool.not_false, Bool.not_not, cond_true, cond_false, neI, s_mapS, bindS_inl, bindS_inr, Bool.and_true, Bool.true_and, Bool.and_false, Bool.false_and, s_isNoneS, s_isNoneN, s_ref, s_adv, s_ldf, s_ld, s_ldM, s_st, s_stM, s_bs, s_bn, s_pp, bump_blk, bump_next, put_next, splice_z, splice_zz, splice_s, s_decT, s_decF, s_eqT, s_eqF, s_i64, s_u64, s_u8, Int.toNat_natCast, Nat.zero_add, s_room, s_chkT, s_rdSl, s_wrSl, s_ldN, s_ldNM, s_ldNf, List.drop_zero, List.take_succ_cons, List.take_zero, List.take_nil, List.take_length, Nat.mul_one, List.flatten_cons, List.flatten_nil, List.append_nil, List.nil_append, List.cons_append]
    refine Ok.step (copied_ok (m := M.met) h.imm h.few h.size) fun r ⟨a', L', k1, k2, k3, k4, k5⟩ => ?_
    obtain ⟨q, σ3⟩ := r
    simp only at k1 k2 k5
    subst k1
    have B3 := B2.ext k5
    obtain ⟨cs, hc', cc3⟩ := B3.c
    obtain ⟨y0, y1, y2, y3, y4, y5, y6, rfl⟩ := seven hc'
    have b3 := B3.b
    have n3 := B3.n
    rw [← k3] at hwL
    obtain ⟨h0, s, hs, ho, rfl⟩ := getR hwL
    have hlt := (List.getElem?_eq_some_iff.1 hs).1
    have hfew := h.few
    obtain ⟨k, rfl, q1, q2, q3, q4, q5⟩ := k2.at hs
    have kge := (k2.nb k (by simp [SA.bk])).1
    have kne := (k2.nb k (by simp [SA.bk])).2
    obtain ⟨kw, ew, q6, q7⟩ := q5.loc (by omega)
    have hkws : kw ∈ sbk (L'.map RSp.sl) := mem_sbk.2 ⟨s.sl, List.mem_map.2 ⟨s, List.mem_of_getElem? hs, rfl⟩, by show kw ∈ SA.bk s.a; rw [ew]; simp [SA.bk]⟩
    have kwge := k2.ns kw hkws
    simp (config := { maxSteps := 2000000 }) -implicitDefEqProofs (disch := (first | omega | rfl | assumption | (simp only [put_next, bump_next, kill_next, List.length_cons, List.length_nil, List.mem_cons, List.not_mem_nil, or_false, not_false_eq_true]; first | omega | assumption))) only [rst, b3, cc3, Met.cells, Nat.reduceAdd, Nat.reduceMul, Nat.reduceLT, Int.reduceToNat, Int.reduceAdd, Int.reduceSub, Int.reduceMul, s_beq, List.length_cons, List.length_nil, List.getD_cons_zero, List.getD_cons_succ, List.getElem?_cons_zero, List.getElem?_cons_succ, Option.bind_some, Option.bind_assoc, s_bindN, asI_i, asB_b, asS_s, asP_p, asPS_p, asSl_sl, s_agg, s_tup, s_fn, joinB, joinI, joinR, beq_true, beq_false, Bool.not_true, Bool.not_false, Bool.not_not, cond_true, cond_false, neI, s_mapS, bindS_inl, bindS_inr, Bool.and_true, Bool.true_and, Bool.and_false, Bool.false_and, s_isNoneS, s_isNoneN, s_ref, s_adv, s_ldf, s_ld, s_ldM, s_st, s_stM, s_bs, s_bn, s_pp, bump_blk, bump_next, put_next, splice_z, splice_zz, splice_s, s_decT, s_decF, s_eqT, s_eqF, s_i64, s_u64, s_u8, Int.toNat_natCast, Nat.zero_add, s_room, s_chkT, s_rdSl, s_wrSl, s_ldN, s_ldNM, s_ldNf, List.drop_zero, List.take_succ_cons, List.take_zero, List.take_nil, List.take_length, Nat.mul_one, List.flatten_cons, List.flatten_nil, List.append_nil, List.nil_append, List.cons_append]
    generalize hσ4 : σ3.put σ.next (.cells true T_haymowref08_State _) = σ4
    have b4 : σ4.blk σ.next = some (.cells true T_haymowref08_State (.sl (.loc (.n k) 0 2) L.length :: M.met.cells)) := by rw [← hσ4, s_bs]; rfl
    have k4' : ∀ b, b ≠ σ.next → σ4.blk b = σ3.blk b := fun b hb => by rw [← hσ4, s_bn hb]
    have n4 : σ4.next = σ3.next := by rw [← hσ4]; rfl
    clear hσ4
    have hcw := hc.w
    have hmw := h.ok.met.w
    refine Ok.step (r7_step_w (m := M.met) (n := 1) hmw (by omega)) fun r ⟨p1, p2⟩ => ?_
    obtain ⟨q, σ5⟩ := r
    simp only at p1 p2
    subst p1
    have n5 := p2.next
    have b5 := (p2.blk σ.next (by omega)).trans b4
    have c5 := (p2.blk (σ.next + 1) (by omega)).trans ((k4' _ (by omega)).trans cc3)
    have q1' := (p2.blk k (by omega)).trans ((k4' _ (by omega)).trans q1)
    have q6' := (p2.blk kw (by omega)).trans ((k4' _ (by omega)).trans q6)
    have O5 : ROwn σ5 σ2.next (.loc (.n k) 0 2) L' := (k2.of (σ' := σ4) (by omega) fun b hb => k4' b (by have := (k2.lt b hb).1; omega)).ext p2
    have kkw : kw ≠ k := fun e => kne (e ▸ hkws)
    have hspw : splice (u64s s.ws) at_.toNat [.i .u64 x] = u64s (s.ws.set at_.toNat x) := by
      rw [splice_set (by rw [u64s_len]; omega)]; simp [u64s, List.map_set]
    simp (config := { maxSteps := 2000000 }) -implicitDefEqProofs (disch := (first | omega | rfl | assumption | (simp only [put_next, bump_next, kill_next, List.length_cons, List.length_nil, List.mem_cons, List.not_mem_nil, or_false, not_false_eq_true]; first | omega | assumption))) only [Met.cells, b5, c5, q1', q4, ew, q6', u64s_len, hspw, Nat.reduceAdd, Nat.reduceMul, Nat.reduceLT, Int.reduceToNat, Int.reduceAdd, Int.reduceSub, Int.reduceMul, s_beq, List.length_cons, List.length_nil, List.getD_cons_zero, List.getD_cons_succ, List.getElem?_cons_zero, List.getElem?_cons_succ, Option.bind_some, Option.bind_assoc, s_bindN, asI_i, asB_b, asS_s, asP_p, asPS_p, asSl_sl, s_agg, s_tup, s_fn, joinB, joinI, joinR, beq_true, beq_false, Bool.not_true, Bool.not_false, Bool.not_not, cond_true, cond_false, neI, s_mapS, bindS_inl, bindS_inr, Bool.and_true, Bool.true_and, Bool.and_false, Bool.false_and, s_isNoneS, s_isNoneN, s_ref, s_adv, s_ldf, s_ld, s_ldM, s_st, s_stM, s_bs, s_bn, s_pp, bump_blk, bump_next, put_next, splice_z, splice_zz, splice_s, s_decT, s_decF, s_eqT, s_eqF, s_i64, s_u64, s_u8, Int.toNat_natCast, Nat.zero_add, s_room, s_chkT, s_rdSl, s_wrSl, s_ldN, s_ldNM, s_ldNf, List.drop_zero, List.take_succ_cons, List.take_zero, List.take_nil, List.take_length, Nat.mul_one, List.flatten_cons, List.flatten_nil, List.append_nil, List.nil_append, List.cons_append]
    obtain ⟨Ofin, _, _⟩ := O5.wput hs ew (w' := s.ws.set at_.toNat x) (by simp)
    have E3 := B3.e
    have E5 : Ext σ σ5 := ⟨by have := E3.next; omega, fun b hb => (p2.blk b (by omega)).trans ((k4' b (by omega)).trans (E3.blk b hb))⟩
    have hlen' : L.length = (L'.set id.toNat { s with ws := s.ws.set at_.toNat x }).length := by rw [List.length_set, k4]
    rw [hlen']
    refine Ok_some.2 (fin3 (m := { M.met with w := M.met.w + 1 }) (L := L'.set id.toNat { s with ws := s.ws.set at_.toNat x }) (base := σ2.next) ?_ rfl (by omega) ?_ fun a'' L'' z1 z2 => ⟨a'', L'', rfl, z1, ?_⟩)
    · refine Ofin.of (by simp) fun b hb => ?_
      have := (Ofin.lt b hb).1
      by_cases hbk : b = kw
      · subst hbk; simp -implicitDefEqProofs (disch := omega) only [s_bn, s_bs, s_kn, bump_blk]
      · simp -implicitDefEqProofs (disch := omega) only [s_bn, s_bs, s_kn, bump_blk]
    · refine ext_of (by simp only [put_next]; exact E5.next) fun b hb => ?_
      simp -implicitDefEqProofs (disch := omega) only [s_bn, s_bs, s_kn, bump_blk]
      exact E5.blk b hb
    · rw [z2, List.map_set, k3, h.sp]
      simp only [MemS.put, MemS.wr, RSp.v, hw, Option.getD_some, ho]
  · rw [if_neg hz]
    simp (config := { maxSteps := 2000000 }) -implicitDefEqProofs (disch := (first | omega | rfl | assumption | (simp only [put_next, bump_next, kill_next, List.length_cons, List.length_nil, List.mem_cons, List.not_mem_nil, or_false, not_false_eq_true]; first | omega | assumption))) only [b2, c2, Met.cells, Nat.reduceAdd, Nat.reduceMul, Nat.reduceLT, Int.reduceToNat, Int.reduceAdd, Int.reduceSub, Int.reduceMul, s_beq, List.length_cons, List.length_nil, List.getD_cons_zero, List.getD_cons_succ, List.getElem?_cons_zero, List.getElem?_cons_succ, Option.bind_some, Option.bind_assoc, s_bindN, asI_i, asB_b, asS_s, asP_p, asPS_p, asSl_sl, s_agg, s_tup, s_fn, joinB, joinI, joinR, beq_true, beq_false, Bool.not_true, Bool.not_false, Bool.not_not, cond_true, cond_false, neI, s_mapS, bindS_inl, bindS_inr, Bool.and_true, Bool.true_and, Bool.and_false, Bool.false_and, s_isNoneS, s_isNoneN, s_ref, s_adv, s_ldf, s_ld, s_ldM, s_st, s_stM, s_bs, s_bn, s_pp, bump_blk, bump_next, put_next, splice_z, splice_zz, splice_s, s_decT, s_decF, s_eqT, s_eqF, s_i64, s_u64, s_u8, Int.toNat_natCast, Nat.zero_add, s_room, s_chkT, s_rdSl, s_wrSl, s_ldN, s_ldNM, s_ldNf, List.drop_zero, List.take_succ_cons, List.take_zero, List.take_nil, List.take_length, Nat.mul_one, List.flatten_cons, List.flatten_nil, List.append_nil, List.nil_append, List.cons_append]
    exact Ok_some.2 (fin0 (m := M.met) h.imm rfl (ext_of (by simp only [put_next, bump_next, kill_next]; omega) (fun b hb => by simp -implicitDefEqProofs (disch := (first | omega | rfl | assumption | (simp only [put_next, bump_next, kill_next, List.length_cons, List.length_nil, List.mem_cons, List.not_mem_nil, or_false, not_false_eq_true]; first | omega | assumption))) only [s_bn, s_kn, bump_blk, s_ext])) ⟨a, L, rfl, h.imm, h.sp⟩)
end Go.Abs.Try
