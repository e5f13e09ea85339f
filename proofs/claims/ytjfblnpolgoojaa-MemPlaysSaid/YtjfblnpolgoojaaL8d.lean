/-
  The statement MemPlays: a look at the end, and the meters. No conditions.
-/
import Derived.Test.YtjfblnpolgoojaaL8c
set_option linter.unusedVariables false
set_option linter.unusedSimpArgs false
set_option linter.constructorNameAsVariable false
set_option linter.unusedSimpArgs false
set_option linter.unusedVariables false
set_option linter.unusedSectionVars false
set_option maxHeartbeats 8000000
set_option maxRecDepth 100000
namespace Go.Abs.Try
open Go Go.Abs
variable {O : Type}

section
variable {σ : AH O} {mb : Nat} {F : List Nat} {M : MemS} {a : SA} {L : List RSp} {o : MOp} (h : MemAt σ mb F M) (hM : M.ok) (hc : M.calm) (hR : RM a L M) (hr : o.rng)
include h hM hc hR hr
theorem do_x (n0 : o.kind ≠ 0) (n1 : o.kind ≠ 1) (n2 : o.kind ≠ 2) (n3 : o.kind ≠ 3) (n4 : o.kind ≠ 4) (n5 : o.kind ≠ 5) (n6 : o.kind ≠ 6) : Ok (law08_do [.p (some (.n mb, 0)), rst a L.length M.met, .agg o.cells] σ) fun r => r.1 = .tup [rst a L.length M.met, .b true] ∧ Behind σ mb F M r.2 := by
  have B := boxes3_new (σ := σ) (a := a) (n := L.length) (m := M.met) (o := o)
  have hF := h.lt
  have e0 : Ext σ _ := ext3_new (σ := σ) (x := .cells true T_haymowref08_State (.sl a L.length :: M.met.cells)) (y := .cells true T_law08_Op o.cells) (z := .cells true T_haymowref08_State [.sl .nil 0, .i .u64 0, .i .u64 0, .i .u64 0, .i .u64 0, .i .i64 0, .i .i64 0])
  simp only [Met.cells, MOp.cells] at B e0
  have b0 : ((o.kind : Int) == 0) = false := by simp [n0]
  have b1 : ((o.kind : Int) == 1) = false := by simp [n1]
  have b2 : ((o.kind : Int) == 2) = false := by simp [n2]
  have b3 : ((o.kind : Int) == 3) = false := by simp [n3]
  have b4 : ((o.kind : Int) == 4) = false := by simp [n4]
  have b5 : ((o.kind : Int) == 5) = false := by simp [n5]
  have b6 : ((o.kind : Int) == 6) = false := by simp [n6]
  clear hr n0 n1 n2 n3 n4 n5 n6
  generalize hσ1 : (((σ.bump 3).put σ.next (.cells true T_haymowref08_State _)).put (σ.next + 1) (.cells true T_law08_Op _)).put (σ.next + 1 + 1) (.cells true T_haymowref08_State _) = σ1 at B e0
  have bo := B.o
  simp only [MOp.cells] at bo
  have h1 := h.ext e0
  cases hw : wordsOf M.sp o.a with
  | none =>
    have hno := wordsOf_none hw
    have sz := size_no (id := o.a) h1 hno
    simp (config := { maxSteps := 2000000 }) -implicitDefEqProofs (disch := (first | omega | rfl | assumption | (simp only [put_next, bump_next, kill_next, List.length_cons, List.length_nil, List.mem_cons, List.not_mem_nil, or_false, not_false_eq_true]; first | omega | assumption))) only [law08_do, law08_do_c, rst, Met.cells, MOp.cells, hσ1, bo, b0, b1, b2, b3, b4, b5, b6, sz, Nat.reduceAdd, Nat.reduceMul, Nat.reduceLT, Int.reduceToNat, Int.reduceAdd, Int.reduceSub, Int.reduceMul, s_beq, List.length_cons, List.length_nil, List.getD_cons_zero, List.getD_cons_succ, List.getElem?_cons_zero, List.getElem?_cons_succ, Option.bind_some, Option.bind_assoc, s_bindN, asI_i, asB_b, asS_s, asP_p, asPS_p, asSl_sl, s_agg, s_tup, s_fn, joinB, joinI, joinR, beq_true, beq_false, Bool.not_true, Bool.not_false, Bool.not_not, cond_true, cond_false, neI, s_mapS, bindS_inl, bindS_inr, Bool.and_true, Bool.true_and, Bool.and_false, Bool.false_and, s_isNoneS, s_isNoneN, s_ref, s_adv, s_ldf, s_ld, s_ldM, s_st, s_stM, s_bs, s_bn, s_pp, bump_blk, bump_next, put_next, splice_z, splice_zz, splice_s, s_decT, s_decF, s_eqT, s_eqF, s_i64, s_u64, s_u8, Int.toNat_natCast, Nat.zero_add, s_room, s_chkT, s_rdSl, s_wrSl, s_ldN, s_ldNM, s_ldNf, List.drop_zero, List.take_succ_cons, List.take_zero, List.take_nil, List.take_length, Nat.mul_one, List.flatten_cons, List.flatten_nil, List.append_nil, List.nil_append, List.cons_append]
    clear hσ1
    refine Ok.step (look_no (id := o.a) h1 hno) fun r ⟨p1, p2⟩ => ?_
    obtain ⟨q, σ2⟩ := r
    simp only at p1 p2
    subst p1
    have B2 := B.chg (F := []) (by simp) p2.chg
    have bb := B2.b
    have bo := B2.o
    simp only [MOp.cells, Met.cells] at bo bb
    simp (config := { maxSteps := 2000000 }) -implicitDefEqProofs (disch := (first | omega | rfl | assumption | (simp only [put_next, bump_next, kill_next, List.length_cons, List.length_nil, List.mem_cons, List.not_mem_nil, or_false, not_false_eq_true]; first | omega | assumption))) only [bb, bo, Nat.reduceAdd, Nat.reduceMul, Nat.reduceLT, Int.reduceToNat, Int.reduceAdd, Int.reduceSub, Int.reduceMul, s_beq, List.length_cons, List.length_nil, List.getD_cons_zero, List.getD_cons_succ, List.getElem?_cons_zero, List.getElem?_cons_succ, Option.bind_some, Option.bind_assoc, s_bindN, asI_i, asB_b, asS_s, asP_p, asPS_p, asSl_sl, s_agg, s_tup, s_fn, joinB, joinI, joinR, beq_true, beq_false, Bool.not_true, Bool.not_false, Bool.not_not, cond_true, cond_false, neI, s_mapS, bindS_inl, bindS_inr, Bool.and_true, Bool.true_and, Bool.and_false, Bool.false_and, s_isNoneS, s_isNoneN, s_ref, s_adv, s_ldf, s_ld, s_ldM, s_st, s_stM, s_bs, s_bn, s_pp, bump_blk, bump_next, put_next, splice_z, splice_zz, splice_s, s_decT, s_decF, s_eqT, s_eqF, s_i64, s_u64, s_u8, Int.toNat_natCast, Nat.zero_add, s_room, s_chkT, s_rdSl, s_wrSl, s_ldN, s_ldNM, s_ldNf, List.drop_zero, List.take_succ_cons, List.take_zero, List.take_nil, List.take_length, Nat.mul_one, List.flatten_cons, List.flatten_nil, List.append_nil, List.nil_append, List.cons_append]
    refine Ok.step (ris_ok (m := M.met) (id := o.a) hR.imm) fun r ⟨k1, k4⟩ => ?_
    obtain ⟨q, σ3⟩ := r
    simp only at k1 k4
    rw [hR.sp, hw] at k1
    subst k1
    have B3 := B2.chg (F := []) (by simp) k4.chg
    have n3 := B3.n
    have kn := k4.next
    have c3 := B3.b
    obtain ⟨cs, hc', cc⟩ := B3.c
    obtain ⟨x0, x1, x2, x3, x4, x5, x6, rfl⟩ := seven hc'
    simp only [Met.cells] at c3
    simp (config := { maxSteps := 2000000 }) -implicitDefEqProofs (disch := (first | omega | rfl | assumption | (simp only [put_next, bump_next, kill_next, List.length_cons, List.length_nil, List.mem_cons, List.not_mem_nil, or_false, not_false_eq_true]; first | omega | assumption))) only [rst, Met.cells, c3, cc, beq_self_eq_true, Option.isSome_none, Nat.reduceAdd, Nat.reduceMul, Nat.reduceLT, Int.reduceToNat, Int.reduceAdd, Int.reduceSub, Int.reduceMul, s_beq, List.length_cons, List.length_nil, List.getD_cons_zero, List.getD_cons_succ, List.getElem?_cons_zero, List.getElem?_cons_succ, Option.bind_some, Option.bind_assoc, s_bindN, asI_i, asB_b, asS_s, asP_p, asPS_p, asSl_sl, s_agg, s_tup, s_fn, joinB, joinI, joinR, beq_true, beq_false, Bool.not_true, Bool.not_false, Bool.not_not, cond_true, cond_false, neI, s_mapS, bindS_inl, bindS_inr, Bool.and_true, Bool.true_and, Bool.and_false, Bool.false_and, s_isNoneS, s_isNoneN, s_ref, s_adv, s_ldf, s_ld, s_ldM, s_st, s_stM, s_bs, s_bn, s_pp, bump_blk, bump_next, put_next, splice_z, splice_zz, splice_s, s_decT, s_decF, s_eqT, s_eqF, s_i64, s_u64, s_u8, Int.toNat_natCast, Nat.zero_add, s_room, s_chkT, s_rdSl, s_wrSl, s_ldN, s_ldNM, s_ldNf, List.drop_zero, List.take_succ_cons, List.take_zero, List.take_nil, List.take_length, Nat.mul_one, List.flatten_cons, List.flatten_nil, List.append_nil, List.nil_append, List.cons_append]
    have p9 : Behind σ1 mb F M σ2 := ⟨⟨F, h1.ext p2, Fp.refl _ _⟩, p2.chg, hM⟩
    refine Ok_some.2 ⟨rfl, p9.fin hF e0 B.n (by simp only [put_next]; exact kn) fun b hb hne => ?_⟩
    simp only []
    rw [s_bn hne.2.2]; exact k4.blk b hb
  | some w =>
    obtain ⟨h0, hw'⟩ := wordsOf_some hw
    obtain ⟨_, s, hs, so, sw⟩ := getR (L := L) (id := o.a) (w := w) (by rw [hR.sp]; exact hw)
    obtain ⟨rb, ro, ea, g0, g1, g2⟩ := hR.imm.at hs
    have hlt := (List.getElem?_eq_some_iff.1 hs).1
    have hlen := hM.len hw'
    subst sw
    have sz := size_ok (id := o.a) h1 h0 hw'
    simp (config := { maxSteps := 2000000 }) -implicitDefEqProofs (disch := (first | omega | rfl | assumption | (simp only [put_next, bump_next, kill_next, List.length_cons, List.length_nil, List.mem_cons, List.not_mem_nil, or_false, not_false_eq_true]; first | omega | assumption))) only [law08_do, law08_do_c, rst, Met.cells, MOp.cells, hσ1, bo, b0, b1, b2, b3, b4, b5, b6, sz, Nat.reduceAdd, Nat.reduceMul, Nat.reduceLT, Int.reduceToNat, Int.reduceAdd, Int.reduceSub, Int.reduceMul, s_beq, List.length_cons, List.length_nil, List.getD_cons_zero, List.getD_cons_succ, List.getElem?_cons_zero, List.getElem?_cons_succ, Option.bind_some, Option.bind_assoc, s_bindN, asI_i, asB_b, asS_s, asP_p, asPS_p, asSl_sl, s_agg, s_tup, s_fn, joinB, joinI, joinR, beq_true, beq_false, Bool.not_true, Bool.not_false, Bool.not_not, cond_true, cond_false, neI, s_mapS, bindS_inl, bindS_inr, Bool.and_true, Bool.true_and, Bool.and_false, Bool.false_and, s_isNoneS, s_isNoneN, s_ref, s_adv, s_ldf, s_ld, s_ldM, s_st, s_stM, s_bs, s_bn, s_pp, bump_blk, bump_next, put_next, splice_z, splice_zz, splice_s, s_decT, s_decF, s_eqT, s_eqF, s_i64, s_u64, s_u8, Int.toNat_natCast, Nat.zero_add, s_room, s_chkT, s_rdSl, s_wrSl, s_ldN, s_ldNM, s_ldNf, List.drop_zero, List.take_succ_cons, List.take_zero, List.take_nil, List.take_length, Nat.mul_one, List.flatten_cons, List.flatten_nil, List.append_nil, List.nil_append, List.cons_append]
    clear hσ1
    refine Ok.step (look_ok (id := o.a) h1 hM h0 hw') fun r ⟨⟨la, p1, p3⟩, p2⟩ => ?_
    obtain ⟨q, σ2⟩ := r
    simp only at p1 p2
    subst p1
    have B2 := B.chg (F := []) (by simp) p2.chg
    have bb := B2.b
    have bo := B2.o
    simp only [MOp.cells, Met.cells] at bo bb
    simp (config := { maxSteps := 2000000 }) -implicitDefEqProofs (disch := (first | omega | rfl | assumption | (simp only [put_next, bump_next, kill_next, List.length_cons, List.length_nil, List.mem_cons, List.not_mem_nil, or_false, not_false_eq_true]; first | omega | assumption))) only [bb, bo, Nat.reduceAdd, Nat.reduceMul, Nat.reduceLT, Int.reduceToNat, Int.reduceAdd, Int.reduceSub, Int.reduceMul, s_beq, List.length_cons, List.length_nil, List.getD_cons_zero, List.getD_cons_succ, List.getElem?_cons_zero, List.getElem?_cons_succ, Option.bind_some, Option.bind_assoc, s_bindN, asI_i, asB_b, asS_s, asP_p, asPS_p, asSl_sl, s_agg, s_tup, s_fn, joinB, joinI, joinR, beq_true, beq_false, Bool.not_true, Bool.not_false, Bool.not_not, cond_true, cond_false, neI, s_mapS, bindS_inl, bindS_inr, Bool.and_true, Bool.true_and, Bool.and_false, Bool.false_and, s_isNoneS, s_isNoneN, s_ref, s_adv, s_ldf, s_ld, s_ldM, s_st, s_stM, s_bs, s_bn, s_pp, bump_blk, bump_next, put_next, splice_z, splice_zz, splice_s, s_decT, s_decF, s_eqT, s_eqF, s_i64, s_u64, s_u8, Int.toNat_natCast, Nat.zero_add, s_room, s_chkT, s_rdSl, s_wrSl, s_ldN, s_ldNM, s_ldNf, List.drop_zero, List.take_succ_cons, List.take_zero, List.take_nil, List.take_length, Nat.mul_one, List.flatten_cons, List.flatten_nil, List.append_nil, List.nil_append, List.cons_append]
    refine Ok.step (ris_ok (m := M.met) (id := o.a) hR.imm) fun r ⟨k1, k4⟩ => ?_
    obtain ⟨q, σ3⟩ := r
    simp only at k1 k4
    rw [hR.sp, hw] at k1
    subst k1
    have B3 := B2.chg (F := []) (by simp) k4.chg
    have n3 := B3.n
    have kn := k4.next
    have c3 := B3.b
    have o3 := B3.o
    obtain ⟨cs, hc', cc⟩ := B3.c
    obtain ⟨x0, x1, x2, x3, x4, x5, x6, rfl⟩ := seven hc'
    simp only [Met.cells, MOp.cells] at c3 o3
    have ref : SA.ref a = some (rb, ro) := by rw [ea]; rfl
    have same := rsame_ok (σ := σ3) p3 g2 (by omega)
    have q1 : decide (o.a < (L.length : Int)) = true := decide_eq_true (by omega)
    have q2 : decide ((0 : Int) ≤ o.a) = true := decide_eq_true h0
    simp (config := { maxSteps := 2000000 }) -implicitDefEqProofs (disch := (first | omega | rfl | assumption | (simp only [put_next, bump_next, kill_next, List.length_cons, List.length_nil, List.mem_cons, List.not_mem_nil, or_false, not_false_eq_true]; first | omega | assumption))) only [rst, Met.cells, c3, o3, cc, beq_self_eq_true, Option.isSome_some, ref, g0, g1, same, q1, q2, decide_true, Nat.reduceAdd, Nat.reduceMul, Nat.reduceLT, Int.reduceToNat, Int.reduceAdd, Int.reduceSub, Int.reduceMul, s_beq, List.length_cons, List.length_nil, List.getD_cons_zero, List.getD_cons_succ, List.getElem?_cons_zero, List.getElem?_cons_succ, Option.bind_some, Option.bind_assoc, s_bindN, asI_i, asB_b, asS_s, asP_p, asPS_p, asSl_sl, s_agg, s_tup, s_fn, joinB, joinI, joinR, beq_true, beq_false, Bool.not_true, Bool.not_false, Bool.not_not, cond_true, cond_false, neI, s_mapS, bindS_inl, bindS_inr, Bool.and_true, Bool.true_and, Bool.and_false, Bool.false_and, s_isNoneS, s_isNoneN, s_ref, s_adv, s_ldf, s_ld, s_ldM, s_st, s_stM, s_bs, s_bn, s_pp, bump_blk, bump_next, put_next, splice_z, splice_zz, splice_s, s_decT, s_decF, s_eqT, s_eqF, s_i64, s_u64, s_u8, Int.toNat_natCast, Nat.zero_add, s_room, s_chkT, s_rdSl, s_wrSl, s_ldN, s_ldNM, s_ldNf, List.drop_zero, List.take_succ_cons, List.take_zero, List.take_nil, List.take_length, Nat.mul_one, List.flatten_cons, List.flatten_nil, List.append_nil, List.nil_append, List.cons_append]
    have p9 : Behind σ1 mb F M σ2 := ⟨⟨F, h1.ext p2, Fp.refl _ _⟩, p2.chg, hM⟩
    refine Ok_some.2 ⟨rfl, p9.fin hF e0 B.n (by simp only [put_next]; exact kn) fun b hb hne => ?_⟩
    simp only []
    rw [s_bn hne.2.2]; exact k4.blk b hb
theorem do_ok : DoGoal σ mb F M a L.length o := by
  by_cases c0 : o.kind = 0
  · exact do_0 h hM hc hR hr c0
  by_cases c1 : o.kind = 1
  · exact do_1 h hM hc hR hr c1
  by_cases c2 : o.kind = 2
  · exact do_2 h hM hc hR hr c2
  by_cases c3 : o.kind = 3
  · exact do_3 h hM hc hR hr c3
  by_cases c4 : o.kind = 4
  · exact do_4 h hM hc hR hr c4
  by_cases c5 : o.kind = 5
  · exact do_5 h hM hc hR hr c5
  by_cases c6 : o.kind = 6
  · exact do_6 h hM hc hR hr c6
  · exact (do_x h hM hc hR hr c0 c1 c2 c3 c4 c5 c6).mono fun r ⟨g1, g2⟩ => ⟨M, a, L, g1, hR, g2, by omega, by omega⟩
end
theorem meters_ok {σ : AH O} {mb : Nat} {F : List Nat} {M : MemS} (h : MemAt σ mb F M) : Ok (law08_meters [.p (some (.n mb, 0)), .agg M.met.cells] σ) fun r => r.1 = .b true ∧ Ext σ r.2 := by
  generalize hm : M.met = m
  have e0 : Ext σ ((σ.bump 1).put σ.next (.cells true T_haymowref07_State m.cells)) := (ext_of (by simp only [put_next, bump_next, kill_next]; omega) (fun b hb => by simp -implicitDefEqProofs (disch := (first | omega | rfl | assumption | (simp only [put_next, bump_next, kill_next, List.length_cons, List.length_nil, List.mem_cons, List.not_mem_nil, or_false, not_false_eq_true]; first | omega | assumption))) only [s_bn, s_kn, bump_blk, s_ext]))
  have hb : ((σ.bump 1).put σ.next (.cells true T_haymowref07_State m.cells)).blk σ.next = some (.cells true T_haymowref07_State m.cells) := s_bs
  have hn : σ.next < ((σ.bump 1).put σ.next (.cells true T_haymowref07_State m.cells)).next := by simp
  have h1 := h.ext e0
  simp only [Met.cells] at e0 h1 hb hn
  generalize hσ1 : (σ.bump 1).put σ.next (.cells true T_haymowref07_State _) = σ1 at e0 h1 hb hn
  obtain ⟨tb, el, rest, q1, q2⟩ := h1.meter
  rw [hm] at q2
  have hh := held_ok q2
  have hg := high_ok q2
  simp (config := { maxSteps := 2000000 }) -implicitDefEqProofs (disch := (first | omega | rfl | assumption | (simp only [put_next, bump_next, kill_next, List.length_cons, List.length_nil, List.mem_cons, List.not_mem_nil, or_false, not_false_eq_true]; first | omega | assumption))) only [law08_meters, law08_meters_c, Met.cells, hσ1, q1, hb, hh, hg, beq_self_eq_true, Nat.reduceAdd, Nat.reduceMul, Nat.reduceLT, Int.reduceToNat, Int.reduceAdd, Int.reduceSub, Int.reduceMul, s_beq, List.length_cons, List.length_nil, List.getD_cons_zero, List.getD_cons_succ, List.getElem?_cons_zero, List.getElem?_cons_succ, Option.bind_some, Option.bind_assoc, s_bindN, asI_i, asB_b, asS_s, asP_p, asPS_p, asSl_sl, s_agg, s_tup, s_fn, joinB, joinI, joinR, beq_true, beq_false, Bool.not_true, Bool.not_false, Bool.not_not, cond_true, cond_false, neI, s_mapS, bindS_inl, bindS_inr, Bool.and_true, Bool.true_and, Bool.and_false, Bool.false_and, s_isNoneS, s_isNoneN, s_ref, s_adv, s_ldf, s_ld, s_ldM, s_st, s_stM, s_bs, s_bn, s_pp, bump_blk, bump_next, put_next, splice_z, splice_zz, splice_s, s_decT, s_decF, s_eqT, s_eqF, s_i64, s_u64, s_u8, Int.toNat_natCast, Nat.zero_add, s_room, s_chkT, s_rdSl, s_wrSl, s_ldN, s_ldNM, s_ldNf, List.drop_zero, List.take_succ_cons, List.take_zero, List.take_nil, List.take_length, Nat.mul_one, List.flatten_cons, List.flatten_nil, List.append_nil, List.nil_append, List.cons_append]
  refine Ok.step (ofr_ok q2) fun r ⟨p1, p2⟩ => ?_
  obtain ⟨q, σ2⟩ := r
  simp only at p1 p2
  subst p1
  have hb2 := (p2.blk _ hn).trans hb
  have q3 := (p2.blk _ h1.mlt).trans q1
  simp (config := { maxSteps := 2000000 }) -implicitDefEqProofs (disch := (first | omega | rfl | assumption | (simp only [put_next, bump_next, kill_next, List.length_cons, List.length_nil, List.mem_cons, List.not_mem_nil, or_false, not_false_eq_true]; first | omega | assumption))) only [wcs, hb2, q3, beq_self_eq_true, Nat.reduceAdd, Nat.reduceMul, Nat.reduceLT, Int.reduceToNat, Int.reduceAdd, Int.reduceSub, Int.reduceMul, s_beq, List.length_cons, List.length_nil, List.getD_cons_zero, List.getD_cons_succ, List.getElem?_cons_zero, List.getElem?_cons_succ, Option.bind_some, Option.bind_assoc, s_bindN, asI_i, asB_b, asS_s, asP_p, asPS_p, asSl_sl, s_agg, s_tup, s_fn, joinB, joinI, joinR, beq_true, beq_false, Bool.not_true, Bool.not_false, Bool.not_not, cond_true, cond_false, neI, s_mapS, bindS_inl, bindS_inr, Bool.and_true, Bool.true_and, Bool.and_false, Bool.false_and, s_isNoneS, s_isNoneN, s_ref, s_adv, s_ldf, s_ld, s_ldM, s_st, s_stM, s_bs, s_bn, s_pp, bump_blk, bump_next, put_next, splice_z, splice_zz, splice_s, s_decT, s_decF, s_eqT, s_eqF, s_i64, s_u64, s_u8, Int.toNat_natCast, Nat.zero_add, s_room, s_chkT, s_rdSl, s_wrSl, s_ldN, s_ldNM, s_ldNf, List.drop_zero, List.take_succ_cons, List.take_zero, List.take_nil, List.take_length, Nat.mul_one, List.flatten_cons, List.flatten_nil, List.append_nil, List.nil_append, List.cons_append]
  refine Ok.step (ofw_ok (q2.chg (L := []) p2.chg (by simp))) fun r ⟨p3, p4⟩ => ?_
  obtain ⟨q, σ3⟩ := r
  simp only at p3 p4
  subst p3
  have hb3 := (p4.blk _ (by have := p2.next; omega)).trans hb2
  simp (config := { maxSteps := 2000000 }) -implicitDefEqProofs (disch := (first | omega | rfl | assumption | (simp only [put_next, bump_next, kill_next, List.length_cons, List.length_nil, List.mem_cons, List.not_mem_nil, or_false, not_false_eq_true]; first | omega | assumption))) only [wcs, hb3, beq_self_eq_true, Nat.reduceAdd, Nat.reduceMul, Nat.reduceLT, Int.reduceToNat, Int.reduceAdd, Int.reduceSub, Int.reduceMul, s_beq, List.length_cons, List.length_nil, List.getD_cons_zero, List.getD_cons_succ, List.getElem?_cons_zero, List.getElem?_cons_succ, Option.bind_some, Option.bind_assoc, s_bindN, asI_i, asB_b, asS_s, asP_p, asPS_p, asSl_sl, s_agg, s_tup, s_fn, joinB, joinI, joinR, beq_true, beq_false, Bool.not_true, Bool.not_false, Bool.not_not, cond_true, cond_false, neI, s_mapS, bindS_inl, bindS_inr, Bool.and_true, Bool.true_and, Bool.and_false, Bool.false_and, s_isNoneS, s_isNoneN, s_ref, s_adv, s_ldf, s_ld, s_ldM, s_st, s_stM, s_bs, s_bn, s_pp, bump_blk, bump_next, put_next, splice_z, splice_zz, splice_s, s_decT, s_decF, s_eqT, s_eqF, s_i64, s_u64, s_u8, Int.toNat_natCast, Nat.zero_add, s_room, s_chkT, s_rdSl, s_wrSl, s_ldN, s_ldNM, s_ldNf, List.drop_zero, List.take_succ_cons, List.take_zero, List.take_nil, List.take_length, Nat.mul_one, List.flatten_cons, List.flatten_nil, List.append_nil, List.nil_append, List.cons_append]
  exact Ok_some.2 ⟨rfl, (e0.trans p2).trans p4⟩

end Go.Abs.Try
