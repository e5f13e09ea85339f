/-
  Layer 18: handles come and go; some are made; the example of the page. No conditions.
-/
import Derived.Test.YtcjekncaflnhlaaM18
set_option linter.unusedVariables false
set_option linter.unusedSimpArgs false
set_option linter.constructorNameAsVariable false
set_option linter.unusedSimpArgs false
set_option linter.unusedVariables false
set_option linter.unusedSectionVars false
set_option maxHeartbeats 1000000
namespace Go.Abs.Try
open Go Go.Abs
variable {O : Type}

theorem token_ok {σ : AH O} {i g : Nat} (hi : i < 1048576) (hg : g < 4398046511104) : handles_token [.i .i64 ((i : Int) + 1), .i .i64 (g : Int)] σ = some (.i .i64 (tok i g), σ) := by
  have e1 : (i : Int) + 1 - 1 = i := by omega
  have e2 : (2 : Int) ^ 20 = 1048576 := rfl
  have e3 := or20 hg hi
  simp (config := { maxSteps := 2000000 }) -implicitDefEqProofs (disch := (first | omega | rfl | assumption | (simp only [put_next, bump_next, kill_next, List.length_cons, List.length_nil, List.mem_cons, List.not_mem_nil, or_false, not_false_eq_true]; first | omega | assumption))) only [handles_token, handles_token_c, e1, e2, e3, tok, Nat.reduceAdd, Nat.reduceMul, Nat.reduceLT, Int.reduceToNat, Int.reduceAdd, Int.reduceSub, Int.reduceMul, s_beq, List.length_cons, List.length_nil, List.getD_cons_zero, List.getD_cons_succ, List.getElem?_cons_zero, List.getElem?_cons_succ, Option.bind_some, Option.bind_assoc, s_bindN, asI_i, asB_b, asS_s, asP_p, asPS_p, asSl_sl, s_agg, s_tup, s_fn, joinB, joinI, joinR, beq_true, beq_false, Bool.not_true, Bool.not_false, Bool.not_not, cond_true, cond_false, neI, s_mapS, bindS_inl, bindS_inr, Bool.and_true, Bool.true_and, Bool.and_false, Bool.false_and, s_isNoneS, s_isNoneN, s_ref, s_adv, s_ldf, s_ld, s_ldM, s_st, s_stM, s_bs, s_bn, s_pp, bump_blk, bump_next, put_next, splice_z, splice_zz, splice_s, s_decT, s_decF, s_eqT, s_eqF, s_i64, s_u64, s_u8, Int.toNat_natCast, Nat.zero_add, s_room, s_chkT, s_rdSl, s_wrSl, s_ldN, s_ldNM, s_ldNf, List.drop_zero, List.take_succ_cons, List.take_zero, List.take_nil, List.take_length, Nat.mul_one, List.flatten_cons, List.flatten_nil, List.append_nil, List.nil_append, List.cons_append]
/-- the entry i of the generation g came, holding x -/
structure HCame (P P' : PoolS) (i g : Nat) (x : Int) : Prop where
  id : P'.id = P.id
  now : vw P'.E i = some (true, g, some x)
  other : ∀ j, j ≠ i → vw P'.E j = vw P.E j
  was : vw P.E i = none ∧ g = 0 ∨ ∃ y, vw P.E i = some (false, g, y)
  len : P.E.length ≤ P'.E.length ∧ P'.E.length ≤ P.E.length + 1
  room : P'.room = P.room ∨ P'.room = P.more
  head : ∀ j r, P.free = (j + 1) :: r → i = j
section
variable {σ : AH O} {hb pb mb : Nat} {M : MemS} {P : PoolS} {C : List Nat} {w : List Int} {X : List Nat} (h : HanAt σ hb pb mb M P C w X) (hm : M.met.r + 1000 < 85070591730234615865843651857942052864 ∧ M.met.w + 1000 < 85070591730234615865843651857942052864)
include h hm
theorem hadd_ok {x : Int} (hE : P.E.length < 1048576) (hR : P.more * 4 ≤ 4194304) (hg : ∀ e ∈ P.E, e.gen < 4398046511103) :
    Ok (handles_Handles__Add [.p (some (.n hb, 0)), .i .u64 x] σ) fun r => ∃ i g P', r.1 = .tup [.i .i64 (tok i g), .i .i64 0] ∧ HCame P P' i g x ∧ ∃ M' w' dr dw, HanAt r.2 hb pb mb M' P' (C ++ [i]) w' X ∧ Wrt M M' P.id w' dr dw ∧ 0 ≤ dr ∧ 0 ≤ dw ∧ dr + dw ≤ 16 ∧ Keep X σ r.2 := by
  obtain ⟨el, hbb⟩ := h.b
  have hw := h.words
  have hnx := h.nx
  have hfew := h.few
  have hcl := h.cl
  have e0 : ((0 : Int) != 0) = false := rfl
  have hpn := h.p.nx
  simp (config := { maxSteps := 2000000 }) -implicitDefEqProofs (disch := (first | omega | rfl | assumption | (simp only [put_next, bump_next, kill_next, List.length_cons, List.length_nil, List.mem_cons, List.not_mem_nil, or_false, not_false_eq_true]; first | omega | assumption))) only [handles_Handles__Add, handles_Handles__Add_c, hbb, Nat.reduceAdd, Nat.reduceMul, Nat.reduceLT, Int.reduceToNat, Int.reduceAdd, Int.reduceSub, Int.reduceMul, s_beq, List.length_cons, List.length_nil, List.getD_cons_zero, List.getD_cons_succ, List.getElem?_cons_zero, List.getElem?_cons_succ, Option.bind_some, Option.bind_assoc, s_bindN, asI_i, asB_b, asS_s, asP_p, asPS_p, asSl_sl, s_agg, s_tup, s_fn, joinB, joinI, joinR, beq_true, beq_false, Bool.not_true, Bool.not_false, Bool.not_not, cond_true, cond_false, neI, s_mapS, bindS_inl, bindS_inr, Bool.and_true, Bool.true_and, Bool.and_false, Bool.false_and, s_isNoneS, s_isNoneN, s_ref, s_adv, s_ldf, s_ld, s_ldM, s_st, s_stM, s_bs, s_bn, s_pp, bump_blk, bump_next, put_next, splice_z, splice_zz, splice_s, s_decT, s_decF, s_eqT, s_eqF, s_i64, s_u64, s_u8, Int.toNat_natCast, Nat.zero_add, s_room, s_chkT, s_rdSl, s_wrSl, s_ldN, s_ldNM, s_ldNf, List.drop_zero, List.take_succ_cons, List.take_zero, List.take_nil, List.take_length, Nat.mul_one, List.flatten_cons, List.flatten_nil, List.append_nil, List.nil_append, List.cons_append]
  refine Ok.step (ptake_any h.p ⟨by omega, by omega⟩ hE (by rw [hw]; exact hR) ⟨by omega, by omega⟩) fun q ⟨i, g, P1, p1, t, M1, w1, dr, dw, p2, p3, d1, d2, d3, d4, p4⟩ => ?_
  obtain ⟨q, σ1⟩ := q
  simp only at p1 p2 p4
  subst p1
  have r1 := p3.r
  have v1 := p3.w
  have hb1 : σ1.blk hb = _ := p4.head.trans hbb
  have hw1 : P1.words = 3 := t.words.trans hw
  have hnow : P1.E[i]? = some ⟨true, g, [0, 0, 0]⟩ := by rw [t.now, hw]; rfl
  have hi1 := (List.getElem?_eq_some_iff.1 hnow).1
  have hlen := t.len
  have hg4 : g < 4398046511103 := by
    cases hE : P.E[i]? with
    | none => rw [t.new hE]; omega
    | some e =>
      obtain ⟨_, h2⟩ := t.was e hE
      rw [← h2]; exact hg e (List.mem_of_getElem? hE)
  have hiC : i ∉ C := fun hm => by
    obtain ⟨j, hj⟩ := List.getElem?_of_mem hm
    obtain ⟨e, he, hl⟩ := h.l.at_ j i hj
    have := (t.was e he).1
    rw [hl.tk] at this; cases this
  have hL1 : Linked P1.E 1 2 C := h.l.other fun j hj => t.other j fun e => hiC (e ▸ hj)
  simp (config := { maxSteps := 2000000 }) -implicitDefEqProofs (disch := (first | omega | rfl | assumption | (simp only [put_next, bump_next, kill_next, List.length_cons, List.length_nil, List.mem_cons, List.not_mem_nil, or_false, not_false_eq_true]; first | omega | assumption))) only [e0, hb1, Nat.reduceAdd, Nat.reduceMul, Nat.reduceLT, Int.reduceToNat, Int.reduceAdd, Int.reduceSub, Int.reduceMul, s_beq, List.length_cons, List.length_nil, List.getD_cons_zero, List.getD_cons_succ, List.getElem?_cons_zero, List.getElem?_cons_succ, Option.bind_some, Option.bind_assoc, s_bindN, asI_i, asB_b, asS_s, asP_p, asPS_p, asSl_sl, s_agg, s_tup, s_fn, joinB, joinI, joinR, beq_true, beq_false, Bool.not_true, Bool.not_false, Bool.not_not, cond_true, cond_false, neI, s_mapS, bindS_inl, bindS_inr, Bool.and_true, Bool.true_and, Bool.and_false, Bool.false_and, s_isNoneS, s_isNoneN, s_ref, s_adv, s_ldf, s_ld, s_ldM, s_st, s_stM, s_bs, s_bn, s_pp, bump_blk, bump_next, put_next, splice_z, splice_zz, splice_s, s_decT, s_decF, s_eqT, s_eqF, s_i64, s_u64, s_u8, Int.toNat_natCast, Nat.zero_add, s_room, s_chkT, s_rdSl, s_wrSl, s_ldN, s_ldNM, s_ldNf, List.drop_zero, List.take_succ_cons, List.take_zero, List.take_nil, List.take_length, Nat.mul_one, List.flatten_cons, List.flatten_nil, List.append_nil, List.nil_append, List.cons_append]
  have ps := pset_ok p2 ⟨by omega, by omega⟩ (k := 0) (x := x) hnow rfl (by omega) (by omega)
  rw [show ((0 : Nat) : Int) = 0 from rfl] at ps
  refine Ok.step ps fun q ⟨q1, M2, w2, q2, q3, q4⟩ => ?_
  obtain ⟨q, σ2⟩ := q
  simp only [List.set_cons_zero] at q1 q2 q4
  subst q1
  have r2 := q3.r
  have v2 := q3.w
  have hb2 : σ2.blk hb = _ := q4.head.trans hb1
  have hnow2 : (P1.E.set i ⟨true, g, [x, 0, 0]⟩)[i]? = some ⟨true, g, [x, 0, 0]⟩ := by rw [List.getElem?_set]; simp [hi1]
  have hL2 : Linked (P1.E.set i ⟨true, g, [x, 0, 0]⟩) 1 2 C := hL1.other fun j hj => by show (P1.E.set i ⟨true, g, [x, 0, 0]⟩)[j]? = P1.E[j]?; rw [List.getElem?_set, if_neg (fun e : i = j => hiC (by rw [e]; exact hj))]
  simp (config := { maxSteps := 2000000 }) -implicitDefEqProofs (disch := (first | omega | rfl | assumption | (simp only [put_next, bump_next, kill_next, List.length_cons, List.length_nil, List.mem_cons, List.not_mem_nil, or_false, not_false_eq_true]; first | omega | assumption))) only [hb2, Nat.reduceAdd, Nat.reduceMul, Nat.reduceLT, Int.reduceToNat, Int.reduceAdd, Int.reduceSub, Int.reduceMul, s_beq, List.length_cons, List.length_nil, List.getD_cons_zero, List.getD_cons_succ, List.getElem?_cons_zero, List.getElem?_cons_succ, Option.bind_some, Option.bind_assoc, s_bindN, asI_i, asB_b, asS_s, asP_p, asPS_p, asSl_sl, s_agg, s_tup, s_fn, joinB, joinI, joinR, beq_true, beq_false, Bool.not_true, Bool.not_false, Bool.not_not, cond_true, cond_false, neI, s_mapS, bindS_inl, bindS_inr, Bool.and_true, Bool.true_and, Bool.and_false, Bool.false_and, s_isNoneS, s_isNoneN, s_ref, s_adv, s_ldf, s_ld, s_ldM, s_st, s_stM, s_bs, s_bn, s_pp, bump_blk, bump_next, put_next, splice_z, splice_zz, splice_s, s_decT, s_decF, s_eqT, s_eqF, s_i64, s_u64, s_u8, Int.toNat_natCast, Nat.zero_add, s_room, s_chkT, s_rdSl, s_wrSl, s_ldN, s_ldNM, s_ldNf, List.drop_zero, List.take_succ_cons, List.take_zero, List.take_nil, List.take_length, Nat.mul_one, List.flatten_cons, List.flatten_nil, List.append_nil, List.nil_append, List.cons_append]
  -- the table
  have hT : Ok (handles_Handles__table [.p (some (.n hb, 0))] σ2) fun r => r.1 = tbl { P1 with E := P1.E.set i ⟨true, g, [x, 0, 0]⟩ } mb 1 2 ∧ Ext σ2 r.2 := by
    have hlt : hb < σ2.next := q2.mi.lt _ (by simp)
    simp (config := { maxSteps := 2000000 }) -implicitDefEqProofs (disch := (first | omega | rfl | assumption | (simp only [put_next, bump_next, kill_next, List.length_cons, List.length_nil, List.mem_cons, List.not_mem_nil, or_false, not_false_eq_true]; first | omega | assumption))) only [handles_Handles__table, handles_Handles__table_c, hb2, Nat.reduceAdd, Nat.reduceMul, Nat.reduceLT, Int.reduceToNat, Int.reduceAdd, Int.reduceSub, Int.reduceMul, s_beq, List.length_cons, List.length_nil, List.getD_cons_zero, List.getD_cons_succ, List.getElem?_cons_zero, List.getElem?_cons_succ, Option.bind_some, Option.bind_assoc, s_bindN, asI_i, asB_b, asS_s, asP_p, asPS_p, asSl_sl, s_agg, s_tup, s_fn, joinB, joinI, joinR, beq_true, beq_false, Bool.not_true, Bool.not_false, Bool.not_not, cond_true, cond_false, neI, s_mapS, bindS_inl, bindS_inr, Bool.and_true, Bool.true_and, Bool.and_false, Bool.false_and, s_isNoneS, s_isNoneN, s_ref, s_adv, s_ldf, s_ld, s_ldM, s_st, s_stM, s_bs, s_bn, s_pp, bump_blk, bump_next, put_next, splice_z, splice_zz, splice_s, s_decT, s_decF, s_eqT, s_eqF, s_i64, s_u64, s_u8, Int.toNat_natCast, Nat.zero_add, s_room, s_chkT, s_rdSl, s_wrSl, s_ldN, s_ldNM, s_ldNf, List.drop_zero, List.take_succ_cons, List.take_zero, List.take_nil, List.take_length, Nat.mul_one, List.flatten_cons, List.flatten_nil, List.append_nil, List.nil_append, List.cons_append]
    generalize hσ : (σ2.bump 1).put σ2.next (.cells true _ _) = σ3
    obtain ⟨E1, b1, n1⟩ := boxed hσ
    clear hσ
    have pt := ptable_ok (q2.ext E1) (nx := 1) (pv := 2) (by show 1 < P1.words; omega) (by show 2 < P1.words; omega)
    rw [show ((1 : Nat) : Int) = 1 from rfl, show ((2 : Nat) : Int) = 2 from rfl] at pt
    refine Ok.step pt fun r ⟨g1, g2⟩ => ?_
    obtain ⟨q, σ4⟩ := r
    simp only [tbl] at g1 g2
    subst g1
    have b2 : σ4.blk σ2.next = _ := (g2.blk _ (by omega)).trans b1
    have n2 := g2.next
    simp (config := { maxSteps := 2000000 }) -implicitDefEqProofs (disch := (first | omega | rfl | assumption | (simp only [put_next, bump_next, kill_next, List.length_cons, List.length_nil, List.mem_cons, List.not_mem_nil, or_false, not_false_eq_true]; first | omega | assumption))) only [b2, Nat.reduceAdd, Nat.reduceMul, Nat.reduceLT, Int.reduceToNat, Int.reduceAdd, Int.reduceSub, Int.reduceMul, s_beq, List.length_cons, List.length_nil, List.getD_cons_zero, List.getD_cons_succ, List.getElem?_cons_zero, List.getElem?_cons_succ, Option.bind_some, Option.bind_assoc, s_bindN, asI_i, asB_b, asS_s, asP_p, asPS_p, asSl_sl, s_agg, s_tup, s_fn, joinB, joinI, joinR, beq_true, beq_false, Bool.not_true, Bool.not_false, Bool.not_not, cond_true, cond_false, neI, s_mapS, bindS_inl, bindS_inr, Bool.and_true, Bool.true_and, Bool.and_false, Bool.false_and, s_isNoneS, s_isNoneN, s_ref, s_adv, s_ldf, s_ld, s_ldM, s_st, s_stM, s_bs, s_bn, s_pp, bump_blk, bump_next, put_next, splice_z, splice_zz, splice_s, s_decT, s_decF, s_eqT, s_eqF, s_i64, s_u64, s_u8, Int.toNat_natCast, Nat.zero_add, s_room, s_chkT, s_rdSl, s_wrSl, s_ldN, s_ldNM, s_ldNf, List.drop_zero, List.take_succ_cons, List.take_zero, List.take_nil, List.take_length, Nat.mul_one, List.flatten_cons, List.flatten_nil, List.append_nil, List.nil_append, List.cons_append]
    exact Ok_some.2 ⟨rfl, (E1.trans g2).put (Nat.le_refl _) _⟩
  refine Ok.step hT fun r ⟨g1, g2⟩ => ?_
  obtain ⟨q, σ3⟩ := r
  simp only [tbl] at g1 g2
  subst g1
  have hb3 : σ3.blk hb = _ := (g2.blk _ (q2.mi.lt _ (by simp))).trans hb2
  simp (config := { maxSteps := 2000000 }) -implicitDefEqProofs (disch := (first | omega | rfl | assumption | (simp only [put_next, bump_next, kill_next, List.length_cons, List.length_nil, List.mem_cons, List.not_mem_nil, or_false, not_false_eq_true]; first | omega | assumption))) only [hb3, Nat.reduceAdd, Nat.reduceMul, Nat.reduceLT, Int.reduceToNat, Int.reduceAdd, Int.reduceSub, Int.reduceMul, s_beq, List.length_cons, List.length_nil, List.getD_cons_zero, List.getD_cons_succ, List.getElem?_cons_zero, List.getElem?_cons_succ, Option.bind_some, Option.bind_assoc, s_bindN, asI_i, asB_b, asS_s, asP_p, asPS_p, asSl_sl, s_agg, s_tup, s_fn, joinB, joinI, joinR, beq_true, beq_false, Bool.not_true, Bool.not_false, Bool.not_not, cond_true, cond_false, neI, s_mapS, bindS_inl, bindS_inr, Bool.and_true, Bool.true_and, Bool.and_false, Bool.false_and, s_isNoneS, s_isNoneN, s_ref, s_adv, s_ldf, s_ld, s_ldM, s_st, s_stM, s_bs, s_bn, s_pp, bump_blk, bump_next, put_next, splice_z, splice_zz, splice_s, s_decT, s_decF, s_eqT, s_eqF, s_i64, s_u64, s_u8, Int.toNat_natCast, Nat.zero_add, s_room, s_chkT, s_rdSl, s_wrSl, s_ldN, s_ldNM, s_ldNf, List.drop_zero, List.take_succ_cons, List.take_zero, List.take_nil, List.take_length, Nat.mul_one, List.flatten_cons, List.flatten_nil, List.append_nil, List.nil_append, List.cons_append]
  have tp := tpush_ok (q2.ext g2) (nx := 1) (pv := 2) (by show 1 < P1.words; omega) (by show 2 < P1.words; omega) (by decide) hL2 ⟨by omega, by omega⟩ (by omega) hiC hnow2 rfl
  unfold tbl chn at tp
  refine Ok.step tp fun r ⟨s1, M3, w3, E3, dw3, s2, s3, s4, s5, s6, s7, s8⟩ => ?_
  obtain ⟨q, σ4⟩ := r
  simp only at s1 s2 s8
  subst s1
  have r3 := s5.r
  have v3 := s5.w
  have hb4 : σ4.blk hb = _ := s8.head.trans hb3
  have hlt4 := s2.mi.lt hb (by simp)
  have hpb : pb ≠ hb := fun e => hpn (by simp [e])
  simp (config := { maxSteps := 2000000 }) -implicitDefEqProofs (disch := (first | omega | rfl | assumption | (simp only [put_next, bump_next, kill_next, List.length_cons, List.length_nil, List.mem_cons, List.not_mem_nil, or_false, not_false_eq_true]; first | omega | assumption))) only [hb4, Nat.reduceAdd, Nat.reduceMul, Nat.reduceLT, Int.reduceToNat, Int.reduceAdd, Int.reduceSub, Int.reduceMul, s_beq, List.length_cons, List.length_nil, List.getD_cons_zero, List.getD_cons_succ, List.getElem?_cons_zero, List.getElem?_cons_succ, Option.bind_some, Option.bind_assoc, s_bindN, asI_i, asB_b, asS_s, asP_p, asPS_p, asSl_sl, s_agg, s_tup, s_fn, joinB, joinI, joinR, beq_true, beq_false, Bool.not_true, Bool.not_false, Bool.not_not, cond_true, cond_false, neI, s_mapS, bindS_inl, bindS_inr, Bool.and_true, Bool.true_and, Bool.and_false, Bool.false_and, s_isNoneS, s_isNoneN, s_ref, s_adv, s_ldf, s_ld, s_ldM, s_st, s_stM, s_bs, s_bn, s_pp, bump_blk, bump_next, put_next, splice_z, splice_zz, splice_s, s_decT, s_decF, s_eqT, s_eqF, s_i64, s_u64, s_u8, Int.toNat_natCast, Nat.zero_add, s_room, s_chkT, s_rdSl, s_wrSl, s_ldN, s_ldNM, s_ldNf, List.drop_zero, List.take_succ_cons, List.take_zero, List.take_nil, List.take_length, Nat.mul_one, List.flatten_cons, List.flatten_nil, List.append_nil, List.nil_append, List.cons_append]
  generalize hσ : σ4.put hb (.cells true _ _) = σ5
  have hb5 : ∃ el, σ5.blk hb = some (.cells true el [.p (some (.n pb, 0)), .i .i64 (hdI (C ++ [i]) : Int), .i .i64 (tlI (C ++ [i]) : Int), .i .i64 ((C ++ [i]).length : Int)]) := by rw [← hσ]; exact ⟨_, s_bs⟩
  have p5 : PoolAt σ5 pb mb M3 { P1 with E := E3 } w3 (hb :: X) := by
    rw [← hσ]
    exact s2.turn (L := [hb]) ⟨by simp, fun b hb' hm => s_bn (by simpa using hm)⟩ (fun b hb' => .inl (by simp at hb'; simp [hb'])) fun b hb' => .inl hb'
  have kx5 : Keep X σ4 σ5 := by rw [← hσ]; exact Keep.put hnx _
  clear hσ
  obtain ⟨el5, hb5⟩ := hb5
  have sbv : ∀ j, vw E3 j = vw (P1.E.set i ⟨true, g, [x, 0, 0]⟩) j := s3.vw (by decide) (by decide)
  have hv3 : vw E3 i = some (true, g, some x) := by rw [sbv, vw_mk hnow2]; rfl
  obtain ⟨e3, he3, htk3, hg3, hx3⟩ := vw_some hv3
  have pg := pgen_ok p5 ⟨by omega, by omega⟩ (i := i) (e := e3) he3
  rw [hg3] at pg
  refine Ok.step pg fun r ⟨u1, M4, u2, u3, u4⟩ => ?_
  obtain ⟨q, σ6⟩ := r
  simp only at u1 u2
  subst u1
  have tk := token_ok (σ := σ6) (i := i) (g := g) (by omega) (by omega)
  simp (config := { maxSteps := 2000000 }) -implicitDefEqProofs (disch := (first | omega | rfl | assumption | (simp only [put_next, bump_next, kill_next, List.length_cons, List.length_nil, List.mem_cons, List.not_mem_nil, or_false, not_false_eq_true]; first | omega | assumption))) only [tk, Nat.reduceAdd, Nat.reduceMul, Nat.reduceLT, Int.reduceToNat, Int.reduceAdd, Int.reduceSub, Int.reduceMul, s_beq, List.length_cons, List.length_nil, List.getD_cons_zero, List.getD_cons_succ, List.getElem?_cons_zero, List.getElem?_cons_succ, Option.bind_some, Option.bind_assoc, s_bindN, asI_i, asB_b, asS_s, asP_p, asPS_p, asSl_sl, s_agg, s_tup, s_fn, joinB, joinI, joinR, beq_true, beq_false, Bool.not_true, Bool.not_false, Bool.not_not, cond_true, cond_false, neI, s_mapS, bindS_inl, bindS_inr, Bool.and_true, Bool.true_and, Bool.and_false, Bool.false_and, s_isNoneS, s_isNoneN, s_ref, s_adv, s_ldf, s_ld, s_ldM, s_st, s_stM, s_bs, s_bn, s_pp, bump_blk, bump_next, put_next, splice_z, splice_zz, splice_s, s_decT, s_decF, s_eqT, s_eqF, s_i64, s_u64, s_u8, Int.toNat_natCast, Nat.zero_add, s_room, s_chkT, s_rdSl, s_wrSl, s_ldN, s_ldNM, s_ldNf, List.drop_zero, List.take_succ_cons, List.take_zero, List.take_nil, List.take_length, Nat.mul_one, List.flatten_cons, List.flatten_nil, List.append_nil, List.nil_append, List.cons_append]
  have hid : P1.id = P.id := t.id
  have hvo : ∀ j, j ≠ i → vw E3 j = vw P.E j := fun j hj => by
    rw [sbv]
    unfold vw
    rw [List.getElem?_set, if_neg (fun e => hj e.symm), t.other j hj]
  refine Ok_some.2 ⟨i, g, { P1 with E := E3 }, rfl, ⟨hid, hv3, hvo, ?_, ?_, t.room, t.head⟩, M4, w3, dr + 1 + 0 + 1, dw + 1 + dw3 + 0, ⟨u2, hw1, ⟨el5, u4.head.trans hb5⟩, hnx, s4, fun j e he htk => ?_, ?_, fun e he => ?_⟩, ?_, by omega, by omega, ?_, (((p4.tail.trans q4.tail).trans ((q2.mi.tail.tail).keepExt g2)).trans s8.tail).trans (kx5.trans u4.tail)⟩
  · cases hE : P.E[i]? with
    | none => exact .inl ⟨vw_none.2 hE, t.new hE⟩
    | some e =>
      obtain ⟨h1, h2⟩ := t.was e hE
      exact .inr ⟨e.ws[0]?, by rw [vw_mk hE, h1, h2]⟩
  · show P.E.length ≤ E3.length ∧ E3.length ≤ _
    rw [s3.len, List.length_set]; exact hlen
  · by_cases c : j = i
    · subst c; simp
    · have h1 := vw_mk he
      rw [hvo j c] at h1
      obtain ⟨e', he', ht', _⟩ := vw_some h1
      exact List.mem_append_left _ (h.all j e' he' (ht'.trans htk))
  · show E3.length ≤ _
    rw [s3.len, List.length_set]; omega
  · obtain ⟨j, hj⟩ := List.getElem?_of_mem he
    have h1 := vw_mk hj
    by_cases c : j = i
    · rw [c, hv3] at h1
      simp only [Option.some.injEq, Prod.mk.injEq] at h1
      rw [← h1.2.1]; omega
    · rw [hvo j c] at h1
      obtain ⟨e', he', _, hg', _⟩ := vw_some h1
      rw [← hg']
      have := hg e' (List.mem_of_getElem? he'); omega
  · have q3' : Wrt M1 M2 P.id w2 1 1 := by rw [← hid]; exact q3
    have s5' : Wrt M2 M3 P.id w3 0 dw3 := by rw [← hid]; exact s5
    have u3' : Wrt M3 M4 P.id w3 1 0 := by rw [← hid]; exact u3
    exact (((p3.trans q3').trans s5').trans u3').as rfl (by omega) (by omega)
  · omega
theorem hdrop_ok {i g : Nat} {x : Option Int} (hv : vw P.E i = some (true, g, x)) (hg1 : g + 1 < 4398046511104) :
    Ok (handles_Handles__Drop [.p (some (.n hb, 0)), .i .i64 (tok i g)] σ) fun r => r.1 = .i .i64 0 ∧ ∃ M' w' P' d dr dw, C[d]? = some i ∧ HanAt r.2 hb pb mb M' P' (C.eraseIdx d) w' X ∧ P'.id = P.id ∧ P'.room = P.room ∧ P'.free = (i + 1) :: P.free ∧ P'.E.length = P.E.length ∧ (∃ y, vw P'.E i = some (false, g + 1, y)) ∧ (∀ j, j ≠ i → vw P'.E j = vw P.E j) ∧ Wrt M M' P.id w' dr dw ∧ 0 ≤ dr ∧ 0 ≤ dw ∧ dr + dw ≤ 12 ∧ Keep X σ r.2 := by
  obtain ⟨e, he, htk, hg, hx⟩ := vw_some hv
  have hiC := h.all i e he htk
  obtain ⟨d, hdi⟩ := List.getElem?_of_mem hiC
  have hw := h.words
  have hcl := h.cl
  have hnx := h.nx
  have hpn := h.p.nx
  have hdl := (List.getElem?_eq_some_iff.1 hdi).1
  have e0 : ((0 : Int) != 0) = false := rfl
  simp (config := { maxSteps := 2000000 }) -implicitDefEqProofs (disch := (first | omega | rfl | assumption | (simp only [put_next, bump_next, kill_next, List.length_cons, List.length_nil, List.mem_cons, List.not_mem_nil, or_false, not_false_eq_true]; first | omega | assumption))) only [handles_Handles__Drop, handles_Handles__Drop_c, Nat.reduceAdd, Nat.reduceMul, Nat.reduceLT, Int.reduceToNat, Int.reduceAdd, Int.reduceSub, Int.reduceMul, s_beq, List.length_cons, List.length_nil, List.getD_cons_zero, List.getD_cons_succ, List.getElem?_cons_zero, List.getElem?_cons_succ, Option.bind_some, Option.bind_assoc, s_bindN, asI_i, asB_b, asS_s, asP_p, asPS_p, asSl_sl, s_agg, s_tup, s_fn, joinB, joinI, joinR, beq_true, beq_false, Bool.not_true, Bool.not_false, Bool.not_not, cond_true, cond_false, neI, s_mapS, bindS_inl, bindS_inr, Bool.and_true, Bool.true_and, Bool.and_false, Bool.false_and, s_isNoneS, s_isNoneN, s_ref, s_adv, s_ldf, s_ld, s_ldM, s_st, s_stM, s_bs, s_bn, s_pp, bump_blk, bump_next, put_next, splice_z, splice_zz, splice_s, s_decT, s_decF, s_eqT, s_eqF, s_i64, s_u64, s_u8, Int.toNat_natCast, Nat.zero_add, s_room, s_chkT, s_rdSl, s_wrSl, s_ldN, s_ldNM, s_ldNf, List.drop_zero, List.take_succ_cons, List.take_zero, List.take_nil, List.take_length, Nat.mul_one, List.flatten_cons, List.flatten_nil, List.append_nil, List.nil_append, List.cons_append]
  refine Ok.step (hid_yes h hm hv) fun r ⟨k1, M1, k2, k3, k4⟩ => ?_
  obtain ⟨q, σ1⟩ := r
  simp only at k1 k2 k4
  subst k1
  obtain ⟨el, hb1⟩ := k2.b
  have r1 := k3.r
  have v1 := k3.w
  simp (config := { maxSteps := 2000000 }) -implicitDefEqProofs (disch := (first | omega | rfl | assumption | (simp only [put_next, bump_next, kill_next, List.length_cons, List.length_nil, List.mem_cons, List.not_mem_nil, or_false, not_false_eq_true]; first | omega | assumption))) only [e0, hb1, Nat.reduceAdd, Nat.reduceMul, Nat.reduceLT, Int.reduceToNat, Int.reduceAdd, Int.reduceSub, Int.reduceMul, s_beq, List.length_cons, List.length_nil, List.getD_cons_zero, List.getD_cons_succ, List.getElem?_cons_zero, List.getElem?_cons_succ, Option.bind_some, Option.bind_assoc, s_bindN, asI_i, asB_b, asS_s, asP_p, asPS_p, asSl_sl, s_agg, s_tup, s_fn, joinB, joinI, joinR, beq_true, beq_false, Bool.not_true, Bool.not_false, Bool.not_not, cond_true, cond_false, neI, s_mapS, bindS_inl, bindS_inr, Bool.and_true, Bool.true_and, Bool.and_false, Bool.false_and, s_isNoneS, s_isNoneN, s_ref, s_adv, s_ldf, s_ld, s_ldM, s_st, s_stM, s_bs, s_bn, s_pp, bump_blk, bump_next, put_next, splice_z, splice_zz, splice_s, s_decT, s_decF, s_eqT, s_eqF, s_i64, s_u64, s_u8, Int.toNat_natCast, Nat.zero_add, s_room, s_chkT, s_rdSl, s_wrSl, s_ldN, s_ldNM, s_ldNf, List.drop_zero, List.take_succ_cons, List.take_zero, List.take_nil, List.take_length, Nat.mul_one, List.flatten_cons, List.flatten_nil, List.append_nil, List.nil_append, List.cons_append]
  refine Ok.step (htable_ok k2) fun r ⟨g1, g2⟩ => ?_
  obtain ⟨q, σ2⟩ := r
  simp only [tbl] at g1 g2
  subst g1
  have hb2 : σ2.blk hb = _ := (g2.blk _ k2.lt).trans hb1
  simp (config := { maxSteps := 2000000 }) -implicitDefEqProofs (disch := (first | omega | rfl | assumption | (simp only [put_next, bump_next, kill_next, List.length_cons, List.length_nil, List.mem_cons, List.not_mem_nil, or_false, not_false_eq_true]; first | omega | assumption))) only [hb2, Nat.reduceAdd, Nat.reduceMul, Nat.reduceLT, Int.reduceToNat, Int.reduceAdd, Int.reduceSub, Int.reduceMul, s_beq, List.length_cons, List.length_nil, List.getD_cons_zero, List.getD_cons_succ, List.getElem?_cons_zero, List.getElem?_cons_succ, Option.bind_some, Option.bind_assoc, s_bindN, asI_i, asB_b, asS_s, asP_p, asPS_p, asSl_sl, s_agg, s_tup, s_fn, joinB, joinI, joinR, beq_true, beq_false, Bool.not_true, Bool.not_false, Bool.not_not, cond_true, cond_false, neI, s_mapS, bindS_inl, bindS_inr, Bool.and_true, Bool.true_and, Bool.and_false, Bool.false_and, s_isNoneS, s_isNoneN, s_ref, s_adv, s_ldf, s_ld, s_ldM, s_st, s_stM, s_bs, s_bn, s_pp, bump_blk, bump_next, put_next, splice_z, splice_zz, splice_s, s_decT, s_decF, s_eqT, s_eqF, s_i64, s_u64, s_u8, Int.toNat_natCast, Nat.zero_add, s_room, s_chkT, s_rdSl, s_wrSl, s_ldN, s_ldNM, s_ldNf, List.drop_zero, List.take_succ_cons, List.take_zero, List.take_nil, List.take_length, Nat.mul_one, List.flatten_cons, List.flatten_nil, List.append_nil, List.nil_append, List.cons_append]
  have td := tdrop_ok (k2.p.ext g2) (nx := 1) (pv := 2) (by omega) (by omega) (by decide) h.l ⟨by omega, by omega⟩ (by omega) hdi
  unfold tbl chn at td
  refine Ok.step td fun r ⟨s1, M3, w3, E3, dw3, s2, s3, s4, s5, s6, s7, s8⟩ => ?_
  obtain ⟨q, σ4⟩ := r
  simp only at s1 s2 s8
  subst s1
  have r3 := s5.r
  have v3 := s5.w
  have hb4 : σ4.blk hb = _ := s8.head.trans hb2
  have hlt4 := s2.mi.lt hb (by simp)
  simp (config := { maxSteps := 2000000 }) -implicitDefEqProofs (disch := (first | omega | rfl | assumption | (simp only [put_next, bump_next, kill_next, List.length_cons, List.length_nil, List.mem_cons, List.not_mem_nil, or_false, not_false_eq_true]; first | omega | assumption))) only [hb4, Nat.reduceAdd, Nat.reduceMul, Nat.reduceLT, Int.reduceToNat, Int.reduceAdd, Int.reduceSub, Int.reduceMul, s_beq, List.length_cons, List.length_nil, List.getD_cons_zero, List.getD_cons_succ, List.getElem?_cons_zero, List.getElem?_cons_succ, Option.bind_some, Option.bind_assoc, s_bindN, asI_i, asB_b, asS_s, asP_p, asPS_p, asSl_sl, s_agg, s_tup, s_fn, joinB, joinI, joinR, beq_true, beq_false, Bool.not_true, Bool.not_false, Bool.not_not, cond_true, cond_false, neI, s_mapS, bindS_inl, bindS_inr, Bool.and_true, Bool.true_and, Bool.and_false, Bool.false_and, s_isNoneS, s_isNoneN, s_ref, s_adv, s_ldf, s_ld, s_ldM, s_st, s_stM, s_bs, s_bn, s_pp, bump_blk, bump_next, put_next, splice_z, splice_zz, splice_s, s_decT, s_decF, s_eqT, s_eqF, s_i64, s_u64, s_u8, Int.toNat_natCast, Nat.zero_add, s_room, s_chkT, s_rdSl, s_wrSl, s_ldN, s_ldNM, s_ldNf, List.drop_zero, List.take_succ_cons, List.take_zero, List.take_nil, List.take_length, Nat.mul_one, List.flatten_cons, List.flatten_nil, List.append_nil, List.nil_append, List.cons_append]
  generalize hσ : σ4.put hb (.cells true _ _) = σ5
  have hb5 : ∃ el, σ5.blk hb = some (.cells true el [.p (some (.n pb, 0)), .i .i64 (hdI (C.eraseIdx d) : Int), .i .i64 (tlI (C.eraseIdx d) : Int), .i .i64 ((C.eraseIdx d).length : Int)]) := by rw [← hσ]; exact ⟨_, s_bs⟩
  have p5 : PoolAt σ5 pb mb M3 { P with E := E3 } w3 (hb :: X) := by
    rw [← hσ]
    exact s2.turn (L := [hb]) ⟨by simp, fun b hb' hm => s_bn (by simpa using hm)⟩ (fun b hb' => .inl (by simp at hb'; simp [hb'])) fun b hb' => .inl hb'
  have kx5 : Keep X σ4 σ5 := by rw [← hσ]; exact Keep.put hnx _
  clear hσ
  obtain ⟨el5, hb5⟩ := hb5
  have sbv : ∀ j, vw E3 j = vw P.E j := s3.vw (by decide) (by decide)
  obtain ⟨e3, he3, htk3, hg3, hx3⟩ := vw_some ((sbv i).trans hv)
  have hi3 := (List.getElem?_eq_some_iff.1 he3).1
  refine Ok.step (pgive_ok p5 ⟨by omega, by omega⟩ (i := i) (e := e3) he3 htk3 (by rw [hg3]; omega) ⟨by omega, by omega⟩) fun r ⟨u1, M4, w4, u2, u3, u4⟩ => ?_
  obtain ⟨q, σ6⟩ := r
  simp only at u1 u2
  subst u1
  simp (config := { maxSteps := 2000000 }) -implicitDefEqProofs (disch := (first | omega | rfl | assumption | (simp only [put_next, bump_next, kill_next, List.length_cons, List.length_nil, List.mem_cons, List.not_mem_nil, or_false, not_false_eq_true]; first | omega | assumption))) only [Nat.reduceAdd, Nat.reduceMul, Nat.reduceLT, Int.reduceToNat, Int.reduceAdd, Int.reduceSub, Int.reduceMul, s_beq, List.length_cons, List.length_nil, List.getD_cons_zero, List.getD_cons_succ, List.getElem?_cons_zero, List.getElem?_cons_succ, Option.bind_some, Option.bind_assoc, s_bindN, asI_i, asB_b, asS_s, asP_p, asPS_p, asSl_sl, s_agg, s_tup, s_fn, joinB, joinI, joinR, beq_true, beq_false, Bool.not_true, Bool.not_false, Bool.not_not, cond_true, cond_false, neI, s_mapS, bindS_inl, bindS_inr, Bool.and_true, Bool.true_and, Bool.and_false, Bool.false_and, s_isNoneS, s_isNoneN, s_ref, s_adv, s_ldf, s_ld, s_ldM, s_st, s_stM, s_bs, s_bn, s_pp, bump_blk, bump_next, put_next, splice_z, splice_zz, splice_s, s_decT, s_decF, s_eqT, s_eqF, s_i64, s_u64, s_u8, Int.toNat_natCast, Nat.zero_add, s_room, s_chkT, s_rdSl, s_wrSl, s_ldN, s_ldNM, s_ldNf, List.drop_zero, List.take_succ_cons, List.take_zero, List.take_nil, List.take_length, Nat.mul_one, List.flatten_cons, List.flatten_nil, List.append_nil, List.nil_append, List.cons_append]
  rw [hg3] at u2
  have hvo : ∀ j, j ≠ i → vw (E3.set i ⟨false, g + 1, e3.ws.set 0 (hd P.free)⟩) j = vw P.E j := fun j hj => by
    rw [← sbv]
    unfold vw
    rw [List.getElem?_set, if_neg (fun e => hj e.symm)]
  have hvi : (E3.set i ⟨false, g + 1, e3.ws.set 0 (hd P.free)⟩)[i]? = some ⟨false, g + 1, e3.ws.set 0 (hd P.free)⟩ := by rw [List.getElem?_set]; simp [hi3]
  have hlenE : E3.length = P.E.length := s3.len
  have hie : i ∉ C.eraseIdx d := fun hmm => by
    obtain ⟨j, hj⟩ := List.getElem?_of_mem hmm
    rw [List.getElem?_eraseIdx] at hj
    split at hj
    · have := nodup_at h.l.nd hj hdi; omega
    · have := nodup_at h.l.nd hj hdi; omega
  refine Ok_some.2 ⟨rfl, M4, w4, _, d, 2 + 2 + 1, 0 + dw3 + 2, hdi, ⟨u2, hw, ⟨el5, u4.head.trans hb5⟩, hnx, s4.other fun j hj => ?_, fun j y hy hyt => ?_, ?_, fun y hy => ?_⟩, rfl, rfl, rfl, ?_, ⟨_, vw_mk hvi⟩, hvo, ((k3.trans s5).trans u3).as rfl (by omega) (by omega), by omega, by omega, by omega, ((((k4.trans ((k2.p.mi.tail.tail).keepExt g2)).trans s8.tail).trans kx5)).trans u4.tail⟩
  · show (E3.set _ _)[j]? = _
    rw [List.getElem?_set, if_neg (fun e : i = j => hie (by rw [e]; exact hj))]
  · by_cases c : j = i
    · subst c
      simp only at hy
      rw [hvi] at hy; cases hy; cases hyt
    · have h1 := vw_mk hy
      simp only at h1
      rw [hvo j c] at h1
      obtain ⟨e', he', ht', _⟩ := vw_some h1
      have hjC := h.all j e' he' (ht'.trans hyt)
      obtain ⟨k, hk⟩ := List.getElem?_of_mem hjC
      have hkd : k ≠ d := fun e => by subst e; rw [hdi] at hk; cases hk; exact c rfl
      rcases Nat.lt_or_ge k d with hlt | hge
      · exact List.mem_of_getElem? (i := k) (by rw [List.getElem?_eraseIdx, if_pos hlt]; exact hk)
      · exact List.mem_of_getElem? (i := k - 1) (by rw [List.getElem?_eraseIdx, if_neg (by omega), show k - 1 + 1 = k by omega]; exact hk)
  · show (E3.set _ _).length ≤ _
    rw [List.length_set, hlenE]; exact h.few
  · obtain ⟨j, hj⟩ := List.getElem?_of_mem hy
    have h1 := vw_mk hj
    by_cases c : j = i
    · subst c
      simp only at hj
      rw [hvi] at hj; cases hj
      exact hg1
    · simp only at h1
      rw [hvo j c] at h1
      obtain ⟨e', he', _, hg', _⟩ := vw_some h1
      rw [← hg']
      exact h.gen e' (List.mem_of_getElem? he')
  · show (E3.set _ _).length = _
    rw [List.length_set, hlenE]
end
theorem HanAt.turn {σ σ' : AH O} {hb pb mb : Nat} {M : MemS} {P : PoolS} {C : List Nat} {w : List Int} {X Y L : List Nat} (h : HanAt σ hb pb mb M P C w X) (hc : Chg L σ σ') (hl : ∀ b ∈ L, b ∈ X ∨ σ.next ≤ b) (hY : ∀ b ∈ Y, b ∈ X ∨ (σ.next ≤ b ∧ b < σ'.next)) : HanAt σ' hb pb mb M P C w Y := by
  have hlt := h.lt
  have hbn : hb ∉ L := fun hm => by
    rcases hl hb hm with g | g
    · exact h.nx g
    · omega
  refine { h with p := h.p.turn hc (fun b hb => (hl b hb).imp (List.mem_cons_of_mem _) fun g => g) fun b hb => ?_, b := by obtain ⟨el, hbb⟩ := h.b; exact ⟨el, (hc.blk hb h.lt hbn).trans hbb⟩, nx := fun hm => ?_ }
  · rcases List.mem_cons.1 hb with rfl | hb
    · exact .inl List.mem_cons_self
    · exact (hY b hb).imp (List.mem_cons_of_mem _) fun g => g
  · rcases hY hb hm with g | g
    · exact h.nx g
    · omega
theorem hnew_nil {σ : AH O} : handles_New [.p none] σ = some (.tup [.p none, .i .i64 1], σ) := by
  have pn := pnew_bad (σ := σ) (p := none) (n := 3) (.inl rfl)
  have e1 : ((1 : Int) != 0) = true := rfl
  simp (config := { maxSteps := 2000000 }) -implicitDefEqProofs (disch := (first | omega | rfl | assumption | (simp only [put_next, bump_next, kill_next, List.length_cons, List.length_nil, List.mem_cons, List.not_mem_nil, or_false, not_false_eq_true]; first | omega | assumption))) only [handles_New, handles_New_c, pn, e1, Nat.reduceAdd, Nat.reduceMul, Nat.reduceLT, Int.reduceToNat, Int.reduceAdd, Int.reduceSub, Int.reduceMul, s_beq, List.length_cons, List.length_nil, List.getD_cons_zero, List.getD_cons_succ, List.getElem?_cons_zero, List.getElem?_cons_succ, Option.bind_some, Option.bind_assoc, s_bindN, asI_i, asB_b, asS_s, asP_p, asPS_p, asSl_sl, s_agg, s_tup, s_fn, joinB, joinI, joinR, beq_true, beq_false, Bool.not_true, Bool.not_false, Bool.not_not, cond_true, cond_false, neI, s_mapS, bindS_inl, bindS_inr, Bool.and_true, Bool.true_and, Bool.and_false, Bool.false_and, s_isNoneS, s_isNoneN, s_ref, s_adv, s_ldf, s_ld, s_ldM, s_st, s_stM, s_bs, s_bn, s_pp, bump_blk, bump_next, put_next, splice_z, splice_zz, splice_s, s_decT, s_decF, s_eqT, s_eqF, s_i64, s_u64, s_u8, Int.toNat_natCast, Nat.zero_add, s_room, s_chkT, s_rdSl, s_wrSl, s_ldN, s_ldNM, s_ldNf, List.drop_zero, List.take_succ_cons, List.take_zero, List.take_nil, List.take_length, Nat.mul_one, List.flatten_cons, List.flatten_nil, List.append_nil, List.nil_append, List.cons_append]
theorem hnew_ok {σ : AH O} {mb : Nat} {M : MemS} {X : List Nat} (h : MemIn σ mb M X) (hc : M.calm) (hcnt : M.count < 262144) :
    Ok (handles_New [.p (some (.n mb, 0))] σ) fun r => ∃ hb pb, r.1 = .tup [.p (some (.n hb, 0)), .i .i64 0] ∧ HanAt r.2 hb pb mb (M.opn (ff M.sp) 0) ⟨ff M.sp, 3, 0, [], [], 0⟩ [] [] X ∧ σ.next ≤ hb ∧ Keep X σ r.2 := by
  simp (config := { maxSteps := 2000000 }) -implicitDefEqProofs (disch := (first | omega | rfl | assumption | (simp only [put_next, bump_next, kill_next, List.length_cons, List.length_nil, List.mem_cons, List.not_mem_nil, or_false, not_false_eq_true]; first | omega | assumption))) only [handles_New, handles_New_c, Nat.reduceAdd, Nat.reduceMul, Nat.reduceLT, Int.reduceToNat, Int.reduceAdd, Int.reduceSub, Int.reduceMul, s_beq, List.length_cons, List.length_nil, List.getD_cons_zero, List.getD_cons_succ, List.getElem?_cons_zero, List.getElem?_cons_succ, Option.bind_some, Option.bind_assoc, s_bindN, asI_i, asB_b, asS_s, asP_p, asPS_p, asSl_sl, s_agg, s_tup, s_fn, joinB, joinI, joinR, beq_true, beq_false, Bool.not_true, Bool.not_false, Bool.not_not, cond_true, cond_false, neI, s_mapS, bindS_inl, bindS_inr, Bool.and_true, Bool.true_and, Bool.and_false, Bool.false_and, s_isNoneS, s_isNoneN, s_ref, s_adv, s_ldf, s_ld, s_ldM, s_st, s_stM, s_bs, s_bn, s_pp, bump_blk, bump_next, put_next, splice_z, splice_zz, splice_s, s_decT, s_decF, s_eqT, s_eqF, s_i64, s_u64, s_u8, Int.toNat_natCast, Nat.zero_add, s_room, s_chkT, s_rdSl, s_wrSl, s_ldN, s_ldNM, s_ldNf, List.drop_zero, List.take_succ_cons, List.take_zero, List.take_nil, List.take_length, Nat.mul_one, List.flatten_cons, List.flatten_nil, List.append_nil, List.nil_append, List.cons_append]
  have pn := pnew_ok h hc hcnt (n := 3) ⟨by decide, by decide⟩
  rw [show ((3 : Nat) : Int) = 3 from rfl] at pn
  refine Ok.step pn fun r ⟨pb, g1, g2, g3, g4⟩ => ?_
  obtain ⟨q, σ1⟩ := r
  simp only at g1 g2 g4
  subst g1
  have e0 : ((0 : Int) != 0) = false := rfl
  simp (config := { maxSteps := 2000000 }) -implicitDefEqProofs (disch := (first | omega | rfl | assumption | (simp only [put_next, bump_next, kill_next, List.length_cons, List.length_nil, List.mem_cons, List.not_mem_nil, or_false, not_false_eq_true]; first | omega | assumption))) only [e0, Nat.reduceAdd, Nat.reduceMul, Nat.reduceLT, Int.reduceToNat, Int.reduceAdd, Int.reduceSub, Int.reduceMul, s_beq, List.length_cons, List.length_nil, List.getD_cons_zero, List.getD_cons_succ, List.getElem?_cons_zero, List.getElem?_cons_succ, Option.bind_some, Option.bind_assoc, s_bindN, asI_i, asB_b, asS_s, asP_p, asPS_p, asSl_sl, s_agg, s_tup, s_fn, joinB, joinI, joinR, beq_true, beq_false, Bool.not_true, Bool.not_false, Bool.not_not, cond_true, cond_false, neI, s_mapS, bindS_inl, bindS_inr, Bool.and_true, Bool.true_and, Bool.and_false, Bool.false_and, s_isNoneS, s_isNoneN, s_ref, s_adv, s_ldf, s_ld, s_ldM, s_st, s_stM, s_bs, s_bn, s_pp, bump_blk, bump_next, put_next, splice_z, splice_zz, splice_s, s_decT, s_decF, s_eqT, s_eqF, s_i64, s_u64, s_u8, Int.toNat_natCast, Nat.zero_add, s_room, s_chkT, s_rdSl, s_wrSl, s_ldN, s_ldNM, s_ldNf, List.drop_zero, List.take_succ_cons, List.take_zero, List.take_nil, List.take_length, Nat.mul_one, List.flatten_cons, List.flatten_nil, List.append_nil, List.nil_append, List.cons_append]
  refine Ok_some.2 ⟨σ1.next, pb, rfl, ⟨g2.new (pool_box_ext _ _) (Nat.le_refl _) (by simp), rfl, ⟨_, s_bs⟩, fun hm => by have := g2.mi.lt _ (List.mem_cons_of_mem _ hm); omega, Linked.nil _ _ _, fun i e he => by simp at he, by simp, fun e he => by simp at he⟩, g4.next, g4.trans (g2.mi.tail.keepExt (pool_box_ext _ _))⟩
theorem made18_ok {σ : AH O} : Ok (law18_made [] σ) fun r => ∃ mb hb pb M id, r.1 = .tup [.p (some (.n mb, 0)), .p (some (.n hb, 0)), .b true] ∧ HanAt r.2 hb pb mb M ⟨id, 3, 0, [], [], 0⟩ [] [] [] ∧ M.met.r = 0 ∧ M.met.w = 0 ∧ id = 0 := by
  simp (config := { maxSteps := 2000000 }) -implicitDefEqProofs (disch := (first | omega | rfl | assumption | (simp only [put_next, bump_next, kill_next, List.length_cons, List.length_nil, List.mem_cons, List.not_mem_nil, or_false, not_false_eq_true]; first | omega | assumption))) only [law18_made, law18_made_c, Nat.reduceAdd, Nat.reduceMul, Nat.reduceLT, Int.reduceToNat, Int.reduceAdd, Int.reduceSub, Int.reduceMul, s_beq, List.length_cons, List.length_nil, List.getD_cons_zero, List.getD_cons_succ, List.getElem?_cons_zero, List.getElem?_cons_succ, Option.bind_some, Option.bind_assoc, s_bindN, asI_i, asB_b, asS_s, asP_p, asPS_p, asSl_sl, s_agg, s_tup, s_fn, joinB, joinI, joinR, beq_true, beq_false, Bool.not_true, Bool.not_false, Bool.not_not, cond_true, cond_false, neI, s_mapS, bindS_inl, bindS_inr, Bool.and_true, Bool.true_and, Bool.and_false, Bool.false_and, s_isNoneS, s_isNoneN, s_ref, s_adv, s_ldf, s_ld, s_ldM, s_st, s_stM, s_bs, s_bn, s_pp, bump_blk, bump_next, put_next, splice_z, splice_zz, splice_s, s_decT, s_decF, s_eqT, s_eqF, s_i64, s_u64, s_u8, Int.toNat_natCast, Nat.zero_add, s_room, s_chkT, s_rdSl, s_wrSl, s_ldN, s_ldNM, s_ldNf, List.drop_zero, List.take_succ_cons, List.take_zero, List.take_nil, List.take_length, Nat.mul_one, List.flatten_cons, List.flatten_nil, List.append_nil, List.nil_append, List.cons_append]
  refine Ok.step (newX (X := []) (by simp)) fun r ⟨g1, g2, g3⟩ => ?_
  obtain ⟨q, σ1⟩ := r
  simp only at g1 g2
  subst g1
  simp (config := { maxSteps := 2000000 }) -implicitDefEqProofs (disch := (first | omega | rfl | assumption | (simp only [put_next, bump_next, kill_next, List.length_cons, List.length_nil, List.mem_cons, List.not_mem_nil, or_false, not_false_eq_true]; first | omega | assumption))) only [Option.isNone_some, Nat.reduceAdd, Nat.reduceMul, Nat.reduceLT, Int.reduceToNat, Int.reduceAdd, Int.reduceSub, Int.reduceMul, s_beq, List.length_cons, List.length_nil, List.getD_cons_zero, List.getD_cons_succ, List.getElem?_cons_zero, List.getElem?_cons_succ, Option.bind_some, Option.bind_assoc, s_bindN, asI_i, asB_b, asS_s, asP_p, asPS_p, asSl_sl, s_agg, s_tup, s_fn, joinB, joinI, joinR, beq_true, beq_false, Bool.not_true, Bool.not_false, Bool.not_not, cond_true, cond_false, neI, s_mapS, bindS_inl, bindS_inr, Bool.and_true, Bool.true_and, Bool.and_false, Bool.false_and, s_isNoneS, s_isNoneN, s_ref, s_adv, s_ldf, s_ld, s_ldM, s_st, s_stM, s_bs, s_bn, s_pp, bump_blk, bump_next, put_next, splice_z, splice_zz, splice_s, s_decT, s_decF, s_eqT, s_eqF, s_i64, s_u64, s_u8, Int.toNat_natCast, Nat.zero_add, s_room, s_chkT, s_rdSl, s_wrSl, s_ldN, s_ldNM, s_ldNf, List.drop_zero, List.take_succ_cons, List.take_zero, List.take_nil, List.take_length, Nat.mul_one, List.flatten_cons, List.flatten_nil, List.append_nil, List.nil_append, List.cons_append]
  refine Ok.step (hnew_ok g2 ⟨by decide, by decide⟩ (by decide)) fun r ⟨hb, pb, k1, k2, _, _⟩ => ?_
  obtain ⟨q, σ2⟩ := r
  simp only at k1 k2
  subst k1
  simp (config := { maxSteps := 2000000 }) -implicitDefEqProofs (disch := (first | omega | rfl | assumption | (simp only [put_next, bump_next, kill_next, List.length_cons, List.length_nil, List.mem_cons, List.not_mem_nil, or_false, not_false_eq_true]; first | omega | assumption))) only [Option.isNone_some, beq_self_eq_true, Nat.reduceAdd, Nat.reduceMul, Nat.reduceLT, Int.reduceToNat, Int.reduceAdd, Int.reduceSub, Int.reduceMul, s_beq, List.length_cons, List.length_nil, List.getD_cons_zero, List.getD_cons_succ, List.getElem?_cons_zero, List.getElem?_cons_succ, Option.bind_some, Option.bind_assoc, s_bindN, asI_i, asB_b, asS_s, asP_p, asPS_p, asSl_sl, s_agg, s_tup, s_fn, joinB, joinI, joinR, beq_true, beq_false, Bool.not_true, Bool.not_false, Bool.not_not, cond_true, cond_false, neI, s_mapS, bindS_inl, bindS_inr, Bool.and_true, Bool.true_and, Bool.and_false, Bool.false_and, s_isNoneS, s_isNoneN, s_ref, s_adv, s_ldf, s_ld, s_ldM, s_st, s_stM, s_bs, s_bn, s_pp, bump_blk, bump_next, put_next, splice_z, splice_zz, splice_s, s_decT, s_decF, s_eqT, s_eqF, s_i64, s_u64, s_u8, Int.toNat_natCast, Nat.zero_add, s_room, s_chkT, s_rdSl, s_wrSl, s_ldN, s_ldNM, s_ldNf, List.drop_zero, List.take_succ_cons, List.take_zero, List.take_nil, List.take_length, Nat.mul_one, List.flatten_cons, List.flatten_nil, List.append_nil, List.nil_append, List.cons_append]
  exact Ok_some.2 ⟨_, hb, pb, _, _, rfl, k2, rfl, rfl, rfl⟩
theorem awake18_ok {σ : AH O} : Ok (law18_awake [] σ) fun r => r.1 = .b true := by
  simp (config := { maxSteps := 2000000 }) -implicitDefEqProofs (disch := (first | omega | rfl | assumption | (simp only [put_next, bump_next, kill_next, List.length_cons, List.length_nil, List.mem_cons, List.not_mem_nil, or_false, not_false_eq_true]; first | omega | assumption))) only [law18_awake, law18_awake_c, Nat.reduceAdd, Nat.reduceMul, Nat.reduceLT, Int.reduceToNat, Int.reduceAdd, Int.reduceSub, Int.reduceMul, s_beq, List.length_cons, List.length_nil, List.getD_cons_zero, List.getD_cons_succ, List.getElem?_cons_zero, List.getElem?_cons_succ, Option.bind_some, Option.bind_assoc, s_bindN, asI_i, asB_b, asS_s, asP_p, asPS_p, asSl_sl, s_agg, s_tup, s_fn, joinB, joinI, joinR, beq_true, beq_false, Bool.not_true, Bool.not_false, Bool.not_not, cond_true, cond_false, neI, s_mapS, bindS_inl, bindS_inr, Bool.and_true, Bool.true_and, Bool.and_false, Bool.false_and, s_isNoneS, s_isNoneN, s_ref, s_adv, s_ldf, s_ld, s_ldM, s_st, s_stM, s_bs, s_bn, s_pp, bump_blk, bump_next, put_next, splice_z, splice_zz, splice_s, s_decT, s_decF, s_eqT, s_eqF, s_i64, s_u64, s_u8, Int.toNat_natCast, Nat.zero_add, s_room, s_chkT, s_rdSl, s_wrSl, s_ldN, s_ldNM, s_ldNf, List.drop_zero, List.take_succ_cons, List.take_zero, List.take_nil, List.take_length, Nat.mul_one, List.flatten_cons, List.flatten_nil, List.append_nil, List.nil_append, List.cons_append]
  refine Ok.step made18_ok fun r ⟨mb, hb, pb, M, id, g1, g2, g3, g4, _⟩ => ?_
  obtain ⟨q, σ1⟩ := r
  simp only at g1 g2
  subst g1
  have mk : ∀ {E : List PE} {i : Nat} {y : Bool × Nat × Option Int}, vw E i = some y → i < E.length := fun h => by
    obtain ⟨e, h1, _⟩ := Option.map_eq_some_iff.1 h
    exact (List.getElem?_eq_some_iff.1 h1).1
  simp (config := { maxSteps := 2000000 }) -implicitDefEqProofs (disch := (first | omega | rfl | assumption | (simp only [put_next, bump_next, kill_next, List.length_cons, List.length_nil, List.mem_cons, List.not_mem_nil, or_false, not_false_eq_true]; first | omega | assumption))) only [Nat.reduceAdd, Nat.reduceMul, Nat.reduceLT, Int.reduceToNat, Int.reduceAdd, Int.reduceSub, Int.reduceMul, s_beq, List.length_cons, List.length_nil, List.getD_cons_zero, List.getD_cons_succ, List.getElem?_cons_zero, List.getElem?_cons_succ, Option.bind_some, Option.bind_assoc, s_bindN, asI_i, asB_b, asS_s, asP_p, asPS_p, asSl_sl, s_agg, s_tup, s_fn, joinB, joinI, joinR, beq_true, beq_false, Bool.not_true, Bool.not_false, Bool.not_not, cond_true, cond_false, neI, s_mapS, bindS_inl, bindS_inr, Bool.and_true, Bool.true_and, Bool.and_false, Bool.false_and, s_isNoneS, s_isNoneN, s_ref, s_adv, s_ldf, s_ld, s_ldM, s_st, s_stM, s_bs, s_bn, s_pp, bump_blk, bump_next, put_next, splice_z, splice_zz, splice_s, s_decT, s_decF, s_eqT, s_eqF, s_i64, s_u64, s_u8, Int.toNat_natCast, Nat.zero_add, s_room, s_chkT, s_rdSl, s_wrSl, s_ldN, s_ldNM, s_ldNf, List.drop_zero, List.take_succ_cons, List.take_zero, List.take_nil, List.take_length, Nat.mul_one, List.flatten_cons, List.flatten_nil, List.append_nil, List.nil_append, List.cons_append]
  refine Ok.step (hadd_ok g2 ⟨by omega, by omega⟩ (x := 3) (by simp) (by simp [PoolS.more]) (by simp)) fun r ⟨i, g, P1, p1, c1, M1, w1, dr, dw, p2, p3, d1, d2, d3, p4⟩ => ?_
  obtain ⟨q, σ2⟩ := r
  simp only at p1 p2
  subst p1
  have l1 := c1.len
  simp only [List.length_nil] at l1
  have hi := mk c1.now
  obtain rfl : i = 0 := by omega
  obtain rfl : g = 0 := by
    rcases c1.was with ⟨_, e⟩ | ⟨y, e⟩
    · exact e
    · simp [vw] at e
  have n1 := c1.now
  have r1 := p3.r
  have v1 := p3.w
  have rm1 := c1.room
  have E1 : P1.E.length = 1 := by omega
  have gE : ∀ {P : PoolS} {k : Nat}, (∀ j, j < P.E.length → ∃ t g y, vw P.E j = some (t, g, y) ∧ g ≤ k) → ∀ e ∈ P.E, e.gen ≤ k := fun h e he => by
    obtain ⟨j, hj⟩ := List.getElem?_of_mem he
    obtain ⟨t, g, y, h1, h2⟩ := h j (List.getElem?_eq_some_iff.1 hj).1
    rw [vw_mk hj] at h1
    simp only [Option.some.injEq, Prod.mk.injEq] at h1
    omega
  have m1 : P1.room ≤ 8 := by
    rcases rm1 with e | e
    · rw [e]; simp
    · rw [e]; simp [PoolS.more]
  have more : ∀ {P : PoolS}, P.E.length ≤ 8 → P.room ≤ 16 → P.more ≤ 40 := fun h1 h2 => by unfold PoolS.more; split <;> omega
  have more1 : P1.more ≤ 40 := more (by omega) (by omega)
  have gE1 := gE (P := P1) (k := 0) (fun j hj => by
    obtain rfl : j = 0 := by omega
    exact ⟨_, _, _, n1, Nat.le_refl _⟩)
  simp (config := { maxSteps := 2000000 }) -implicitDefEqProofs (disch := (first | omega | rfl | assumption | (simp only [put_next, bump_next, kill_next, List.length_cons, List.length_nil, List.mem_cons, List.not_mem_nil, or_false, not_false_eq_true]; first | omega | assumption))) only [Nat.reduceAdd, Nat.reduceMul, Nat.reduceLT, Int.reduceToNat, Int.reduceAdd, Int.reduceSub, Int.reduceMul, s_beq, List.length_cons, List.length_nil, List.getD_cons_zero, List.getD_cons_succ, List.getElem?_cons_zero, List.getElem?_cons_succ, Option.bind_some, Option.bind_assoc, s_bindN, asI_i, asB_b, asS_s, asP_p, asPS_p, asSl_sl, s_agg, s_tup, s_fn, joinB, joinI, joinR, beq_true, beq_false, Bool.not_true, Bool.not_false, Bool.not_not, cond_true, cond_false, neI, s_mapS, bindS_inl, bindS_inr, Bool.and_true, Bool.true_and, Bool.and_false, Bool.false_and, s_isNoneS, s_isNoneN, s_ref, s_adv, s_ldf, s_ld, s_ldM, s_st, s_stM, s_bs, s_bn, s_pp, bump_blk, bump_next, put_next, splice_z, splice_zz, splice_s, s_decT, s_decF, s_eqT, s_eqF, s_i64, s_u64, s_u8, Int.toNat_natCast, Nat.zero_add, s_room, s_chkT, s_rdSl, s_wrSl, s_ldN, s_ldNM, s_ldNf, List.drop_zero, List.take_succ_cons, List.take_zero, List.take_nil, List.take_length, Nat.mul_one, List.flatten_cons, List.flatten_nil, List.append_nil, List.nil_append, List.cons_append]
  refine Ok.step (hadd_ok p2 ⟨by omega, by omega⟩ (x := 5) (by omega) (by omega) fun e he => by have := gE1 e he; omega) fun r ⟨i, g, P2, q1, c2, M2, w2, dr2, dw2, q2, q3, e1, e2, e3, q4⟩ => ?_
  obtain ⟨q, σ3⟩ := r
  simp only at q1 q2
  subst q1
  have l2 := c2.len
  have hi2 := mk c2.now
  have ne0 : i ≠ 0 := fun e => by
    subst e
    rcases c2.was with ⟨e, _⟩ | ⟨y, e⟩
    · rw [n1] at e; cases e
    · rw [n1] at e; simp at e
  obtain rfl : i = 1 := by omega
  obtain rfl : g = 0 := by
    rcases c2.was with ⟨_, e⟩ | ⟨y, e⟩
    · exact e
    · have := mk e; omega
  have n2 := c2.now
  have n20 : vw P2.E 0 = _ := (c2.other 0 (by decide)).trans n1
  have r2 := q3.r
  have v2 := q3.w
  have rm2 := c2.room
  have E2 : P2.E.length = 2 := by omega
  have m2 : P2.room ≤ 40 := by
    have := more (P := P1) (by omega) (by omega)
    rcases rm2 with e | e <;> omega
  have t0 : (0 : Int) = tok 0 0 := rfl
  simp (config := { maxSteps := 2000000 }) -implicitDefEqProofs (disch := (first | omega | rfl | assumption | (simp only [put_next, bump_next, kill_next, List.length_cons, List.length_nil, List.mem_cons, List.not_mem_nil, or_false, not_false_eq_true]; first | omega | assumption))) only [Nat.reduceAdd, Nat.reduceMul, Nat.reduceLT, Int.reduceToNat, Int.reduceAdd, Int.reduceSub, Int.reduceMul, s_beq, List.length_cons, List.length_nil, List.getD_cons_zero, List.getD_cons_succ, List.getElem?_cons_zero, List.getElem?_cons_succ, Option.bind_some, Option.bind_assoc, s_bindN, asI_i, asB_b, asS_s, asP_p, asPS_p, asSl_sl, s_agg, s_tup, s_fn, joinB, joinI, joinR, beq_true, beq_false, Bool.not_true, Bool.not_false, Bool.not_not, cond_true, cond_false, neI, s_mapS, bindS_inl, bindS_inr, Bool.and_true, Bool.true_and, Bool.and_false, Bool.false_and, s_isNoneS, s_isNoneN, s_ref, s_adv, s_ldf, s_ld, s_ldM, s_st, s_stM, s_bs, s_bn, s_pp, bump_blk, bump_next, put_next, splice_z, splice_zz, splice_s, s_decT, s_decF, s_eqT, s_eqF, s_i64, s_u64, s_u8, Int.toNat_natCast, Nat.zero_add, s_room, s_chkT, s_rdSl, s_wrSl, s_ldN, s_ldNM, s_ldNf, List.drop_zero, List.take_succ_cons, List.take_zero, List.take_nil, List.take_length, Nat.mul_one, List.flatten_cons, List.flatten_nil, List.append_nil, List.nil_append, List.cons_append]
  have hd := hdrop_ok q2 ⟨by omega, by omega⟩ n20 (by omega)
  rw [← t0] at hd
  refine Ok.step hd fun r ⟨s1, M3, w3, P3, d, dr3, dw3, s2, s3, s4, s5, s6, s7, s8, s9, s10, u1, u2, u3, u4⟩ => ?_
  obtain ⟨q, σ4⟩ := r
  simp only at s1 s3
  subst s1
  obtain ⟨y3, n30⟩ := s8
  have n31 : vw P3.E 1 = _ := (s9 1 (by decide)).trans n2
  have r3 := s10.r
  have v3 := s10.w
  simp (config := { maxSteps := 2000000 }) -implicitDefEqProofs (disch := (first | omega | rfl | assumption | (simp only [put_next, bump_next, kill_next, List.length_cons, List.length_nil, List.mem_cons, List.not_mem_nil, or_false, not_false_eq_true]; first | omega | assumption))) only [Nat.reduceAdd, Nat.reduceMul, Nat.reduceLT, Int.reduceToNat, Int.reduceAdd, Int.reduceSub, Int.reduceMul, s_beq, List.length_cons, List.length_nil, List.getD_cons_zero, List.getD_cons_succ, List.getElem?_cons_zero, List.getElem?_cons_succ, Option.bind_some, Option.bind_assoc, s_bindN, asI_i, asB_b, asS_s, asP_p, asPS_p, asSl_sl, s_agg, s_tup, s_fn, joinB, joinI, joinR, beq_true, beq_false, Bool.not_true, Bool.not_false, Bool.not_not, cond_true, cond_false, neI, s_mapS, bindS_inl, bindS_inr, Bool.and_true, Bool.true_and, Bool.and_false, Bool.false_and, s_isNoneS, s_isNoneN, s_ref, s_adv, s_ldf, s_ld, s_ldM, s_st, s_stM, s_bs, s_bn, s_pp, bump_blk, bump_next, put_next, splice_z, splice_zz, splice_s, s_decT, s_decF, s_eqT, s_eqF, s_i64, s_u64, s_u8, Int.toNat_natCast, Nat.zero_add, s_room, s_chkT, s_rdSl, s_wrSl, s_ldN, s_ldNM, s_ldNf, List.drop_zero, List.take_succ_cons, List.take_zero, List.take_nil, List.take_length, Nat.mul_one, List.flatten_cons, List.flatten_nil, List.append_nil, List.nil_append, List.cons_append]
  have more3 : P3.more ≤ 88 := by unfold PoolS.more; split <;> omega
  refine Ok.step (hadd_ok s3 ⟨by omega, by omega⟩ (x := 7) (by omega) (by omega) fun e he => by
    have := gE (P := P3) (k := 1) (fun j hj => by
      by_cases c : j = 0
      · subst c; exact ⟨_, _, _, n30, by omega⟩
      · obtain rfl : j = 1 := by omega
        exact ⟨_, _, _, n31, by omega⟩) e he
    omega) fun r ⟨i, g, P4, z1, c4, M4, w4, dr4, dw4, z2, z3, f1, f2, f3, z4⟩ => ?_
  obtain ⟨q, σ5⟩ := r
  simp only at z1 z2
  subst z1
  obtain rfl : i = 0 := c4.head 0 _ s6
  obtain rfl : g = 1 := by
    rcases c4.was with ⟨e, _⟩ | ⟨y, e⟩
    · rw [n30] at e; cases e
    · rw [n30] at e; simp only [Option.some.injEq, Prod.mk.injEq] at e; omega
  have n40 := c4.now
  have r4 := z3.r
  have v4 := z3.w
  simp (config := { maxSteps := 2000000 }) -implicitDefEqProofs (disch := (first | omega | rfl | assumption | (simp only [put_next, bump_next, kill_next, List.length_cons, List.length_nil, List.mem_cons, List.not_mem_nil, or_false, not_false_eq_true]; first | omega | assumption))) only [Nat.reduceAdd, Nat.reduceMul, Nat.reduceLT, Int.reduceToNat, Int.reduceAdd, Int.reduceSub, Int.reduceMul, s_beq, List.length_cons, List.length_nil, List.getD_cons_zero, List.getD_cons_succ, List.getElem?_cons_zero, List.getElem?_cons_succ, Option.bind_some, Option.bind_assoc, s_bindN, asI_i, asB_b, asS_s, asP_p, asPS_p, asSl_sl, s_agg, s_tup, s_fn, joinB, joinI, joinR, beq_true, beq_false, Bool.not_true, Bool.not_false, Bool.not_not, cond_true, cond_false, neI, s_mapS, bindS_inl, bindS_inr, Bool.and_true, Bool.true_and, Bool.and_false, Bool.false_and, s_isNoneS, s_isNoneN, s_ref, s_adv, s_ldf, s_ld, s_ldM, s_st, s_stM, s_bs, s_bn, s_pp, bump_blk, bump_next, put_next, splice_z, splice_zz, splice_s, s_decT, s_decF, s_eqT, s_eqF, s_i64, s_u64, s_u8, Int.toNat_natCast, Nat.zero_add, s_room, s_chkT, s_rdSl, s_wrSl, s_ldN, s_ldNM, s_ldNf, List.drop_zero, List.take_succ_cons, List.take_zero, List.take_nil, List.take_length, Nat.mul_one, List.flatten_cons, List.flatten_nil, List.append_nil, List.nil_append, List.cons_append]
  refine Ok.step (hget_no z2 ⟨by omega, by omega⟩ (t := 0) (by omega) fun i g x hv e => by
    have hi := mk hv
    have hl := c4.len
    have := tok_inj (i := 0) (g := 0) (by omega) (by omega) (e : tok 0 0 = tok i g)
    obtain ⟨rfl, rfl⟩ := this
    rw [n40] at hv; simp at hv) fun r ⟨y1, _⟩ => ?_
  obtain ⟨q, σ6⟩ := r
  simp only at y1
  subst y1
  have b1 : (tok 0 0 == 0) = true := rfl
  have b2 : (tok 1 0 == 1) = true := rfl
  have b3 : (tok 0 1 == 1048576) = true := rfl
  simp (config := { maxSteps := 2000000 }) -implicitDefEqProofs (disch := (first | omega | rfl | assumption | (simp only [put_next, bump_next, kill_next, List.length_cons, List.length_nil, List.mem_cons, List.not_mem_nil, or_false, not_false_eq_true]; first | omega | assumption))) only [b1, b2, b3, Nat.reduceAdd, Nat.reduceMul, Nat.reduceLT, Int.reduceToNat, Int.reduceAdd, Int.reduceSub, Int.reduceMul, s_beq, List.length_cons, List.length_nil, List.getD_cons_zero, List.getD_cons_succ, List.getElem?_cons_zero, List.getElem?_cons_succ, Option.bind_some, Option.bind_assoc, s_bindN, asI_i, asB_b, asS_s, asP_p, asPS_p, asSl_sl, s_agg, s_tup, s_fn, joinB, joinI, joinR, beq_true, beq_false, Bool.not_true, Bool.not_false, Bool.not_not, cond_true, cond_false, neI, s_mapS, bindS_inl, bindS_inr, Bool.and_true, Bool.true_and, Bool.and_false, Bool.false_and, s_isNoneS, s_isNoneN, s_ref, s_adv, s_ldf, s_ld, s_ldM, s_st, s_stM, s_bs, s_bn, s_pp, bump_blk, bump_next, put_next, splice_z, splice_zz, splice_s, s_decT, s_decF, s_eqT, s_eqF, s_i64, s_u64, s_u8, Int.toNat_natCast, Nat.zero_add, s_room, s_chkT, s_rdSl, s_wrSl, s_ldN, s_ldNM, s_ldNf, List.drop_zero, List.take_succ_cons, List.take_zero, List.take_nil, List.take_length, Nat.mul_one, List.flatten_cons, List.flatten_nil, List.append_nil, List.nil_append, List.cons_append]
  exact Ok_some.2 rfl
end Go.Abs.Try
