/-
  The statement RootsApart: what is run returns true. No conditions.
-/
import Derived.Test.YtcjekncaflnhlaaM19
set_option linter.unusedVariables false
set_option linter.unusedSimpArgs false
set_option linter.constructorNameAsVariable false
set_option linter.unusedSimpArgs false
set_option linter.unusedVariables false
set_option linter.unusedSectionVars false
set_option maxHeartbeats 2000000
namespace Go.Abs.Try
open Go Go.Abs
variable {O : Type}

/-- one more in a list beside the roots -/
theorem rapp {σ σ0 : AH O} {B : RtB} {M : MemS} {F : FrmS} {wF : List Int} {P : PoolS} {C : List Nat} {w : List Int} {P2 : PoolS} {C2 : List Nat} {w2 : List Int} {X : List Nat} {a : SA} {n : Nat} {cs : List AV} {v : AV} {el : Nat}
    (R : RootAt σ B M F wF P C w P2 C2 w2 (SA.bk a ++ X)) (o : OwnS σ 3 1 a n cs) (ax : ∀ b ∈ SA.bk a, b ∉ X) (h0 : σ0 = (σ.bump 2).put σ.next (.cells true el [v])) :
    Ok (σ0.appSl (σ.next + 1) 3 1 a n 1 [v]) fun r => ∃ a', r.1 = .sl a' (n + 1) ∧ OwnS r.2 3 1 a' (n + 1) (cs ++ [v]) ∧ RootAt r.2 B M F wF P C w P2 C2 w2 (SA.bk a' ++ X) ∧ Keep X σ r.2 ∧ ∀ b ∈ SA.bk a', b ∉ X := by
  have n2 : σ0.next = σ.next + 2 := by rw [h0]; rfl
  have o2 : ∀ b, b ≠ σ.next → σ0.blk b = σ.blk b := fun b hb => by rw [h0]; exact s_bn hb
  clear h0
  have oi2 : OwnS σ0 3 1 a n cs := o.of (by omega) fun b hb => o2 b (by have := o.lt b hb; omega)
  refine (app_ok (nid := σ.next + 1) oi2 (fun hm => by have := o.lt _ hm; omega) (by omega) (show [v].length = 1 * 1 from rfl)).mono fun q ⟨a2, l1, l2, l3, l4, l5⟩ => ?_
  have hX : ∀ b ∈ X, b < σ.next := fun b hb => R.f.mi.lt b (by simp [hb])
  refine ⟨a2, l1, l2, R.turn (L := SA.bk a) ⟨by omega, fun b hb hm => by rw [l4 b (by omega) hm, o2 b (by omega)]⟩ (fun b hb => .inl (List.mem_append_left _ hb)) (fun b hb => ?_), ⟨by omega, fun b hb => ?_⟩, fun b hb hx => by have := l5 b hb; have := hX b hx; omega⟩
  · rcases List.mem_append.1 hb with hb | hb
    · have := l5 b hb; exact .inr (by omega)
    · exact .inl (List.mem_append_right _ hb)
  · have := hX b hb
    rw [l4 b (by omega) (fun hm => ax b hm hb), o2 b (by omega)]
theorem nmS_inj {n : Nat} {F : FrmS} {P : PoolS} {T : List Tk} {v : Nat → Int} (V : RV n F P T v) (hf : P.E.length ≤ 1048576) {a b : Nat} (ha : a < n + T.length) (hb : b < n + T.length) (h : nmS n T a = nmS n T b) : a = b := by
  have tk : ∀ k, ¬ k < n → k < n + T.length → ∃ p : Tk, T[k - n]? = some p ∧ nmS n T k = tok p.1 p.2 ∧ p.1 < 1048576 := fun k c hk => by
    obtain ⟨p, hp⟩ : ∃ p, T[k - n]? = some p := ⟨_, List.getElem?_eq_getElem (by omega)⟩
    refine ⟨p, hp, by unfold nmS; rw [if_neg c, hp], ?_⟩
    obtain ⟨e, he, _⟩ := vw_some (V.t _ _ hp)
    have := (List.getElem?_eq_some_iff.1 he).1
    omega
  by_cases ca : a < n
  · have ea : nmS n T a = -1 - (a : Int) := by unfold nmS; rw [if_pos ca]
    by_cases cb : b < n
    · have eb : nmS n T b = -1 - (b : Int) := by unfold nmS; rw [if_pos cb]
      omega
    · obtain ⟨p, _, e, _⟩ := tk b cb hb
      rw [ea, e] at h; unfold tok at h; omega
  · obtain ⟨p, hp, e, l⟩ := tk a ca ha
    by_cases cb : b < n
    · have eb : nmS n T b = -1 - (b : Int) := by unfold nmS; rw [if_pos cb]
      rw [eb, e] at h; unfold tok at h; omega
    · obtain ⟨q, hq, e', l'⟩ := tk b cb hb
      rw [e, e'] at h
      have := V.get hp hq (tok_inj l l' h).1
      omega
def slC (j : Nat) : AV := .i .i64 (-1 - (j : Int))
def tkC (p : Tk) : AV := .i .i64 (tok p.1 p.2)
theorem names_at {T : List Tk} {k : Nat} (hk : k < 5 + T.length) : ((List.range 5).map slC ++ T.map tkC)[k]? = some (.i .i64 (nmS 5 T k)) := by
  by_cases c : k < 5
  · rw [List.getElem?_append_left (by simpa using c), List.getElem?_map, List.getElem?_range c]
    unfold nmS; rw [if_pos c]; rfl
  · obtain ⟨p, hp⟩ : ∃ p, T[k - 5]? = some p := ⟨_, List.getElem?_eq_getElem (by omega)⟩
    rw [List.getElem?_append_right (by simp; omega), List.getElem?_map]
    simp only [List.length_map, List.length_range]
    unfold nmS; rw [if_neg c, hp]; rfl
theorem aside {σ σ' : AH O} {b : Nat} {X : List Nat} {y : Option (Blk O)} (h : Keep X σ σ') (hb : b ∈ X) (e : σ.blk b = y) : σ'.blk b = y := (h.blk b hb).trans e
theorem rootsApart_ok {σ : AH O} {n1 n2 x y raw : Int} (h1 : 0 ≤ n1 ∧ n1 ≤ 255) (h2 : 0 ≤ n2 ∧ n2 ≤ 255) (h3 : -9223372036854775808 ≤ raw ∧ raw ≤ 9223372036854775807) :
    Ok (law19_RootsApart [.agg [.i .u8 n1, .i .u8 n2], .agg [.i .u64 x, .i .u64 y], .i .i64 raw] σ) fun r => r.1 = .b true := by
  simp (config := { maxSteps := 2000000 }) -implicitDefEqProofs (disch := (first | omega | rfl | assumption | (simp only [put_next, bump_next, kill_next, List.length_cons, List.length_nil, List.mem_cons, List.not_mem_nil, or_false, not_false_eq_true]; first | omega | assumption))) only [law19_RootsApart, law19_RootsApart_c, Nat.reduceAdd, Nat.reduceMul, Nat.reduceLT, Int.reduceToNat, Int.reduceAdd, Int.reduceSub, Int.reduceMul, s_beq, List.length_cons, List.length_nil, List.getD_cons_zero, List.getD_cons_succ, List.getElem?_cons_zero, List.getElem?_cons_succ, Option.bind_some, Option.bind_assoc, s_bindN, asI_i, asB_b, asS_s, asP_p, asPS_p, asSl_sl, s_agg, s_tup, s_fn, joinB, joinI, joinR, beq_true, beq_false, Bool.not_true, Bool.not_false, Bool.not_not, cond_true, cond_false, neI, s_mapS, bindS_inl, bindS_inr, Bool.and_true, Bool.true_and, Bool.and_false, Bool.false_and, s_isNoneS, s_isNoneN, s_ref, s_adv, s_ldf, s_ld, s_ldM, s_st, s_stM, s_bs, s_bn, s_pp, bump_blk, bump_next, put_next, splice_z, splice_zz, splice_s, s_decT, s_decF, s_eqT, s_eqF, s_i64, s_u64, s_u8, Int.toNat_natCast, Nat.zero_add, s_room, s_chkT, s_rdSl, s_wrSl, s_ldN, s_ldNM, s_ldNf, List.drop_zero, List.take_succ_cons, List.take_zero, List.take_nil, List.take_length, Nat.mul_one, List.flatten_cons, List.flatten_nil, List.append_nil, List.nil_append, List.cons_append]
  generalize hσ : ((σ.bump 2).put σ.next (.cells true _ [.i .u8 n1, .i .u8 n2])).put (σ.next + 1) (.cells true _ [.i .u64 x, .i .u64 y]) = σ0
  have n0 : σ0.next = σ.next + 2 := by rw [← hσ]; rfl
  have bx0 : ∃ e1 e2, σ0.blk σ.next = some (.cells true e1 [.i .u8 n1, .i .u8 n2]) ∧ σ0.blk (σ.next + 1) = some (.cells true e2 [.i .u64 x, .i .u64 y]) := by
    rw [← hσ]; exact ⟨_, _, (s_bn (by omega)).trans s_bs, s_bs⟩
  clear hσ
  obtain ⟨el1, el2, b0, b1⟩ := bx0
  generalize hN : σ.next = N at *
  have hX : ∀ b ∈ [N, N + 1], b < σ0.next := fun b hb => by simp at hb; omega
  refine Ok.step (awake19_ok hX) fun r ⟨g1, K1⟩ => ?_
  obtain ⟨q, σ1⟩ := r
  simp only at g1 K1
  subst g1
  have rn := rnew_nil (σ := σ1)
  simp (config := { maxSteps := 2000000 }) -implicitDefEqProofs (disch := (first | omega | rfl | assumption | (simp only [put_next, bump_next, kill_next, List.length_cons, List.length_nil, List.mem_cons, List.not_mem_nil, or_false, not_false_eq_true]; first | omega | assumption))) only [rn, Nat.reduceAdd, Nat.reduceMul, Nat.reduceLT, Int.reduceToNat, Int.reduceAdd, Int.reduceSub, Int.reduceMul, s_beq, List.length_cons, List.length_nil, List.getD_cons_zero, List.getD_cons_succ, List.getElem?_cons_zero, List.getElem?_cons_succ, Option.bind_some, Option.bind_assoc, s_bindN, asI_i, asB_b, asS_s, asP_p, asPS_p, asSl_sl, s_agg, s_tup, s_fn, joinB, joinI, joinR, beq_true, beq_false, Bool.not_true, Bool.not_false, Bool.not_not, cond_true, cond_false, neI, s_mapS, bindS_inl, bindS_inr, Bool.and_true, Bool.true_and, Bool.and_false, Bool.false_and, s_isNoneS, s_isNoneN, s_ref, s_adv, s_ldf, s_ld, s_ldM, s_st, s_stM, s_bs, s_bn, s_pp, bump_blk, bump_next, put_next, splice_z, splice_zz, splice_s, s_decT, s_decF, s_eqT, s_eqF, s_i64, s_u64, s_u8, Int.toNat_natCast, Nat.zero_add, s_room, s_chkT, s_rdSl, s_wrSl, s_ldN, s_ldNM, s_ldNf, List.drop_zero, List.take_succ_cons, List.take_zero, List.take_nil, List.take_length, Nat.mul_one, List.flatten_cons, List.flatten_nil, List.append_nil, List.nil_append, List.cons_append]
  refine Ok.step (made19_ok (X := [N, N + 1]) fun b hb => by have := hX b hb; have := K1.next; omega) fun r ⟨B, F, P, P2, g1, R, g2, g3, g4, K2⟩ => ?_
  obtain ⟨q, σ2⟩ := r
  simp only at g1 R K2
  subst g1
  obtain ⟨el, hb⟩ := R.b
  have e1 : ((1 : Int) != 1) = false := rfl
  simp (config := { maxSteps := 2000000 }) -implicitDefEqProofs (disch := (first | omega | rfl | assumption | (simp only [put_next, bump_next, kill_next, List.length_cons, List.length_nil, List.mem_cons, List.not_mem_nil, or_false, not_false_eq_true]; first | omega | assumption))) only [e1, hb, Option.isNone_none, Nat.reduceAdd, Nat.reduceMul, Nat.reduceLT, Int.reduceToNat, Int.reduceAdd, Int.reduceSub, Int.reduceMul, s_beq, List.length_cons, List.length_nil, List.getD_cons_zero, List.getD_cons_succ, List.getElem?_cons_zero, List.getElem?_cons_succ, Option.bind_some, Option.bind_assoc, s_bindN, asI_i, asB_b, asS_s, asP_p, asPS_p, asSl_sl, s_agg, s_tup, s_fn, joinB, joinI, joinR, beq_true, beq_false, Bool.not_true, Bool.not_false, Bool.not_not, cond_true, cond_false, neI, s_mapS, bindS_inl, bindS_inr, Bool.and_true, Bool.true_and, Bool.and_false, Bool.false_and, s_isNoneS, s_isNoneN, s_ref, s_adv, s_ldf, s_ld, s_ldM, s_st, s_stM, s_bs, s_bn, s_pp, bump_blk, bump_next, put_next, splice_z, splice_zz, splice_s, s_decT, s_decF, s_eqT, s_eqF, s_i64, s_u64, s_u8, Int.toNat_natCast, Nat.zero_add, s_room, s_chkT, s_rdSl, s_wrSl, s_ldN, s_ldNM, s_ldNf, List.drop_zero, List.take_succ_cons, List.take_zero, List.take_nil, List.take_length, Nat.mul_one, List.flatten_cons, List.flatten_nil, List.append_nil, List.nil_append, List.cons_append]
  have m0 : mem3.met.r = 0 ∧ mem3.met.w = 0 := ⟨rfl, rfl⟩
  have pu := rpush_ok R m0 (by rw [g2]) (n := 5) (by decide)
  rw [show ((5 : Nat) : Int) = 5 from rfl] at pu
  refine Ok.step pu fun r ⟨k1, M2, F2, w2, R2, V2, k2, k3, K3⟩ => ?_
  obtain ⟨q, σ3⟩ := r
  simp only at k1 R2 K3
  subst k1
  have e0 : ((0 : Int) != 0) = false := rfl
  simp (config := { maxSteps := 2000000 }) -implicitDefEqProofs (disch := (first | omega | rfl | assumption | (simp only [put_next, bump_next, kill_next, List.length_cons, List.length_nil, List.mem_cons, List.not_mem_nil, or_false, not_false_eq_true]; first | omega | assumption))) only [e0, Nat.reduceAdd, Nat.reduceMul, Nat.reduceLT, Int.reduceToNat, Int.reduceAdd, Int.reduceSub, Int.reduceMul, s_beq, List.length_cons, List.length_nil, List.getD_cons_zero, List.getD_cons_succ, List.getElem?_cons_zero, List.getElem?_cons_succ, Option.bind_some, Option.bind_assoc, s_bindN, asI_i, asB_b, asS_s, asP_p, asPS_p, asSl_sl, s_agg, s_tup, s_fn, joinB, joinI, joinR, beq_true, beq_false, Bool.not_true, Bool.not_false, Bool.not_not, cond_true, cond_false, neI, s_mapS, bindS_inl, bindS_inr, Bool.and_true, Bool.true_and, Bool.and_false, Bool.false_and, s_isNoneS, s_isNoneN, s_ref, s_adv, s_ldf, s_ld, s_ldM, s_st, s_stM, s_bs, s_bn, s_pp, bump_blk, bump_next, put_next, splice_z, splice_zz, splice_s, s_decT, s_decF, s_eqT, s_eqF, s_i64, s_u64, s_u8, Int.toNat_natCast, Nat.zero_add, s_room, s_chkT, s_rdSl, s_wrSl, s_ldN, s_ldNM, s_ldNf, List.drop_zero, List.take_succ_cons, List.take_zero, List.take_nil, List.take_length, Nat.mul_one, List.flatten_cons, List.flatten_nil, List.append_nil, List.nil_append, List.cons_append]
  have K4 := (K1.trans K2).trans K3
  -- the slots' names
  refine Ok.step (Q := fun r => ∃ σ' a, r = ([.sl a 5], σ') ∧ OwnS σ' 3 1 a 5 ((List.range 5).map slC) ∧ RootAt σ' B M2 F2 w2 P [] [] P2 [] [] (SA.bk a ++ [N, N + 1]) ∧ Keep [N, N + 1] σ0 σ' ∧ ∀ b ∈ SA.bk a, b ∉ [N, N + 1]) ?_ ?_
  · refine Ok.count 5 (fun k s => ∃ σ' a, s = ([.sl a k, .i .i64 (k : Int)], σ') ∧ OwnS σ' 3 1 a k ((List.range k).map slC) ∧ RootAt σ' B M2 F2 w2 P [] [] P2 [] [] (SA.bk a ++ [N, N + 1]) ∧ Keep [N, N + 1] σ0 σ' ∧ ∀ b ∈ SA.bk a, b ∉ [N, N + 1]) ?_ ?_ ⟨σ3, .nil, rfl, OwnS.nil _ _ _, R2, K4, by simp [SA.bk]⟩
    · rintro k s hk ⟨σ', a, rfl, o, R', K', ax⟩
      have sl := slot_ok (σ := σ'.bump 2) (n := (k : Int)) (by omega)
      simp (config := { maxSteps := 2000000 }) -implicitDefEqProofs (disch := (first | omega | rfl | assumption | (simp only [put_next, bump_next, kill_next, List.length_cons, List.length_nil, List.mem_cons, List.not_mem_nil, or_false, not_false_eq_true]; first | omega | assumption))) only [law19_RootsApart_L1, sl, Nat.reduceAdd, Nat.reduceMul, Nat.reduceLT, Int.reduceToNat, Int.reduceAdd, Int.reduceSub, Int.reduceMul, s_beq, List.length_cons, List.length_nil, List.getD_cons_zero, List.getD_cons_succ, List.getElem?_cons_zero, List.getElem?_cons_succ, Option.bind_some, Option.bind_assoc, s_bindN, asI_i, asB_b, asS_s, asP_p, asPS_p, asSl_sl, s_agg, s_tup, s_fn, joinB, joinI, joinR, beq_true, beq_false, Bool.not_true, Bool.not_false, Bool.not_not, cond_true, cond_false, neI, s_mapS, bindS_inl, bindS_inr, Bool.and_true, Bool.true_and, Bool.and_false, Bool.false_and, s_isNoneS, s_isNoneN, s_ref, s_adv, s_ldf, s_ld, s_ldM, s_st, s_stM, s_bs, s_bn, s_pp, bump_blk, bump_next, put_next, splice_z, splice_zz, splice_s, s_decT, s_decF, s_eqT, s_eqF, s_i64, s_u64, s_u8, Int.toNat_natCast, Nat.zero_add, s_room, s_chkT, s_rdSl, s_wrSl, s_ldN, s_ldNM, s_ldNf, List.drop_zero, List.take_succ_cons, List.take_zero, List.take_nil, List.take_length, Nat.mul_one, List.flatten_cons, List.flatten_nil, List.append_nil, List.nil_append, List.cons_append]
      refine Ok.step (rapp R' o ax rfl) fun r ⟨a', p1, p2, p3, p4, p5⟩ => ?_
      obtain ⟨q, σ4⟩ := r
      simp only at p1 p2 p3 p4
      subst p1
      simp (config := { maxSteps := 2000000 }) -implicitDefEqProofs (disch := (first | omega | rfl | assumption | (simp only [put_next, bump_next, kill_next, List.length_cons, List.length_nil, List.mem_cons, List.not_mem_nil, or_false, not_false_eq_true]; first | omega | assumption))) only [Nat.reduceAdd, Nat.reduceMul, Nat.reduceLT, Int.reduceToNat, Int.reduceAdd, Int.reduceSub, Int.reduceMul, s_beq, List.length_cons, List.length_nil, List.getD_cons_zero, List.getD_cons_succ, List.getElem?_cons_zero, List.getElem?_cons_succ, Option.bind_some, Option.bind_assoc, s_bindN, asI_i, asB_b, asS_s, asP_p, asPS_p, asSl_sl, s_agg, s_tup, s_fn, joinB, joinI, joinR, beq_true, beq_false, Bool.not_true, Bool.not_false, Bool.not_not, cond_true, cond_false, neI, s_mapS, bindS_inl, bindS_inr, Bool.and_true, Bool.true_and, Bool.and_false, Bool.false_and, s_isNoneS, s_isNoneN, s_ref, s_adv, s_ldf, s_ld, s_ldM, s_st, s_stM, s_bs, s_bn, s_pp, bump_blk, bump_next, put_next, splice_z, splice_zz, splice_s, s_decT, s_decF, s_eqT, s_eqF, s_i64, s_u64, s_u8, Int.toNat_natCast, Nat.zero_add, s_room, s_chkT, s_rdSl, s_wrSl, s_ldN, s_ldNM, s_ldNf, List.drop_zero, List.take_succ_cons, List.take_zero, List.take_nil, List.take_length, Nat.mul_one, List.flatten_cons, List.flatten_nil, List.append_nil, List.nil_append, List.cons_append]
      exact Ok_some.2 ⟨σ4, a', by simp, by rw [List.range_succ, List.map_append]; exact p2, p3, K'.trans p4, p5⟩
    · rintro s ⟨σ', a, rfl, o, R', K', ax⟩
      simp (config := { maxSteps := 2000000 }) -implicitDefEqProofs (disch := (first | omega | rfl | assumption | (simp only [put_next, bump_next, kill_next, List.length_cons, List.length_nil, List.mem_cons, List.not_mem_nil, or_false, not_false_eq_true]; first | omega | assumption))) only [law19_RootsApart_L1, Nat.reduceAdd, Nat.reduceMul, Nat.reduceLT, Int.reduceToNat, Int.reduceAdd, Int.reduceSub, Int.reduceMul, s_beq, List.length_cons, List.length_nil, List.getD_cons_zero, List.getD_cons_succ, List.getElem?_cons_zero, List.getElem?_cons_succ, Option.bind_some, Option.bind_assoc, s_bindN, asI_i, asB_b, asS_s, asP_p, asPS_p, asSl_sl, s_agg, s_tup, s_fn, joinB, joinI, joinR, beq_true, beq_false, Bool.not_true, Bool.not_false, Bool.not_not, cond_true, cond_false, neI, s_mapS, bindS_inl, bindS_inr, Bool.and_true, Bool.true_and, Bool.and_false, Bool.false_and, s_isNoneS, s_isNoneN, s_ref, s_adv, s_ldf, s_ld, s_ldM, s_st, s_stM, s_bs, s_bn, s_pp, bump_blk, bump_next, put_next, splice_z, splice_zz, splice_s, s_decT, s_decF, s_eqT, s_eqF, s_i64, s_u64, s_u8, Int.toNat_natCast, Nat.zero_add, s_room, s_chkT, s_rdSl, s_wrSl, s_ldN, s_ldNM, s_ldNf, List.drop_zero, List.take_succ_cons, List.take_zero, List.take_nil, List.take_length, Nat.mul_one, List.flatten_cons, List.flatten_nil, List.append_nil, List.nil_append, List.cons_append]
      exact Ok_some.2 ⟨σ', a, rfl, o, R', K', ax⟩
  rintro _ ⟨σ4, a, rfl, o4, R4, K4, ax4⟩
  simp (config := { maxSteps := 2000000 }) -implicitDefEqProofs (disch := (first | omega | rfl | assumption | (simp only [put_next, bump_next, kill_next, List.length_cons, List.length_nil, List.mem_cons, List.not_mem_nil, or_false, not_false_eq_true]; first | omega | assumption))) only [Nat.reduceAdd, Nat.reduceMul, Nat.reduceLT, Int.reduceToNat, Int.reduceAdd, Int.reduceSub, Int.reduceMul, s_beq, List.length_cons, List.length_nil, List.getD_cons_zero, List.getD_cons_succ, List.getElem?_cons_zero, List.getElem?_cons_succ, Option.bind_some, Option.bind_assoc, s_bindN, asI_i, asB_b, asS_s, asP_p, asPS_p, asSl_sl, s_agg, s_tup, s_fn, joinB, joinI, joinR, beq_true, beq_false, Bool.not_true, Bool.not_false, Bool.not_not, cond_true, cond_false, neI, s_mapS, bindS_inl, bindS_inr, Bool.and_true, Bool.true_and, Bool.and_false, Bool.false_and, s_isNoneS, s_isNoneN, s_ref, s_adv, s_ldf, s_ld, s_ldM, s_st, s_stM, s_bs, s_bn, s_pp, bump_blk, bump_next, put_next, splice_z, splice_zz, splice_s, s_decT, s_decF, s_eqT, s_eqF, s_i64, s_u64, s_u8, Int.toNat_natCast, Nat.zero_add, s_room, s_chkT, s_rdSl, s_wrSl, s_ldN, s_ldNM, s_ldNf, List.drop_zero, List.take_succ_cons, List.take_zero, List.take_nil, List.take_length, Nat.mul_one, List.flatten_cons, List.flatten_nil, List.append_nil, List.nil_append, List.cons_append]
  -- the tokens
  refine Ok.bindS (Q := fun r => ∃ σ' a M P C w T, r = .inl ([.sl a 10], σ') ∧ T.length = 5 ∧ OwnS σ' 3 1 a 10 ((List.range 5).map slC ++ T.map tkC) ∧ RootAt σ' B M F2 w2 P C w P2 [] [] (SA.bk a ++ [N, N + 1]) ∧ RV 5 F2 P T (fun _ => 0) ∧ Keep [N, N + 1] σ0 σ' ∧ (∀ b ∈ SA.bk a, b ∉ [N, N + 1]) ∧ M.met.r ≤ 1000 ∧ M.met.w ≤ 1000) ?_ ?_ (fun r h => by obtain ⟨_, _, _, _, _, _, _, e, _⟩ := h; cases e)
  · refine Ok.count 5 (fun k s => ∃ σ' a M P C w T, s = ([.sl a (5 + k), .i .i64 (k : Int)], σ') ∧ T.length = k ∧ OwnS σ' 3 1 a (5 + k) ((List.range 5).map slC ++ T.map tkC) ∧ RootAt σ' B M F2 w2 P C w P2 [] [] (SA.bk a ++ [N, N + 1]) ∧ RV 5 F2 P T (fun _ => 0) ∧ Keep [N, N + 1] σ0 σ' ∧ (∀ b ∈ SA.bk a, b ∉ [N, N + 1]) ∧ M.met.r ≤ 300 + 20 * k ∧ M.met.w ≤ 300 + 20 * k ∧ P.E.length ≤ k ∧ P.room ≤ 160 ∧ ∀ e ∈ P.E, e.gen ≤ 5) ?_ ?_ ⟨σ4, a, M2, P, [], [], [], rfl, rfl, by simpa using o4, R4, by rw [g3] at V2 ⊢; exact V2, K4, ax4, by omega, by omega, by rw [g3]; simp, by rw [g3]; simp, by rw [g3]; simp⟩
    · rintro k s hk ⟨σ', a, M, P, C, w, T, rfl, hT, o, R', V, K', ax, i1, i2, i3, i4, i5⟩
      have hmore : P.more ≤ 160 := by
        have := R'.g.p.p.made
        unfold PoolS.more; split <;> omega
      simp (config := { maxSteps := 2000000 }) -implicitDefEqProofs (disch := (first | omega | rfl | assumption | (simp only [put_next, bump_next, kill_next, List.length_cons, List.length_nil, List.mem_cons, List.not_mem_nil, or_false, not_false_eq_true]; first | omega | assumption))) only [law19_RootsApart_L2, Nat.reduceAdd, Nat.reduceMul, Nat.reduceLT, Int.reduceToNat, Int.reduceAdd, Int.reduceSub, Int.reduceMul, s_beq, List.length_cons, List.length_nil, List.getD_cons_zero, List.getD_cons_succ, List.getElem?_cons_zero, List.getElem?_cons_succ, Option.bind_some, Option.bind_assoc, s_bindN, asI_i, asB_b, asS_s, asP_p, asPS_p, asSl_sl, s_agg, s_tup, s_fn, joinB, joinI, joinR, beq_true, beq_false, Bool.not_true, Bool.not_false, Bool.not_not, cond_true, cond_false, neI, s_mapS, bindS_inl, bindS_inr, Bool.and_true, Bool.true_and, Bool.and_false, Bool.false_and, s_isNoneS, s_isNoneN, s_ref, s_adv, s_ldf, s_ld, s_ldM, s_st, s_stM, s_bs, s_bn, s_pp, bump_blk, bump_next, put_next, splice_z, splice_zz, splice_s, s_decT, s_decF, s_eqT, s_eqF, s_i64, s_u64, s_u8, Int.toNat_natCast, Nat.zero_add, s_room, s_chkT, s_rdSl, s_wrSl, s_ldN, s_ldNM, s_ldNf, List.drop_zero, List.take_succ_cons, List.take_zero, List.take_nil, List.take_length, Nat.mul_one, List.flatten_cons, List.flatten_nil, List.append_nil, List.nil_append, List.cons_append]
      refine Ok.step (radd_ok R' ⟨by omega, by omega⟩ V rfl (by omega) i4 i5) fun r ⟨p, M', P', w', l1, R5, V5, c, l2, l3, K5⟩ => ?_
      obtain ⟨q, σ5⟩ := r
      simp only at l1 R5 K5
      subst l1
      have o5 : OwnS σ5 3 1 a (5 + k) ((List.range 5).map slC ++ T.map tkC) := o.of K5.next fun b hb => K5.blk b (by simp [hb])
      simp (config := { maxSteps := 2000000 }) -implicitDefEqProofs (disch := (first | omega | rfl | assumption | (simp only [put_next, bump_next, kill_next, List.length_cons, List.length_nil, List.mem_cons, List.not_mem_nil, or_false, not_false_eq_true]; first | omega | assumption))) only [e0, Nat.reduceAdd, Nat.reduceMul, Nat.reduceLT, Int.reduceToNat, Int.reduceAdd, Int.reduceSub, Int.reduceMul, s_beq, List.length_cons, List.length_nil, List.getD_cons_zero, List.getD_cons_succ, List.getElem?_cons_zero, List.getElem?_cons_succ, Option.bind_some, Option.bind_assoc, s_bindN, asI_i, asB_b, asS_s, asP_p, asPS_p, asSl_sl, s_agg, s_tup, s_fn, joinB, joinI, joinR, beq_true, beq_false, Bool.not_true, Bool.not_false, Bool.not_not, cond_true, cond_false, neI, s_mapS, bindS_inl, bindS_inr, Bool.and_true, Bool.true_and, Bool.and_false, Bool.false_and, s_isNoneS, s_isNoneN, s_ref, s_adv, s_ldf, s_ld, s_ldM, s_st, s_stM, s_bs, s_bn, s_pp, bump_blk, bump_next, put_next, splice_z, splice_zz, splice_s, s_decT, s_decF, s_eqT, s_eqF, s_i64, s_u64, s_u8, Int.toNat_natCast, Nat.zero_add, s_room, s_chkT, s_rdSl, s_wrSl, s_ldN, s_ldNM, s_ldNf, List.drop_zero, List.take_succ_cons, List.take_zero, List.take_nil, List.take_length, Nat.mul_one, List.flatten_cons, List.flatten_nil, List.append_nil, List.nil_append, List.cons_append]
      refine Ok.step (rapp R5 o5 ax rfl) fun r ⟨a', p1, p2, p3, p4, p5⟩ => ?_
      obtain ⟨q, σ6⟩ := r
      simp only at p1 p2 p3 p4
      subst p1
      simp (config := { maxSteps := 2000000 }) -implicitDefEqProofs (disch := (first | omega | rfl | assumption | (simp only [put_next, bump_next, kill_next, List.length_cons, List.length_nil, List.mem_cons, List.not_mem_nil, or_false, not_false_eq_true]; first | omega | assumption))) only [Nat.reduceAdd, Nat.reduceMul, Nat.reduceLT, Int.reduceToNat, Int.reduceAdd, Int.reduceSub, Int.reduceMul, s_beq, List.length_cons, List.length_nil, List.getD_cons_zero, List.getD_cons_succ, List.getElem?_cons_zero, List.getElem?_cons_succ, Option.bind_some, Option.bind_assoc, s_bindN, asI_i, asB_b, asS_s, asP_p, asPS_p, asSl_sl, s_agg, s_tup, s_fn, joinB, joinI, joinR, beq_true, beq_false, Bool.not_true, Bool.not_false, Bool.not_not, cond_true, cond_false, neI, s_mapS, bindS_inl, bindS_inr, Bool.and_true, Bool.true_and, Bool.and_false, Bool.false_and, s_isNoneS, s_isNoneN, s_ref, s_adv, s_ldf, s_ld, s_ldM, s_st, s_stM, s_bs, s_bn, s_pp, bump_blk, bump_next, put_next, splice_z, splice_zz, splice_s, s_decT, s_decF, s_eqT, s_eqF, s_i64, s_u64, s_u8, Int.toNat_natCast, Nat.zero_add, s_room, s_chkT, s_rdSl, s_wrSl, s_ldN, s_ldNM, s_ldNf, List.drop_zero, List.take_succ_cons, List.take_zero, List.take_nil, List.take_length, Nat.mul_one, List.flatten_cons, List.flatten_nil, List.append_nil, List.nil_append, List.cons_append]
      have hlen := c.len
      refine Ok_some.2 ⟨σ6, a', M', P', _, w', T ++ [p], by simp [Nat.add_assoc], by simp [hT], ?_, p3, V5, (K'.trans (K5.mono fun b hb => List.mem_append_right _ hb)).trans p4, p5, by omega, by omega, by omega, ?_, fun e he => ?_⟩
      · rw [List.map_append, ← List.append_assoc]; exact p2
      · rcases c.room with e | e <;> omega
      · obtain ⟨j, hj⟩ := List.getElem?_of_mem he
        have h1 := vw_mk hj
        by_cases cj : j = p.1
        · rw [cj, c.now] at h1
          simp only [Option.some.injEq, Prod.mk.injEq] at h1
          rcases c.was with ⟨_, e⟩ | ⟨z, e⟩
          · omega
          · obtain ⟨e', he', _, hg', _⟩ := vw_some e
            have := i5 e' (List.mem_of_getElem? he')
            omega
        · rw [c.other j cj] at h1
          obtain ⟨e', he', _, hg', _⟩ := vw_some h1
          have := i5 e' (List.mem_of_getElem? he')
          omega
    · rintro s ⟨σ', a, M, P, C, w, T, rfl, hT, o, R', V, K', ax, i1, i2, i3, i4, i5⟩
      simp (config := { maxSteps := 2000000 }) -implicitDefEqProofs (disch := (first | omega | rfl | assumption | (simp only [put_next, bump_next, kill_next, List.length_cons, List.length_nil, List.mem_cons, List.not_mem_nil, or_false, not_false_eq_true]; first | omega | assumption))) only [law19_RootsApart_L2, Nat.reduceAdd, Nat.reduceMul, Nat.reduceLT, Int.reduceToNat, Int.reduceAdd, Int.reduceSub, Int.reduceMul, s_beq, List.length_cons, List.length_nil, List.getD_cons_zero, List.getD_cons_succ, List.getElem?_cons_zero, List.getElem?_cons_succ, Option.bind_some, Option.bind_assoc, s_bindN, asI_i, asB_b, asS_s, asP_p, asPS_p, asSl_sl, s_agg, s_tup, s_fn, joinB, joinI, joinR, beq_true, beq_false, Bool.not_true, Bool.not_false, Bool.not_not, cond_true, cond_false, neI, s_mapS, bindS_inl, bindS_inr, Bool.and_true, Bool.true_and, Bool.and_false, Bool.false_and, s_isNoneS, s_isNoneN, s_ref, s_adv, s_ldf, s_ld, s_ldM, s_st, s_stM, s_bs, s_bn, s_pp, bump_blk, bump_next, put_next, splice_z, splice_zz, splice_s, s_decT, s_decF, s_eqT, s_eqF, s_i64, s_u64, s_u8, Int.toNat_natCast, Nat.zero_add, s_room, s_chkT, s_rdSl, s_wrSl, s_ldN, s_ldNM, s_ldNf, List.drop_zero, List.take_succ_cons, List.take_zero, List.take_nil, List.take_length, Nat.mul_one, List.flatten_cons, List.flatten_nil, List.append_nil, List.nil_append, List.cons_append]
      exact Ok_some.2 ⟨σ', a, M, P, C, w, T, rfl, hT, o, R', V, K', ax, by omega, by omega⟩
  rintro _ ⟨σ5, a, M5, P5, C5, w5, T, e, hT, o5, R5, V5, K5, ax5, i1, i2⟩
  cases e
  obtain ⟨A, hA, hAl⟩ : ∃ A : Nat, Int.tmod n1 10 = (A : Int) ∧ A < 10 := by
    rw [Int.tmod_eq_emod_of_nonneg h1.1]; exact ⟨(n1 % 10).toNat, by omega, by omega⟩
  obtain ⟨D, hD, hDl⟩ : ∃ D : Nat, Int.tmod n2 10 = (D : Int) ∧ D < 10 := by
    rw [Int.tmod_eq_emod_of_nonneg h2.1]; exact ⟨(n2 % 10).toNat, by omega, by omega⟩
  have at_ : ∀ {σ' : AH O} {k : Nat}, k < 10 → OwnS σ' 3 1 a 10 ((List.range 5).map slC ++ T.map tkC) → ∃ b o, SA.ref a = some (b, o) ∧ σ'.ld b (o + k) = some (.i .i64 (nmS 5 T k)) := fun {σ' k} hk o => by
    obtain ⟨b, oo, ea, ld⟩ := o.rd.at1 (names_at (T := T) (k := k) (by omega))
    rw [Nat.mul_one] at ld
    exact ⟨b, oo, by rw [ea]; rfl, ld⟩
  obtain ⟨bb, oo, href, ldA⟩ := at_ hAl o5
  have at2 : ∀ {σ' : AH O} {k : Nat}, k < 10 → OwnS σ' 3 1 a 10 ((List.range 5).map slC ++ T.map tkC) → σ'.ld bb (oo + k) = some (.i .i64 (nmS 5 T k)) := fun {σ' k} hk o => by
    obtain ⟨b, o', h, ld⟩ := at_ hk o
    rw [href] at h; cases h; exact ld
  have ldD := at2 hDl o5
  have c0 : σ5.blk N = _ := aside K5 (by simp) b0
  have c1 : σ5.blk (N + 1) = _ := aside K5 (by simp) b1
  have few5 : P5.E.length ≤ 1048576 := R5.g.few
  have inj : ∀ {j k : Nat}, j < 10 → k < 10 → nmS 5 T j = nmS 5 T k → j = k := fun hj hk h => nmS_inj V5 few5 (by omega) (by omega) h
  simp (config := { maxSteps := 2000000 }) -implicitDefEqProofs (disch := (first | omega | rfl | assumption | (simp only [put_next, bump_next, kill_next, List.length_cons, List.length_nil, List.mem_cons, List.not_mem_nil, or_false, not_false_eq_true]; first | omega | assumption))) only [c0, c1, hA, hD, href, ldA, ldD, Nat.reduceAdd, Nat.reduceMul, Nat.reduceLT, Int.reduceToNat, Int.reduceAdd, Int.reduceSub, Int.reduceMul, s_beq, List.length_cons, List.length_nil, List.getD_cons_zero, List.getD_cons_succ, List.getElem?_cons_zero, List.getElem?_cons_succ, Option.bind_some, Option.bind_assoc, s_bindN, asI_i, asB_b, asS_s, asP_p, asPS_p, asSl_sl, s_agg, s_tup, s_fn, joinB, joinI, joinR, beq_true, beq_false, Bool.not_true, Bool.not_false, Bool.not_not, cond_true, cond_false, neI, s_mapS, bindS_inl, bindS_inr, Bool.and_true, Bool.true_and, Bool.and_false, Bool.false_and, s_isNoneS, s_isNoneN, s_ref, s_adv, s_ldf, s_ld, s_ldM, s_st, s_stM, s_bs, s_bn, s_pp, bump_blk, bump_next, put_next, splice_z, splice_zz, splice_s, s_decT, s_decF, s_eqT, s_eqF, s_i64, s_u64, s_u8, Int.toNat_natCast, Nat.zero_add, s_room, s_chkT, s_rdSl, s_wrSl, s_ldN, s_ldNM, s_ldNf, List.drop_zero, List.take_succ_cons, List.take_zero, List.take_nil, List.take_length, Nat.mul_one, List.flatten_cons, List.flatten_nil, List.append_nil, List.nil_append, List.cons_append]
  refine Ok.step (rset_ok R5 ⟨by omega, by omega⟩ V5 (k := A) (x := x) (by omega) (by decide)) fun r ⟨m1, M6, F6, wF6, P6, w6, R6, V6, m2, m3, m4, K6⟩ => ?_
  obtain ⟨q, σ6⟩ := r
  simp only at m1 R6 K6
  subst m1
  have c6 : σ6.blk (N + 1) = _ := aside K6 (by simp) c1
  simp (config := { maxSteps := 2000000 }) -implicitDefEqProofs (disch := (first | omega | rfl | assumption | (simp only [put_next, bump_next, kill_next, List.length_cons, List.length_nil, List.mem_cons, List.not_mem_nil, or_false, not_false_eq_true]; first | omega | assumption))) only [e0, c6, Nat.reduceAdd, Nat.reduceMul, Nat.reduceLT, Int.reduceToNat, Int.reduceAdd, Int.reduceSub, Int.reduceMul, s_beq, List.length_cons, List.length_nil, List.getD_cons_zero, List.getD_cons_succ, List.getElem?_cons_zero, List.getElem?_cons_succ, Option.bind_some, Option.bind_assoc, s_bindN, asI_i, asB_b, asS_s, asP_p, asPS_p, asSl_sl, s_agg, s_tup, s_fn, joinB, joinI, joinR, beq_true, beq_false, Bool.not_true, Bool.not_false, Bool.not_not, cond_true, cond_false, neI, s_mapS, bindS_inl, bindS_inr, Bool.and_true, Bool.true_and, Bool.and_false, Bool.false_and, s_isNoneS, s_isNoneN, s_ref, s_adv, s_ldf, s_ld, s_ldM, s_st, s_stM, s_bs, s_bn, s_pp, bump_blk, bump_next, put_next, splice_z, splice_zz, splice_s, s_decT, s_decF, s_eqT, s_eqF, s_i64, s_u64, s_u8, Int.toNat_natCast, Nat.zero_add, s_room, s_chkT, s_rdSl, s_wrSl, s_ldN, s_ldNM, s_ldNf, List.drop_zero, List.take_succ_cons, List.take_zero, List.take_nil, List.take_length, Nat.mul_one, List.flatten_cons, List.flatten_nil, List.append_nil, List.nil_append, List.cons_append]
  refine Ok.step (rset_ok R6 ⟨by omega, by omega⟩ V6 (k := D) (x := y) (by omega) (by decide)) fun r ⟨l1, M7, F7, wF7, P7, w7, R7, V7, l2, l3, l4, K7⟩ => ?_
  obtain ⟨q, σ7⟩ := r
  simp only at l1 R7 K7
  subst l1
  have c7 : σ7.blk (N + 1) = _ := aside K7 (by simp) c6
  simp (config := { maxSteps := 2000000 }) -implicitDefEqProofs (disch := (first | omega | rfl | assumption | (simp only [put_next, bump_next, kill_next, List.length_cons, List.length_nil, List.mem_cons, List.not_mem_nil, or_false, not_false_eq_true]; first | omega | assumption))) only [e0, c7, Nat.reduceAdd, Nat.reduceMul, Nat.reduceLT, Int.reduceToNat, Int.reduceAdd, Int.reduceSub, Int.reduceMul, s_beq, List.length_cons, List.length_nil, List.getD_cons_zero, List.getD_cons_succ, List.getElem?_cons_zero, List.getElem?_cons_succ, Option.bind_some, Option.bind_assoc, s_bindN, asI_i, asB_b, asS_s, asP_p, asPS_p, asSl_sl, s_agg, s_tup, s_fn, joinB, joinI, joinR, beq_true, beq_false, Bool.not_true, Bool.not_false, Bool.not_not, cond_true, cond_false, neI, s_mapS, bindS_inl, bindS_inr, Bool.and_true, Bool.true_and, Bool.and_false, Bool.false_and, s_isNoneS, s_isNoneN, s_ref, s_adv, s_ldf, s_ld, s_ldM, s_st, s_stM, s_bs, s_bn, s_pp, bump_blk, bump_next, put_next, splice_z, splice_zz, splice_s, s_decT, s_decF, s_eqT, s_eqF, s_i64, s_u64, s_u8, Int.toNat_natCast, Nat.zero_add, s_room, s_chkT, s_rdSl, s_wrSl, s_ldN, s_ldNM, s_ldNf, List.drop_zero, List.take_succ_cons, List.take_zero, List.take_nil, List.take_length, Nat.mul_one, List.flatten_cons, List.flatten_nil, List.append_nil, List.nil_append, List.cons_append]
  refine Ok.step (rweak_ok R7 ⟨by omega, by omega⟩ (by rw [g4]) (by rw [g4])) fun r ⟨M8, Q8, C8, w8, p1, R8, ⟨y8, hv8⟩, p3, p4, K8⟩ => ?_
  obtain ⟨q, σ8⟩ := r
  simp only at p1 R8 K8
  subst p1
  simp (config := { maxSteps := 2000000 }) -implicitDefEqProofs (disch := (first | omega | rfl | assumption | (simp only [put_next, bump_next, kill_next, List.length_cons, List.length_nil, List.mem_cons, List.not_mem_nil, or_false, not_false_eq_true]; first | omega | assumption))) only [Nat.reduceAdd, Nat.reduceMul, Nat.reduceLT, Int.reduceToNat, Int.reduceAdd, Int.reduceSub, Int.reduceMul, s_beq, List.length_cons, List.length_nil, List.getD_cons_zero, List.getD_cons_succ, List.getElem?_cons_zero, List.getElem?_cons_succ, Option.bind_some, Option.bind_assoc, s_bindN, asI_i, asB_b, asS_s, asP_p, asPS_p, asSl_sl, s_agg, s_tup, s_fn, joinB, joinI, joinR, beq_true, beq_false, Bool.not_true, Bool.not_false, Bool.not_not, cond_true, cond_false, neI, s_mapS, bindS_inl, bindS_inr, Bool.and_true, Bool.true_and, Bool.and_false, Bool.false_and, s_isNoneS, s_isNoneN, s_ref, s_adv, s_ldf, s_ld, s_ldM, s_st, s_stM, s_bs, s_bn, s_pp, bump_blk, bump_next, put_next, splice_z, splice_zz, splice_s, s_decT, s_decF, s_eqT, s_eqF, s_i64, s_u64, s_u8, Int.toNat_natCast, Nat.zero_add, s_room, s_chkT, s_rdSl, s_wrSl, s_ldN, s_ldNM, s_ldNf, List.drop_zero, List.take_succ_cons, List.take_zero, List.take_nil, List.take_length, Nat.mul_one, List.flatten_cons, List.flatten_nil, List.append_nil, List.nil_append, List.cons_append]
  refine Ok.step (rdropw_ok R8 ⟨by omega, by omega⟩ hv8) fun r ⟨q1, M9, Q9, C9, w9, R9, q3, q4, K9⟩ => ?_
  obtain ⟨q, σ9⟩ := r
  simp only at q1 R9 K9
  subst q1
  simp (config := { maxSteps := 2000000 }) -implicitDefEqProofs (disch := (first | omega | rfl | assumption | (simp only [put_next, bump_next, kill_next, List.length_cons, List.length_nil, List.mem_cons, List.not_mem_nil, or_false, not_false_eq_true]; first | omega | assumption))) only [Nat.reduceAdd, Nat.reduceMul, Nat.reduceLT, Int.reduceToNat, Int.reduceAdd, Int.reduceSub, Int.reduceMul, s_beq, List.length_cons, List.length_nil, List.getD_cons_zero, List.getD_cons_succ, List.getElem?_cons_zero, List.getElem?_cons_succ, Option.bind_some, Option.bind_assoc, s_bindN, asI_i, asB_b, asS_s, asP_p, asPS_p, asSl_sl, s_agg, s_tup, s_fn, joinB, joinI, joinR, beq_true, beq_false, Bool.not_true, Bool.not_false, Bool.not_not, cond_true, cond_false, neI, s_mapS, bindS_inl, bindS_inr, Bool.and_true, Bool.true_and, Bool.and_false, Bool.false_and, s_isNoneS, s_isNoneN, s_ref, s_adv, s_ldf, s_ld, s_ldM, s_st, s_stM, s_bs, s_bn, s_pp, bump_blk, bump_next, put_next, splice_z, splice_zz, splice_s, s_decT, s_decF, s_eqT, s_eqF, s_i64, s_u64, s_u8, Int.toNat_natCast, Nat.zero_add, s_room, s_chkT, s_rdSl, s_wrSl, s_ldN, s_ldNM, s_ldNf, List.drop_zero, List.take_succ_cons, List.take_zero, List.take_nil, List.take_length, Nat.mul_one, List.flatten_cons, List.flatten_nil, List.append_nil, List.nil_append, List.cons_append]
  refine Ok.step (rget_ok R9 ⟨by omega, by omega⟩ V7 (k := A) (by omega) (by decide)) fun r ⟨s1, M10, R10, s2, s3, K10⟩ => ?_
  obtain ⟨q, σ10⟩ := r
  simp only at s1 R10 K10
  subst s1
  simp (config := { maxSteps := 2000000 }) -implicitDefEqProofs (disch := (first | omega | rfl | assumption | (simp only [put_next, bump_next, kill_next, List.length_cons, List.length_nil, List.mem_cons, List.not_mem_nil, or_false, not_false_eq_true]; first | omega | assumption))) only [Nat.reduceAdd, Nat.reduceMul, Nat.reduceLT, Int.reduceToNat, Int.reduceAdd, Int.reduceSub, Int.reduceMul, s_beq, List.length_cons, List.length_nil, List.getD_cons_zero, List.getD_cons_succ, List.getElem?_cons_zero, List.getElem?_cons_succ, Option.bind_some, Option.bind_assoc, s_bindN, asI_i, asB_b, asS_s, asP_p, asPS_p, asSl_sl, s_agg, s_tup, s_fn, joinB, joinI, joinR, beq_true, beq_false, Bool.not_true, Bool.not_false, Bool.not_not, cond_true, cond_false, neI, s_mapS, bindS_inl, bindS_inr, Bool.and_true, Bool.true_and, Bool.and_false, Bool.false_and, s_isNoneS, s_isNoneN, s_ref, s_adv, s_ldf, s_ld, s_ldM, s_st, s_stM, s_bs, s_bn, s_pp, bump_blk, bump_next, put_next, splice_z, splice_zz, splice_s, s_decT, s_decF, s_eqT, s_eqF, s_i64, s_u64, s_u8, Int.toNat_natCast, Nat.zero_add, s_room, s_chkT, s_rdSl, s_wrSl, s_ldN, s_ldNM, s_ldNf, List.drop_zero, List.take_succ_cons, List.take_zero, List.take_nil, List.take_length, Nat.mul_one, List.flatten_cons, List.flatten_nil, List.append_nil, List.nil_append, List.cons_append]
  refine Ok.step (rget_ok R10 ⟨by omega, by omega⟩ V7 (k := D) (by omega) (by decide)) fun r ⟨t1, M11, R11, t2, t3, K11⟩ => ?_
  obtain ⟨q, σ11⟩ := r
  simp only at t1 R11 K11
  subst t1
  have K12 : Keep (SA.bk a ++ [N, N + 1]) σ5 σ11 := ((((K6.trans K7).trans K8).trans K9).trans K10).trans K11
  have c11 : σ11.blk (N + 1) = _ := aside K12 (by simp) c1
  have o11 : OwnS σ11 3 1 a 10 ((List.range 5).map slC ++ T.map tkC) := o5.of K12.next fun b hb => K12.blk b (by simp [hb])
  have eAD : (nmS 5 T A == nmS 5 T D) = decide (A = D) := by
    by_cases c : A = D
    · rw [c]; simp
    · rw [decide_eq_false c]; exact beq_eq_false_iff_ne.2 fun h => c (inj hAl hDl h)
  simp (config := { maxSteps := 2000000 }) -implicitDefEqProofs (disch := (first | omega | rfl | assumption | (simp only [put_next, bump_next, kill_next, List.length_cons, List.length_nil, List.mem_cons, List.not_mem_nil, or_false, not_false_eq_true]; first | omega | assumption))) only [c11, eAD, Nat.reduceAdd, Nat.reduceMul, Nat.reduceLT, Int.reduceToNat, Int.reduceAdd, Int.reduceSub, Int.reduceMul, s_beq, List.length_cons, List.length_nil, List.getD_cons_zero, List.getD_cons_succ, List.getElem?_cons_zero, List.getElem?_cons_succ, Option.bind_some, Option.bind_assoc, s_bindN, asI_i, asB_b, asS_s, asP_p, asPS_p, asSl_sl, s_agg, s_tup, s_fn, joinB, joinI, joinR, beq_true, beq_false, Bool.not_true, Bool.not_false, Bool.not_not, cond_true, cond_false, neI, s_mapS, bindS_inl, bindS_inr, Bool.and_true, Bool.true_and, Bool.and_false, Bool.false_and, s_isNoneS, s_isNoneN, s_ref, s_adv, s_ldf, s_ld, s_ldM, s_st, s_stM, s_bs, s_bn, s_pp, bump_blk, bump_next, put_next, splice_z, splice_zz, splice_s, s_decT, s_decF, s_eqT, s_eqF, s_i64, s_u64, s_u8, Int.toNat_natCast, Nat.zero_add, s_room, s_chkT, s_rdSl, s_wrSl, s_ldN, s_ldNM, s_ldNf, List.drop_zero, List.take_succ_cons, List.take_zero, List.take_nil, List.take_length, Nat.mul_one, List.flatten_cons, List.flatten_nil, List.append_nil, List.nil_append, List.cons_append]
  refine Ok.bindS (Q := fun r => ∃ σ' : AH O, ∃ M' : MemS, r = .inl ([], σ') ∧ Keep (SA.bk a ++ [N, N + 1]) σ11 σ') ?_ ?_ (fun r h => by obtain ⟨_, _, e, _⟩ := h; cases e)
  · refine Ok.count 10 (fun k s => ∃ σ' M', s = ([.i .i64 (k : Int)], σ') ∧ RootAt σ' B M' F7 wF7 P7 C5 w7 Q9 C9 w9 (SA.bk a ++ [N, N + 1]) ∧ Keep (SA.bk a ++ [N, N + 1]) σ11 σ' ∧ M'.met.r ≤ 1300 + 4 * k ∧ M'.met.w ≤ 1300) ?_ ?_ ⟨σ11, M11, rfl, R11, Keep.refl _ _, by omega, by omega⟩
    · rintro k s hk ⟨σ', M', rfl, R', K', u1, u2⟩
      have o' : OwnS σ' 3 1 a 10 ((List.range 5).map slC ++ T.map tkC) := o11.of K'.next fun b hb => K'.blk b (by simp [hb])
      have ld := at2 hk o'
      simp (config := { maxSteps := 2000000 }) -implicitDefEqProofs (disch := (first | omega | rfl | assumption | (simp only [put_next, bump_next, kill_next, List.length_cons, List.length_nil, List.mem_cons, List.not_mem_nil, or_false, not_false_eq_true]; first | omega | assumption))) only [law19_RootsApart_L3, href, ld, Nat.reduceAdd, Nat.reduceMul, Nat.reduceLT, Int.reduceToNat, Int.reduceAdd, Int.reduceSub, Int.reduceMul, s_beq, List.length_cons, List.length_nil, List.getD_cons_zero, List.getD_cons_succ, List.getElem?_cons_zero, List.getElem?_cons_succ, Option.bind_some, Option.bind_assoc, s_bindN, asI_i, asB_b, asS_s, asP_p, asPS_p, asSl_sl, s_agg, s_tup, s_fn, joinB, joinI, joinR, beq_true, beq_false, Bool.not_true, Bool.not_false, Bool.not_not, cond_true, cond_false, neI, s_mapS, bindS_inl, bindS_inr, Bool.and_true, Bool.true_and, Bool.and_false, Bool.false_and, s_isNoneS, s_isNoneN, s_ref, s_adv, s_ldf, s_ld, s_ldM, s_st, s_stM, s_bs, s_bn, s_pp, bump_blk, bump_next, put_next, splice_z, splice_zz, splice_s, s_decT, s_decF, s_eqT, s_eqF, s_i64, s_u64, s_u8, Int.toNat_natCast, Nat.zero_add, s_room, s_chkT, s_rdSl, s_wrSl, s_ldN, s_ldNM, s_ldNf, List.drop_zero, List.take_succ_cons, List.take_zero, List.take_nil, List.take_length, Nat.mul_one, List.flatten_cons, List.flatten_nil, List.append_nil, List.nil_append, List.cons_append]
      refine Ok.step (rget_ok R' ⟨by omega, by omega⟩ V7 (k := k) (by omega) (by decide)) fun r ⟨t1, M2', R2', t2, t3, K2'⟩ => ?_
      obtain ⟨q, σ2'⟩ := r
      simp only at t1 R2' K2'
      subst t1
      have o2' : OwnS σ2' 3 1 a 10 ((List.range 5).map slC ++ T.map tkC) := o'.of K2'.next fun b hb => K2'.blk b (by simp [hb])
      have ld2 := at2 hk o2'
      by_cases cA : k = A
      · have f1 : (nmS 5 T k == nmS 5 T A) = true := by rw [cA]; simp
        simp (config := { maxSteps := 2000000 }) -implicitDefEqProofs (disch := (first | omega | rfl | assumption | (simp only [put_next, bump_next, kill_next, List.length_cons, List.length_nil, List.mem_cons, List.not_mem_nil, or_false, not_false_eq_true]; first | omega | assumption))) only [e0, href, ld2, f1, Nat.reduceAdd, Nat.reduceMul, Nat.reduceLT, Int.reduceToNat, Int.reduceAdd, Int.reduceSub, Int.reduceMul, s_beq, List.length_cons, List.length_nil, List.getD_cons_zero, List.getD_cons_succ, List.getElem?_cons_zero, List.getElem?_cons_succ, Option.bind_some, Option.bind_assoc, s_bindN, asI_i, asB_b, asS_s, asP_p, asPS_p, asSl_sl, s_agg, s_tup, s_fn, joinB, joinI, joinR, beq_true, beq_false, Bool.not_true, Bool.not_false, Bool.not_not, cond_true, cond_false, neI, s_mapS, bindS_inl, bindS_inr, Bool.and_true, Bool.true_and, Bool.and_false, Bool.false_and, s_isNoneS, s_isNoneN, s_ref, s_adv, s_ldf, s_ld, s_ldM, s_st, s_stM, s_bs, s_bn, s_pp, bump_blk, bump_next, put_next, splice_z, splice_zz, splice_s, s_decT, s_decF, s_eqT, s_eqF, s_i64, s_u64, s_u8, Int.toNat_natCast, Nat.zero_add, s_room, s_chkT, s_rdSl, s_wrSl, s_ldN, s_ldNM, s_ldNf, List.drop_zero, List.take_succ_cons, List.take_zero, List.take_nil, List.take_length, Nat.mul_one, List.flatten_cons, List.flatten_nil, List.append_nil, List.nil_append, List.cons_append]
        exact Ok_some.2 ⟨σ2', M2', by simp, R2', K'.trans K2', by omega, by omega⟩
      · have f1 : (nmS 5 T k == nmS 5 T A) = false := beq_eq_false_iff_ne.2 fun h => cA (inj hk hAl h)
        by_cases cD : k = D
        · have f2 : (nmS 5 T k == nmS 5 T D) = true := by rw [cD]; simp
          simp (config := { maxSteps := 2000000 }) -implicitDefEqProofs (disch := (first | omega | rfl | assumption | (simp only [put_next, bump_next, kill_next, List.length_cons, List.length_nil, List.mem_cons, List.not_mem_nil, or_false, not_false_eq_true]; first | omega | assumption))) only [e0, href, ld2, f1, f2, Nat.reduceAdd, Nat.reduceMul, Nat.reduceLT, Int.reduceToNat, Int.reduceAdd, Int.reduceSub, Int.reduceMul, s_beq, List.length_cons, List.length_nil, List.getD_cons_zero, List.getD_cons_succ, List.getElem?_cons_zero, List.getElem?_cons_succ, Option.bind_some, Option.bind_assoc, s_bindN, asI_i, asB_b, asS_s, asP_p, asPS_p, asSl_sl, s_agg, s_tup, s_fn, joinB, joinI, joinR, beq_true, beq_false, Bool.not_true, Bool.not_false, Bool.not_not, cond_true, cond_false, neI, s_mapS, bindS_inl, bindS_inr, Bool.and_true, Bool.true_and, Bool.and_false, Bool.false_and, s_isNoneS, s_isNoneN, s_ref, s_adv, s_ldf, s_ld, s_ldM, s_st, s_stM, s_bs, s_bn, s_pp, bump_blk, bump_next, put_next, splice_z, splice_zz, splice_s, s_decT, s_decF, s_eqT, s_eqF, s_i64, s_u64, s_u8, Int.toNat_natCast, Nat.zero_add, s_room, s_chkT, s_rdSl, s_wrSl, s_ldN, s_ldNM, s_ldNf, List.drop_zero, List.take_succ_cons, List.take_zero, List.take_nil, List.take_length, Nat.mul_one, List.flatten_cons, List.flatten_nil, List.append_nil, List.nil_append, List.cons_append]
          exact Ok_some.2 ⟨σ2', M2', by simp, R2', K'.trans K2', by omega, by omega⟩
        · have f2 : (nmS 5 T k == nmS 5 T D) = false := beq_eq_false_iff_ne.2 fun h => cD (inj hk hDl h)
          have f3 : (upd (upd (fun _ => 0) A x) D y k == 0) = true := by unfold upd; rw [if_neg cD, if_neg cA]; rfl
          simp (config := { maxSteps := 2000000 }) -implicitDefEqProofs (disch := (first | omega | rfl | assumption | (simp only [put_next, bump_next, kill_next, List.length_cons, List.length_nil, List.mem_cons, List.not_mem_nil, or_false, not_false_eq_true]; first | omega | assumption))) only [e0, href, ld2, f1, f2, f3, Nat.reduceAdd, Nat.reduceMul, Nat.reduceLT, Int.reduceToNat, Int.reduceAdd, Int.reduceSub, Int.reduceMul, s_beq, List.length_cons, List.length_nil, List.getD_cons_zero, List.getD_cons_succ, List.getElem?_cons_zero, List.getElem?_cons_succ, Option.bind_some, Option.bind_assoc, s_bindN, asI_i, asB_b, asS_s, asP_p, asPS_p, asSl_sl, s_agg, s_tup, s_fn, joinB, joinI, joinR, beq_true, beq_false, Bool.not_true, Bool.not_false, Bool.not_not, cond_true, cond_false, neI, s_mapS, bindS_inl, bindS_inr, Bool.and_true, Bool.true_and, Bool.and_false, Bool.false_and, s_isNoneS, s_isNoneN, s_ref, s_adv, s_ldf, s_ld, s_ldM, s_st, s_stM, s_bs, s_bn, s_pp, bump_blk, bump_next, put_next, splice_z, splice_zz, splice_s, s_decT, s_decF, s_eqT, s_eqF, s_i64, s_u64, s_u8, Int.toNat_natCast, Nat.zero_add, s_room, s_chkT, s_rdSl, s_wrSl, s_ldN, s_ldNM, s_ldNf, List.drop_zero, List.take_succ_cons, List.take_zero, List.take_nil, List.take_length, Nat.mul_one, List.flatten_cons, List.flatten_nil, List.append_nil, List.nil_append, List.cons_append]
          exact Ok_some.2 ⟨σ2', M2', by simp, R2', K'.trans K2', by omega, by omega⟩
    · rintro s ⟨σ', M', rfl, R', K', u1, u2⟩
      simp (config := { maxSteps := 2000000 }) -implicitDefEqProofs (disch := (first | omega | rfl | assumption | (simp only [put_next, bump_next, kill_next, List.length_cons, List.length_nil, List.mem_cons, List.not_mem_nil, or_false, not_false_eq_true]; first | omega | assumption))) only [law19_RootsApart_L3, Nat.reduceAdd, Nat.reduceMul, Nat.reduceLT, Int.reduceToNat, Int.reduceAdd, Int.reduceSub, Int.reduceMul, s_beq, List.length_cons, List.length_nil, List.getD_cons_zero, List.getD_cons_succ, List.getElem?_cons_zero, List.getElem?_cons_succ, Option.bind_some, Option.bind_assoc, s_bindN, asI_i, asB_b, asS_s, asP_p, asPS_p, asSl_sl, s_agg, s_tup, s_fn, joinB, joinI, joinR, beq_true, beq_false, Bool.not_true, Bool.not_false, Bool.not_not, cond_true, cond_false, neI, s_mapS, bindS_inl, bindS_inr, Bool.and_true, Bool.true_and, Bool.and_false, Bool.false_and, s_isNoneS, s_isNoneN, s_ref, s_adv, s_ldf, s_ld, s_ldM, s_st, s_stM, s_bs, s_bn, s_pp, bump_blk, bump_next, put_next, splice_z, splice_zz, splice_s, s_decT, s_decF, s_eqT, s_eqF, s_i64, s_u64, s_u8, Int.toNat_natCast, Nat.zero_add, s_room, s_chkT, s_rdSl, s_wrSl, s_ldN, s_ldNM, s_ldNf, List.drop_zero, List.take_succ_cons, List.take_zero, List.take_nil, List.take_length, Nat.mul_one, List.flatten_cons, List.flatten_nil, List.append_nil, List.nil_append, List.cons_append]
      exact Ok_some.2 ⟨σ', M', rfl, K'⟩
  rintro _ ⟨σ12, M12, e, K13⟩
  cases e
  have c12 : σ12.blk (N + 1) = _ := aside K13 (by simp) c11
  have v1 : (upd (upd (fun _ => 0) A x) D y A == bif decide (A = D) then y else x) = true := by
    unfold upd
    by_cases c : A = D
    · rw [if_pos c, decide_eq_true c]; simp
    · rw [if_neg c, if_pos rfl, decide_eq_false c]; simp
  have v2 : (upd (upd (fun _ => 0) A x) D y D == y) = true := by unfold upd; rw [if_pos rfl]; simp
  have e00 : ((0 : Int) == 0) = true := rfl
  have sl1 := slot_ok (σ := σ12) (n := raw) h3
  have sl2 := slot_ok (σ := σ12) (n := -1 - raw) (by omega)
  have e9 : (-1 - (-1 - raw) == raw) = true := by rw [show -1 - (-1 - raw) = raw by omega]; simp
  simp (config := { maxSteps := 2000000 }) -implicitDefEqProofs (disch := (first | omega | rfl | assumption | (simp only [put_next, bump_next, kill_next, List.length_cons, List.length_nil, List.mem_cons, List.not_mem_nil, or_false, not_false_eq_true]; first | omega | assumption))) only [v1, c12, v2, e00, sl1, sl2, e9, Nat.reduceAdd, Nat.reduceMul, Nat.reduceLT, Int.reduceToNat, Int.reduceAdd, Int.reduceSub, Int.reduceMul, s_beq, List.length_cons, List.length_nil, List.getD_cons_zero, List.getD_cons_succ, List.getElem?_cons_zero, List.getElem?_cons_succ, Option.bind_some, Option.bind_assoc, s_bindN, asI_i, asB_b, asS_s, asP_p, asPS_p, asSl_sl, s_agg, s_tup, s_fn, joinB, joinI, joinR, beq_true, beq_false, Bool.not_true, Bool.not_false, Bool.not_not, cond_true, cond_false, neI, s_mapS, bindS_inl, bindS_inr, Bool.and_true, Bool.true_and, Bool.and_false, Bool.false_and, s_isNoneS, s_isNoneN, s_ref, s_adv, s_ldf, s_ld, s_ldM, s_st, s_stM, s_bs, s_bn, s_pp, bump_blk, bump_next, put_next, splice_z, splice_zz, splice_s, s_decT, s_decF, s_eqT, s_eqF, s_i64, s_u64, s_u8, Int.toNat_natCast, Nat.zero_add, s_room, s_chkT, s_rdSl, s_wrSl, s_ldN, s_ldNM, s_ldNf, List.drop_zero, List.take_succ_cons, List.take_zero, List.take_nil, List.take_length, Nat.mul_one, List.flatten_cons, List.flatten_nil, List.append_nil, List.nil_append, List.cons_append]
  exact Ok_some.2 rfl
end Go.Abs.Try
