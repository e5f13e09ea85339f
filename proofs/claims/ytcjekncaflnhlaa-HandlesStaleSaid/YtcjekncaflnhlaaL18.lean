/-
  The statement HandlesStale: what is run returns true. No conditions.
-/
import Derived.Test.YtcjekncaflnhlaaM18b
import Derived.Test.YtcjekncaflnhlaaAbsIn
set_option linter.unusedVariables false
set_option linter.unusedSimpArgs false
set_option linter.constructorNameAsVariable false
set_option linter.unusedSimpArgs false
set_option linter.unusedVariables false
set_option linter.unusedSectionVars false
set_option maxHeartbeats 2000000
namespace Go.Abs.Try
open Go Go.Abs
variable {O : Type}

abbrev Pr := Nat × Nat
def tc (p : Pr) : AV := .i .i64 (tok p.1 p.2)
structure StI (E : List PE) (I G : List Pr) : Prop where
  inn : ∀ p ∈ I, ∃ x, vw E p.1 = some (true, p.2, x)
  nd : (I.map (·.1)).Nodup
  gone : ∀ p ∈ G, ∃ t g x, vw E p.1 = some (t, g, x) ∧ p.2 < g
theorem vw_lt {E : List PE} {j : Nat} {y : Bool × Nat × Option Int} (h : vw E j = some y) : j < E.length := by
  unfold vw at h
  obtain ⟨e, h1, _⟩ := Option.map_eq_some_iff.1 h
  exact (List.getElem?_eq_some_iff.1 h1).1
theorem StI.came {P P' : PoolS} {I G : List Pr} (h : StI P.E I G) {i g : Nat} {x : Int} (c : HCame P P' i g x) : (∀ p ∈ I, p.1 ≠ i) ∧ (∀ p ∈ G, p.1 = i → p.2 < g) ∧ StI P'.E (I ++ [(i, g)]) G := by
  have h1 : ∀ p ∈ I, p.1 ≠ i := fun p hp e => by
    obtain ⟨y, hy⟩ := h.inn p hp
    rw [e] at hy
    rcases c.was with ⟨q, _⟩ | ⟨y', q⟩
    · rw [q] at hy; cases hy
    · rw [q] at hy; simp at hy
  have h2 : ∀ p ∈ G, p.1 = i → p.2 < g := fun p hp e => by
    obtain ⟨t, g', y, hy, hl⟩ := h.gone p hp
    rw [e] at hy
    rcases c.was with ⟨q, _⟩ | ⟨y', q⟩
    · rw [q] at hy; cases hy
    · rw [q] at hy
      simp only [Option.some.injEq, Prod.mk.injEq] at hy
      omega
  refine ⟨h1, h2, fun p hp => ?_, ?_, fun p hp => ?_⟩
  · rcases List.mem_append.1 hp with hp | hp
    · rw [c.other _ (h1 p hp)]; exact h.inn p hp
    · simp at hp; subst hp; exact ⟨_, c.now⟩
  · rw [List.map_append, List.nodup_append]
    refine ⟨h.nd, by simp, fun a ha b hb e => ?_⟩
    simp at hb
    obtain ⟨p, hp, rfl⟩ := List.mem_map.1 ha
    exact h1 p hp (e.trans hb)
  · by_cases e : p.1 = i
    · rw [e]; exact ⟨_, _, _, c.now, h2 p hp e⟩
    · rw [c.other _ e]; exact h.gone p hp
theorem StI.drop {E E' : List PE} {I G : List Pr} (h : StI E I G) {k i g : Nat} (hk : I[k]? = some (i, g)) (hi : ∃ y, vw E' i = some (false, g + 1, y)) (ho : ∀ j, j ≠ i → vw E' j = vw E j) : StI E' (I.take k ++ I.drop (k + 1)) (G ++ [(i, g)]) := by
  have hkl := (List.getElem?_eq_some_iff.1 hk).1
  obtain ⟨y, hy⟩ := hi
  obtain ⟨x, hx⟩ := h.inn _ (List.mem_of_getElem? hk)
  simp only at hx
  have hI : I = I.take k ++ (i, g) :: I.drop (k + 1) := by
    have : I[k] = (i, g) := (List.getElem?_eq_some_iff.1 hk).2
    rw [← this, ← List.drop_eq_getElem_cons hkl, List.take_append_drop]
  have hnd := h.nd
  rw [hI, List.map_append, List.map_cons, List.nodup_append] at hnd
  obtain ⟨n1, n2, n3⟩ := hnd
  have hne : ∀ p ∈ I.take k ++ I.drop (k + 1), p.1 ≠ i := fun p hp e => by
    rcases List.mem_append.1 hp with hp | hp
    · exact n3 p.1 (List.mem_map.2 ⟨p, hp, rfl⟩) i (by simp) e
    · exact (List.nodup_cons.1 n2).1 (List.mem_map.2 ⟨p, hp, e⟩)
  have hsub : ∀ p ∈ I.take k ++ I.drop (k + 1), p ∈ I := fun p hp => by
    rcases List.mem_append.1 hp with hp | hp
    · exact List.mem_of_mem_take hp
    · exact List.mem_of_mem_drop hp
  refine ⟨fun p hp => ?_, ?_, fun p hp => ?_⟩
  · rw [ho _ (hne p hp)]; exact h.inn p (hsub p hp)
  · rw [List.map_append, List.nodup_append]
    exact ⟨n1, (List.nodup_cons.1 n2).2, fun a ha b hb => n3 a ha b (List.mem_cons_of_mem _ hb)⟩
  · rcases List.mem_append.1 hp with hp | hp
    · by_cases e : p.1 = i
      · obtain ⟨t, g', z, hz, hl⟩ := h.gone p hp
        rw [e, hx] at hz
        simp only [Option.some.injEq, Prod.mk.injEq] at hz
        rw [e]; exact ⟨_, _, _, hy, by omega⟩
      · rw [ho _ e]; exact h.gone p hp
    · simp at hp; subst hp; exact ⟨_, _, _, hy, by simp⟩
theorem tmod_rng {a n : Int} (hn : 0 < n) : -n < Int.tmod a n ∧ Int.tmod a n < n := by
  have h1 := Int.tmod_lt_of_pos a hn
  have h2 := Int.tmod_lt_of_pos (-a) hn
  rw [Int.neg_tmod] at h2
  omega
structure HOp where
  kind : Int
  id : Int
  raw : Bool
  w : Int
def HOp.cells (o : HOp) : List AV := [.i .i64 o.kind, .i .i64 o.id, .b o.raw, .i .u64 o.w]
theorem HOp.len (o : HOp) : o.cells.length = 4 := rfl
/-- between two calls -/
structure StAt (σ : AH O) (hb pb mb : Nat) (M : MemS) (P : PoolS) (C : List Nat) (w : List Int) (ai ag : SA) (I G : List Pr) (k R : Nat) : Prop where
  h : HanAt σ hb pb mb M P C w (SA.bk ai ++ SA.bk ag)
  oi : OwnS σ 3 1 ai I.length (I.map tc)
  og : OwnS σ 3 1 ag G.length (G.map tc)
  ap : ∀ b ∈ SA.bk ai, b ∉ SA.bk ag
  st : StI P.E I G
  cl : C.length = I.length
  il : I.length ≤ k
  gl : G.length ≤ k
  e : P.E.length ≤ k
  room : P.room ≤ 160
  gen : ∀ j t g x, vw P.E j = some (t, g, x) → g ≤ k
  r : M.met.r ≤ R
  wm : M.met.w ≤ R
theorem has_ok {σ : AH O} {a : SA} {I : List Pr} {t : Int} (h : Rd σ 1 a I.length (I.map tc)) (hn : ∀ p ∈ I, tok p.1 p.2 ≠ t) (hl : I.length ≤ 100) : law18_has [.sl a I.length, .i .i64 t] σ = some (.b false, σ) := by
  have : Ok (law18_has [.sl a I.length, .i .i64 t] σ) fun r => r = (.b false, σ) := by
    simp (config := { maxSteps := 2000000 }) -implicitDefEqProofs (disch := (first | omega | rfl | assumption | (simp only [put_next, bump_next, kill_next, List.length_cons, List.length_nil, List.mem_cons, List.not_mem_nil, or_false, not_false_eq_true]; first | omega | assumption))) only [law18_has, law18_has_c, Nat.reduceAdd, Nat.reduceMul, Nat.reduceLT, Int.reduceToNat, Int.reduceAdd, Int.reduceSub, Int.reduceMul, s_beq, List.length_cons, List.length_nil, List.getD_cons_zero, List.getD_cons_succ, List.getElem?_cons_zero, List.getElem?_cons_succ, Option.bind_some, Option.bind_assoc, s_bindN, asI_i, asB_b, asS_s, asP_p, asPS_p, asSl_sl, s_agg, s_tup, s_fn, joinB, joinI, joinR, beq_true, beq_false, Bool.not_true, Bool.not_false, Bool.not_not, cond_true, cond_false, neI, s_mapS, bindS_inl, bindS_inr, Bool.and_true, Bool.true_and, Bool.and_false, Bool.false_and, s_isNoneS, s_isNoneN, s_ref, s_adv, s_ldf, s_ld, s_ldM, s_st, s_stM, s_bs, s_bn, s_pp, bump_blk, bump_next, put_next, splice_z, splice_zz, splice_s, s_decT, s_decF, s_eqT, s_eqF, s_i64, s_u64, s_u8, Int.toNat_natCast, Nat.zero_add, s_room, s_chkT, s_rdSl, s_wrSl, s_ldN, s_ldNM, s_ldNf, List.drop_zero, List.take_succ_cons, List.take_zero, List.take_nil, List.take_length, Nat.mul_one, List.flatten_cons, List.flatten_nil, List.append_nil, List.nil_append, List.cons_append]
    refine Ok.bindS (Q := fun r => r = .inl ([], σ)) ?_ ?_ (fun r h => by cases h)
    · refine Ok.count I.length (fun k s => s = ([.i .i64 (k : Int)], σ)) ?_ ?_ rfl
      · rintro k s hk rfl
        have hx := List.getElem?_eq_getElem hk
        generalize I[k] = p at hx
        obtain ⟨b, o, rfl, ld⟩ := h.at1 (i := k) (v := tc p) (by rw [List.getElem?_map, hx]; rfl)
        simp only [tc, Nat.mul_one] at ld
        have e : (tok p.1 p.2 == t) = false := beq_eq_false_iff_ne.2 (hn p (List.mem_of_getElem? hx))
        simp (config := { maxSteps := 2000000 }) -implicitDefEqProofs (disch := (first | omega | rfl | assumption | (simp only [put_next, bump_next, kill_next, List.length_cons, List.length_nil, List.mem_cons, List.not_mem_nil, or_false, not_false_eq_true]; first | omega | assumption))) only [law18_has_L1, ld, e, Nat.reduceAdd, Nat.reduceMul, Nat.reduceLT, Int.reduceToNat, Int.reduceAdd, Int.reduceSub, Int.reduceMul, s_beq, List.length_cons, List.length_nil, List.getD_cons_zero, List.getD_cons_succ, List.getElem?_cons_zero, List.getElem?_cons_succ, Option.bind_some, Option.bind_assoc, s_bindN, asI_i, asB_b, asS_s, asP_p, asPS_p, asSl_sl, s_agg, s_tup, s_fn, joinB, joinI, joinR, beq_true, beq_false, Bool.not_true, Bool.not_false, Bool.not_not, cond_true, cond_false, neI, s_mapS, bindS_inl, bindS_inr, Bool.and_true, Bool.true_and, Bool.and_false, Bool.false_and, s_isNoneS, s_isNoneN, s_ref, s_adv, s_ldf, s_ld, s_ldM, s_st, s_stM, s_bs, s_bn, s_pp, bump_blk, bump_next, put_next, splice_z, splice_zz, splice_s, s_decT, s_decF, s_eqT, s_eqF, s_i64, s_u64, s_u8, Int.toNat_natCast, Nat.zero_add, s_room, s_chkT, s_rdSl, s_wrSl, s_ldN, s_ldNM, s_ldNf, List.drop_zero, List.take_succ_cons, List.take_zero, List.take_nil, List.take_length, Nat.mul_one, List.flatten_cons, List.flatten_nil, List.append_nil, List.nil_append, List.cons_append]
        exact Ok_some.2 (by simp)
      · rintro s rfl
        simp (config := { maxSteps := 2000000 }) -implicitDefEqProofs (disch := (first | omega | rfl | assumption | (simp only [put_next, bump_next, kill_next, List.length_cons, List.length_nil, List.mem_cons, List.not_mem_nil, or_false, not_false_eq_true]; first | omega | assumption))) only [law18_has_L1, Nat.reduceAdd, Nat.reduceMul, Nat.reduceLT, Int.reduceToNat, Int.reduceAdd, Int.reduceSub, Int.reduceMul, s_beq, List.length_cons, List.length_nil, List.getD_cons_zero, List.getD_cons_succ, List.getElem?_cons_zero, List.getElem?_cons_succ, Option.bind_some, Option.bind_assoc, s_bindN, asI_i, asB_b, asS_s, asP_p, asPS_p, asSl_sl, s_agg, s_tup, s_fn, joinB, joinI, joinR, beq_true, beq_false, Bool.not_true, Bool.not_false, Bool.not_not, cond_true, cond_false, neI, s_mapS, bindS_inl, bindS_inr, Bool.and_true, Bool.true_and, Bool.and_false, Bool.false_and, s_isNoneS, s_isNoneN, s_ref, s_adv, s_ldf, s_ld, s_ldM, s_st, s_stM, s_bs, s_bn, s_pp, bump_blk, bump_next, put_next, splice_z, splice_zz, splice_s, s_decT, s_decF, s_eqT, s_eqF, s_i64, s_u64, s_u8, Int.toNat_natCast, Nat.zero_add, s_room, s_chkT, s_rdSl, s_wrSl, s_ldN, s_ldNM, s_ldNf, List.drop_zero, List.take_succ_cons, List.take_zero, List.take_nil, List.take_length, Nat.mul_one, List.flatten_cons, List.flatten_nil, List.append_nil, List.nil_append, List.cons_append]
        exact Ok_some.2 rfl
    · intro s hs
      cases hs
      simp (config := { maxSteps := 2000000 }) -implicitDefEqProofs (disch := (first | omega | rfl | assumption | (simp only [put_next, bump_next, kill_next, List.length_cons, List.length_nil, List.mem_cons, List.not_mem_nil, or_false, not_false_eq_true]; first | omega | assumption))) only [Nat.reduceAdd, Nat.reduceMul, Nat.reduceLT, Int.reduceToNat, Int.reduceAdd, Int.reduceSub, Int.reduceMul, s_beq, List.length_cons, List.length_nil, List.getD_cons_zero, List.getD_cons_succ, List.getElem?_cons_zero, List.getElem?_cons_succ, Option.bind_some, Option.bind_assoc, s_bindN, asI_i, asB_b, asS_s, asP_p, asPS_p, asSl_sl, s_agg, s_tup, s_fn, joinB, joinI, joinR, beq_true, beq_false, Bool.not_true, Bool.not_false, Bool.not_not, cond_true, cond_false, neI, s_mapS, bindS_inl, bindS_inr, Bool.and_true, Bool.true_and, Bool.and_false, Bool.false_and, s_isNoneS, s_isNoneN, s_ref, s_adv, s_ldf, s_ld, s_ldM, s_st, s_stM, s_bs, s_bn, s_pp, bump_blk, bump_next, put_next, splice_z, splice_zz, splice_s, s_decT, s_decF, s_eqT, s_eqF, s_i64, s_u64, s_u8, Int.toNat_natCast, Nat.zero_add, s_room, s_chkT, s_rdSl, s_wrSl, s_ldN, s_ldNM, s_ldNf, List.drop_zero, List.take_succ_cons, List.take_zero, List.take_nil, List.take_length, Nat.mul_one, List.flatten_cons, List.flatten_nil, List.append_nil, List.nil_append, List.cons_append]
      exact Ok_some.2 rfl
  obtain ⟨r, e, rfl⟩ := this
  exact e
section
variable {σ : AH O} {hb pb mb : Nat} {M : MemS} {P : PoolS} {C : List Nat} {w : List Int} {ai ag : SA} {I G : List Pr} {k R : Nat} (h : StAt σ hb pb mb M P C w ai ag I G k R) (hk : k ≤ 61)
include h hk
theorem StAt.tg : ∀ p ∈ G, (∀ i g x, vw P.E i = some (true, g, x) → tok p.1 p.2 ≠ tok i g) ∧ -9223372036854775808 ≤ tok p.1 p.2 ∧ tok p.1 p.2 ≤ 9223372036854775807 := fun p hp => by
  have he := h.e
  obtain ⟨t, g, x, h1, h2⟩ := h.st.gone p hp
  have h3 := vw_lt h1
  have h4 := h.gen _ _ _ _ h1
  refine ⟨fun i g' x' hv e => ?_, by unfold tok; omega, by unfold tok; omega⟩
  have h5 := vw_lt hv
  obtain ⟨e1, e2⟩ := tok_inj (by omega) (by omega) e
  rw [e1, hv] at h1
  simp only [Option.some.injEq, Prod.mk.injEq] at h1
  omega
theorem stale_inner (hR : R ≤ 1000000) : Ok (loopF (S := List AV × AH O) (T := (List AV × AH O) ⊕ ((List AV × AH O) ⊕ ((List AV × AH O) ⊕ (AV × AH O)))) (law18_HandlesStale_L2 (ag, G.length) handles_Handles__Get (some (.n hb, 0)) handles_Handles__Set handles_Handles__Drop) ([(.i .i64 0)], σ)) fun r => ∃ σ' M', r = .inl ([], σ') ∧ StAt σ' hb pb mb M' P C w ai ag I G k (R + 6 * G.length) := by
  have hgl := h.gl
  refine Ok.count G.length (fun j s => ∃ σ' M', s = ([.i .i64 (j : Int)], σ') ∧ StAt σ' hb pb mb M' P C w ai ag I G k (R + 6 * j)) ?_ ?_ ⟨σ, M, rfl, h⟩
  · rintro j s hj ⟨σ1, M1, rfl, h1⟩
    have hx := List.getElem?_eq_getElem hj
    generalize G[j] = p at hx
    obtain ⟨tg1, tg2⟩ := h1.tg hk p (List.mem_of_getElem? hx)
    obtain ⟨b, o, ea, ld⟩ := h1.og.rd.at1 (i := j) (v := tc p) (by rw [List.getElem?_map, hx]; rfl)
    have href : SA.ref ag = some (b, o) := by rw [ea]; rfl
    simp only [tc, Nat.mul_one] at ld
    have r1 := h1.r
    have v1 := h1.wm
    have e0 : ((0 : Int) != 0) = false := rfl
    have e3 : ((30 : Int) != 30) = false := rfl
    have see : ∀ {σ2 : AH O} {M2 : MemS}, HanAt σ2 hb pb mb M2 P C w (SA.bk ai ++ SA.bk ag) → Keep (SA.bk ai ++ SA.bk ag) σ1 σ2 → M2.met.r ≤ R + 6 * (j + 1) → M2.met.w ≤ R + 6 * (j + 1) → StAt σ2 hb pb mb M2 P C w ai ag I G k (R + 6 * (j + 1)) := fun g1 g2 g3 g4 =>
      { h1 with h := g1, oi := h1.oi.of g2.next fun b hb => g2.blk b (by simp [hb]), og := h1.og.of g2.next fun b hb => g2.blk b (by simp [hb]), r := g3, wm := g4 }
    have ldk : ∀ {σ2 : AH O}, Keep (SA.bk ai ++ SA.bk ag) σ1 σ2 → σ2.ld b (o + j) = some (.i .i64 (tok p.1 p.2)) := fun g2 => by
      have o2 : OwnS _ 3 1 ag G.length (G.map tc) := h1.og.of g2.next fun b hb => g2.blk b (by simp [hb])
      obtain ⟨b', o', ea', ld'⟩ := o2.rd.at1 (i := j) (v := tc p) (by rw [List.getElem?_map, hx]; rfl)
      rw [ea] at ea'; cases ea'
      rw [Nat.mul_one] at ld'
      exact ld'
    simp (config := { maxSteps := 2000000 }) -implicitDefEqProofs (disch := (first | omega | rfl | assumption | (simp only [put_next, bump_next, kill_next, List.length_cons, List.length_nil, List.mem_cons, List.not_mem_nil, or_false, not_false_eq_true]; first | omega | assumption))) only [law18_HandlesStale_L2, href, ld, Nat.reduceAdd, Nat.reduceMul, Nat.reduceLT, Int.reduceToNat, Int.reduceAdd, Int.reduceSub, Int.reduceMul, s_beq, List.length_cons, List.length_nil, List.getD_cons_zero, List.getD_cons_succ, List.getElem?_cons_zero, List.getElem?_cons_succ, Option.bind_some, Option.bind_assoc, s_bindN, asI_i, asB_b, asS_s, asP_p, asPS_p, asSl_sl, s_agg, s_tup, s_fn, joinB, joinI, joinR, beq_true, beq_false, Bool.not_true, Bool.not_false, Bool.not_not, cond_true, cond_false, neI, s_mapS, bindS_inl, bindS_inr, Bool.and_true, Bool.true_and, Bool.and_false, Bool.false_and, s_isNoneS, s_isNoneN, s_ref, s_adv, s_ldf, s_ld, s_ldM, s_st, s_stM, s_bs, s_bn, s_pp, bump_blk, bump_next, put_next, splice_z, splice_zz, splice_s, s_decT, s_decF, s_eqT, s_eqF, s_i64, s_u64, s_u8, Int.toNat_natCast, Nat.zero_add, s_room, s_chkT, s_rdSl, s_wrSl, s_ldN, s_ldNM, s_ldNf, List.drop_zero, List.take_succ_cons, List.take_zero, List.take_nil, List.take_length, Nat.mul_one, List.flatten_cons, List.flatten_nil, List.append_nil, List.nil_append, List.cons_append]
    refine Ok.step (hget_no h1.h ⟨by omega, by omega⟩ tg2 tg1) fun r ⟨k1, M2, d2, k2, k3, k4, k5, k6⟩ => ?_
    obtain ⟨q, σ2⟩ := r
    simp only at k1 k2 k6
    subst k1
    have r2 := k3.r
    have v2 := k3.w
    have ld2 := ldk k6
    simp (config := { maxSteps := 2000000 }) -implicitDefEqProofs (disch := (first | omega | rfl | assumption | (simp only [put_next, bump_next, kill_next, List.length_cons, List.length_nil, List.mem_cons, List.not_mem_nil, or_false, not_false_eq_true]; first | omega | assumption))) only [e0, e3, href, ld2, Nat.reduceAdd, Nat.reduceMul, Nat.reduceLT, Int.reduceToNat, Int.reduceAdd, Int.reduceSub, Int.reduceMul, s_beq, List.length_cons, List.length_nil, List.getD_cons_zero, List.getD_cons_succ, List.getElem?_cons_zero, List.getElem?_cons_succ, Option.bind_some, Option.bind_assoc, s_bindN, asI_i, asB_b, asS_s, asP_p, asPS_p, asSl_sl, s_agg, s_tup, s_fn, joinB, joinI, joinR, beq_true, beq_false, Bool.not_true, Bool.not_false, Bool.not_not, cond_true, cond_false, neI, s_mapS, bindS_inl, bindS_inr, Bool.and_true, Bool.true_and, Bool.and_false, Bool.false_and, s_isNoneS, s_isNoneN, s_ref, s_adv, s_ldf, s_ld, s_ldM, s_st, s_stM, s_bs, s_bn, s_pp, bump_blk, bump_next, put_next, splice_z, splice_zz, splice_s, s_decT, s_decF, s_eqT, s_eqF, s_i64, s_u64, s_u8, Int.toNat_natCast, Nat.zero_add, s_room, s_chkT, s_rdSl, s_wrSl, s_ldN, s_ldNM, s_ldNf, List.drop_zero, List.take_succ_cons, List.take_zero, List.take_nil, List.take_length, Nat.mul_one, List.flatten_cons, List.flatten_nil, List.append_nil, List.nil_append, List.cons_append]
    refine Ok.step (hset_no k2 ⟨by omega, by omega⟩ (x := 3) tg2 tg1) fun r ⟨l1, M3, d3, l2, l3, l4, l5, l6⟩ => ?_
    obtain ⟨q, σ3⟩ := r
    simp only at l1 l2 l6
    subst l1
    have r3 := l3.r
    have v3 := l3.w
    have ld3 := ldk (k6.trans l6)
    simp (config := { maxSteps := 2000000 }) -implicitDefEqProofs (disch := (first | omega | rfl | assumption | (simp only [put_next, bump_next, kill_next, List.length_cons, List.length_nil, List.mem_cons, List.not_mem_nil, or_false, not_false_eq_true]; first | omega | assumption))) only [e3, href, ld3, Nat.reduceAdd, Nat.reduceMul, Nat.reduceLT, Int.reduceToNat, Int.reduceAdd, Int.reduceSub, Int.reduceMul, s_beq, List.length_cons, List.length_nil, List.getD_cons_zero, List.getD_cons_succ, List.getElem?_cons_zero, List.getElem?_cons_succ, Option.bind_some, Option.bind_assoc, s_bindN, asI_i, asB_b, asS_s, asP_p, asPS_p, asSl_sl, s_agg, s_tup, s_fn, joinB, joinI, joinR, beq_true, beq_false, Bool.not_true, Bool.not_false, Bool.not_not, cond_true, cond_false, neI, s_mapS, bindS_inl, bindS_inr, Bool.and_true, Bool.true_and, Bool.and_false, Bool.false_and, s_isNoneS, s_isNoneN, s_ref, s_adv, s_ldf, s_ld, s_ldM, s_st, s_stM, s_bs, s_bn, s_pp, bump_blk, bump_next, put_next, splice_z, splice_zz, splice_s, s_decT, s_decF, s_eqT, s_eqF, s_i64, s_u64, s_u8, Int.toNat_natCast, Nat.zero_add, s_room, s_chkT, s_rdSl, s_wrSl, s_ldN, s_ldNM, s_ldNf, List.drop_zero, List.take_succ_cons, List.take_zero, List.take_nil, List.take_length, Nat.mul_one, List.flatten_cons, List.flatten_nil, List.append_nil, List.nil_append, List.cons_append]
    refine Ok.step (hdrop_no l2 ⟨by omega, by omega⟩ tg2 tg1) fun r ⟨m1, M4, d4, m2, m3, m4, m5, m6⟩ => ?_
    obtain ⟨q, σ4⟩ := r
    simp only at m1 m2 m6
    subst m1
    have r4 := m3.r
    have v4 := m3.w
    simp (config := { maxSteps := 2000000 }) -implicitDefEqProofs (disch := (first | omega | rfl | assumption | (simp only [put_next, bump_next, kill_next, List.length_cons, List.length_nil, List.mem_cons, List.not_mem_nil, or_false, not_false_eq_true]; first | omega | assumption))) only [e3, Nat.reduceAdd, Nat.reduceMul, Nat.reduceLT, Int.reduceToNat, Int.reduceAdd, Int.reduceSub, Int.reduceMul, s_beq, List.length_cons, List.length_nil, List.getD_cons_zero, List.getD_cons_succ, List.getElem?_cons_zero, List.getElem?_cons_succ, Option.bind_some, Option.bind_assoc, s_bindN, asI_i, asB_b, asS_s, asP_p, asPS_p, asSl_sl, s_agg, s_tup, s_fn, joinB, joinI, joinR, beq_true, beq_false, Bool.not_true, Bool.not_false, Bool.not_not, cond_true, cond_false, neI, s_mapS, bindS_inl, bindS_inr, Bool.and_true, Bool.true_and, Bool.and_false, Bool.false_and, s_isNoneS, s_isNoneN, s_ref, s_adv, s_ldf, s_ld, s_ldM, s_st, s_stM, s_bs, s_bn, s_pp, bump_blk, bump_next, put_next, splice_z, splice_zz, splice_s, s_decT, s_decF, s_eqT, s_eqF, s_i64, s_u64, s_u8, Int.toNat_natCast, Nat.zero_add, s_room, s_chkT, s_rdSl, s_wrSl, s_ldN, s_ldNM, s_ldNf, List.drop_zero, List.take_succ_cons, List.take_zero, List.take_nil, List.take_length, Nat.mul_one, List.flatten_cons, List.flatten_nil, List.append_nil, List.nil_append, List.cons_append]
    exact Ok_some.2 ⟨σ4, M4, by simp, see m2 ((k6.trans l6).trans m6) (by omega) (by omega)⟩
  · rintro s ⟨σ1, M1, rfl, h1⟩
    simp (config := { maxSteps := 2000000 }) -implicitDefEqProofs (disch := (first | omega | rfl | assumption | (simp only [put_next, bump_next, kill_next, List.length_cons, List.length_nil, List.mem_cons, List.not_mem_nil, or_false, not_false_eq_true]; first | omega | assumption))) only [law18_HandlesStale_L2, Nat.reduceAdd, Nat.reduceMul, Nat.reduceLT, Int.reduceToNat, Int.reduceAdd, Int.reduceSub, Int.reduceMul, s_beq, List.length_cons, List.length_nil, List.getD_cons_zero, List.getD_cons_succ, List.getElem?_cons_zero, List.getElem?_cons_succ, Option.bind_some, Option.bind_assoc, s_bindN, asI_i, asB_b, asS_s, asP_p, asPS_p, asSl_sl, s_agg, s_tup, s_fn, joinB, joinI, joinR, beq_true, beq_false, Bool.not_true, Bool.not_false, Bool.not_not, cond_true, cond_false, neI, s_mapS, bindS_inl, bindS_inr, Bool.and_true, Bool.true_and, Bool.and_false, Bool.false_and, s_isNoneS, s_isNoneN, s_ref, s_adv, s_ldf, s_ld, s_ldM, s_st, s_stM, s_bs, s_bn, s_pp, bump_blk, bump_next, put_next, splice_z, splice_zz, splice_s, s_decT, s_decF, s_eqT, s_eqF, s_i64, s_u64, s_u8, Int.toNat_natCast, Nat.zero_add, s_room, s_chkT, s_rdSl, s_wrSl, s_ldN, s_ldNM, s_ldNf, List.drop_zero, List.take_succ_cons, List.take_zero, List.take_nil, List.take_length, Nat.mul_one, List.flatten_cons, List.flatten_nil, List.append_nil, List.nil_append, List.cons_append]
    exact Ok_some.2 ⟨σ1, M1, rfl, h1⟩
/-- one goes -/
theorem stale_drop {so : SA} {n : Nat} {x : HOp} {b : Bid} {o : Nat} (hxi : -9223372036854775808 ≤ x.id ∧ x.id ≤ 9223372036854775807) (hkn : k < n) (hk60 : k < 60) (hR : R ≤ 100000) (hso : so = .loc b o 4) (ld0 : ∀ σ : AH O, σ.ld b (o + k * 4) = some (.i .i64 x.kind)) (ld1 : ∀ σ : AH O, σ.ld b (o + k * 4 + 1) = some (.i .i64 x.id))
    (hc0 : x.kind ≠ 0) (hI : I.length ≠ 0) : Ok (law18_HandlesStale_L1 (so, n) handles_Handles__Drop (some (.n hb, 0)) handles_Handles__Add law18_has handles_Handles__Get handles_Handles__Set ([.sl ai I.length, .sl ag G.length, .i .i64 (k : Int)], σ)) fun r =>
      ∃ σ' M' P' C' w' ai' ag' I' G', r = .inl ([.sl ai' I'.length, .sl ag' G'.length, .i .i64 ((k + 1 : Nat) : Int)], σ') ∧ StAt σ' hb pb mb M' P' C' w' ai' ag' I' G' (k + 1) (R + 500) := by
  subst hso
  have hil := h.il
  have hgl := h.gl
  have r0 := h.r
  have v0 := h.wm
  obtain ⟨t1, t2⟩ := tmod_rng (a := x.id) (show (0 : Int) < I.length by omega)
  obtain ⟨K, hK, hKl⟩ : ∃ K : Nat, Int.tmod (Int.tmod x.id (I.length : Int) + (I.length : Int)) (I.length : Int) = (K : Int) ∧ K < I.length := by
    rw [Int.tmod_eq_emod_of_nonneg (by omega)]
    have g1 := Int.emod_nonneg (Int.tmod x.id (I.length : Int) + (I.length : Int)) (show (I.length : Int) ≠ 0 by omega)
    have g2 := Int.emod_lt_of_pos (Int.tmod x.id (I.length : Int) + (I.length : Int)) (show (0 : Int) < I.length by omega)
    exact ⟨_, (Int.toNat_of_nonneg g1).symm, by omega⟩
  have hp := List.getElem?_eq_getElem hKl
  generalize hpp : I[K] = p at hp
  obtain ⟨i, g⟩ := p
  obtain ⟨y, hv⟩ := h.st.inn _ (List.mem_of_getElem? hp)
  simp only at hv
  have hgk := h.gen _ _ _ _ hv
  obtain ⟨kb, rfl, hkb, hkl⟩ := h.oi.loc hI
  have g0 : (I.map tc)[K]? = some (.i .i64 (tok i g)) := by rw [List.getElem?_map, hp]; rfl
  have hml : (I.map tc).length = I.length := List.length_map _
  have i1 := decide_eq_true (show (0 : Int) ≤ (k : Int) by omega)
  have e0 : (x.kind != 0) = true := by simp [hc0]
  have hz : ((I.length : Int) == 0) = false := beq_eq_false_iff_ne.2 (by omega)
  simp (config := { maxSteps := 2000000 }) -implicitDefEqProofs (disch := (first | omega | rfl | assumption | (simp only [put_next, bump_next, kill_next, List.length_cons, List.length_nil, List.mem_cons, List.not_mem_nil, or_false, not_false_eq_true]; first | omega | assumption))) only [law18_HandlesStale_L1, ld0, ld1, e0, hz, hK, hkb, g0, Nat.reduceAdd, Nat.reduceMul, Nat.reduceLT, Int.reduceToNat, Int.reduceAdd, Int.reduceSub, Int.reduceMul, s_beq, List.length_cons, List.length_nil, List.getD_cons_zero, List.getD_cons_succ, List.getElem?_cons_zero, List.getElem?_cons_succ, Option.bind_some, Option.bind_assoc, s_bindN, asI_i, asB_b, asS_s, asP_p, asPS_p, asSl_sl, s_agg, s_tup, s_fn, joinB, joinI, joinR, beq_true, beq_false, Bool.not_true, Bool.not_false, Bool.not_not, cond_true, cond_false, neI, s_mapS, bindS_inl, bindS_inr, Bool.and_true, Bool.true_and, Bool.and_false, Bool.false_and, s_isNoneS, s_isNoneN, s_ref, s_adv, s_ldf, s_ld, s_ldM, s_st, s_stM, s_bs, s_bn, s_pp, bump_blk, bump_next, put_next, splice_z, splice_zz, splice_s, s_decT, s_decF, s_eqT, s_eqF, s_i64, s_u64, s_u8, Int.toNat_natCast, Nat.zero_add, s_room, s_chkT, s_rdSl, s_wrSl, s_ldN, s_ldNM, s_ldNf, List.drop_zero, List.take_succ_cons, List.take_zero, List.take_nil, List.take_length, Nat.mul_one, List.flatten_cons, List.flatten_nil, List.append_nil, List.nil_append, List.cons_append]
  refine Ok.bindS (Q := fun r => ∃ σ' M' P' C' w' ai' ag' I' G', r = .inl ([.sl ai' I'.length, .sl ag' G'.length], σ') ∧ StAt σ' hb pb mb M' P' C' w' ai' ag' I' G' (k + 1) (R + 20)) ?_ ?_ (fun r h => by obtain ⟨_, _, _, _, _, _, _, _, _, e, _⟩ := h; cases e)
  · refine Ok.step (hdrop_ok h.h ⟨by omega, by omega⟩ hv (by omega)) fun r ⟨p1, M1, w1, P1, d, dr, dw, p2, p3, p4, p5, p6, p7, p8, p9, q1, q2, q3, q4, q5⟩ => ?_
    obtain ⟨q, σ1⟩ := r
    simp only at p1 p3 q5
    subst p1
    have r1 := q1.r
    have v1 := q1.w
    have nx1 := q5.next
    have hkb1 : σ1.blk kb = _ := (q5.blk kb (by simp [SA.bk])).trans hkb
    have e00 : ((0 : Int) != 0) = false := rfl
    have ag0 : ∀ b ∈ SA.bk ag, b < σ.next ∧ σ1.blk b = σ.blk b := fun b hb => ⟨h.og.lt b hb, q5.blk b (by simp [hb])⟩
    have tk1 : (I.map tc).take K = (I.take K).map tc := List.map_take.symm
    have dr1 : (I.map tc).drop (K + 1) = (I.drop (K + 1)).map tc := List.map_drop.symm
    have tk2 : ((I.drop (K + 1)).map tc).take (I.length - (K + 1)) = (I.drop (K + 1)).map tc := List.take_of_length_le (by rw [List.length_map, List.length_drop]; exact Nat.le_refl _)
    have tn : ((K : Int) + 1).toNat = K + 1 := by omega
    simp (config := { maxSteps := 2000000 }) -implicitDefEqProofs (disch := (first | omega | rfl | assumption | (simp only [put_next, bump_next, kill_next, List.length_cons, List.length_nil, List.mem_cons, List.not_mem_nil, or_false, not_false_eq_true]; first | omega | assumption))) only [e00, hkb1, g0, Nat.reduceAdd, Nat.reduceMul, Nat.reduceLT, Int.reduceToNat, Int.reduceAdd, Int.reduceSub, Int.reduceMul, s_beq, List.length_cons, List.length_nil, List.getD_cons_zero, List.getD_cons_succ, List.getElem?_cons_zero, List.getElem?_cons_succ, Option.bind_some, Option.bind_assoc, s_bindN, asI_i, asB_b, asS_s, asP_p, asPS_p, asSl_sl, s_agg, s_tup, s_fn, joinB, joinI, joinR, beq_true, beq_false, Bool.not_true, Bool.not_false, Bool.not_not, cond_true, cond_false, neI, s_mapS, bindS_inl, bindS_inr, Bool.and_true, Bool.true_and, Bool.and_false, Bool.false_and, s_isNoneS, s_isNoneN, s_ref, s_adv, s_ldf, s_ld, s_ldM, s_st, s_stM, s_bs, s_bn, s_pp, bump_blk, bump_next, put_next, splice_z, splice_zz, splice_s, s_decT, s_decF, s_eqT, s_eqF, s_i64, s_u64, s_u8, Int.toNat_natCast, Nat.zero_add, s_room, s_chkT, s_rdSl, s_wrSl, s_ldN, s_ldNM, s_ldNf, List.drop_zero, List.take_succ_cons, List.take_zero, List.take_nil, List.take_length, Nat.mul_one, List.flatten_cons, List.flatten_nil, List.append_nil, List.nil_append, List.cons_append]
    generalize hσ : (σ1.bump 2).put σ1.next (.cells true _ _) = σ2
    have n2 : σ2.next = σ1.next + 2 := by rw [← hσ]; rfl
    have o2 : ∀ b, b ≠ σ1.next → σ2.blk b = σ1.blk b := fun b hb => by rw [← hσ]; exact s_bn hb
    clear hσ
    have og2 : OwnS σ2 3 1 ag G.length (G.map tc) := h.og.of (by omega) fun b hb => (o2 b (by have := (ag0 b hb).1; omega)).trans (ag0 b hb).2
    refine Ok.step (app_ok (nid := σ1.next + 1) og2 (fun hm => by have := (ag0 _ hm).1; omega) (by omega) (show [AV.i .i64 (tok i g)].length = 1 * 1 from rfl)) fun q ⟨a1, l1, l2, l3, l4, l5⟩ => ?_
    obtain ⟨q, σ3⟩ := q
    simp only at l1 l2 l3 l4
    subst l1
    have hkb3 : σ3.blk kb = _ := (l4 kb (by omega) (fun hm => h.ap kb (by simp [SA.bk]) hm)).trans ((o2 kb (by omega)).trans hkb1)
    have cg : G.map tc ++ [.i .i64 (tok i g)] = (G ++ [(i, g)]).map tc := by simp [tc]
    have lg : G.length + 1 = (G ++ [(i, g)]).length := by simp
    simp (config := { maxSteps := 2000000 }) -implicitDefEqProofs (disch := (first | omega | rfl | assumption | (simp only [put_next, bump_next, kill_next, List.length_cons, List.length_nil, List.mem_cons, List.not_mem_nil, or_false, not_false_eq_true]; first | omega | assumption))) only [hkb3, hml, tk1, Nat.sub_zero, Nat.reduceAdd, Nat.reduceMul, Nat.reduceLT, Int.reduceToNat, Int.reduceAdd, Int.reduceSub, Int.reduceMul, s_beq, List.length_cons, List.length_nil, List.getD_cons_zero, List.getD_cons_succ, List.getElem?_cons_zero, List.getElem?_cons_succ, Option.bind_some, Option.bind_assoc, s_bindN, asI_i, asB_b, asS_s, asP_p, asPS_p, asSl_sl, s_agg, s_tup, s_fn, joinB, joinI, joinR, beq_true, beq_false, Bool.not_true, Bool.not_false, Bool.not_not, cond_true, cond_false, neI, s_mapS, bindS_inl, bindS_inr, Bool.and_true, Bool.true_and, Bool.and_false, Bool.false_and, s_isNoneS, s_isNoneN, s_ref, s_adv, s_ldf, s_ld, s_ldM, s_st, s_stM, s_bs, s_bn, s_pp, bump_blk, bump_next, put_next, splice_z, splice_zz, splice_s, s_decT, s_decF, s_eqT, s_eqF, s_i64, s_u64, s_u8, Int.toNat_natCast, Nat.zero_add, s_room, s_chkT, s_rdSl, s_wrSl, s_ldN, s_ldNM, s_ldNf, List.drop_zero, List.take_succ_cons, List.take_zero, List.take_nil, List.take_length, Nat.mul_one, List.flatten_cons, List.flatten_nil, List.append_nil, List.nil_append, List.cons_append]
    generalize hσ : (σ3.bump 3).put σ3.next (.cells true _ []) = σ4
    have n4 : σ4.next = σ3.next + 3 := by rw [← hσ]; rfl
    have b4 : σ4.blk σ3.next = some (.cells true 3 []) := by rw [← hσ]; exact s_bs
    have o4 : ∀ b, b ≠ σ3.next → σ4.blk b = σ3.blk b := fun b hb => by rw [← hσ]; exact s_bn hb
    clear hσ
    have own4 : OwnS σ4 3 1 (.loc (.n σ3.next) 0 1) 0 [] := OwnS.new rfl b4 (by omega)
    refine Ok.step (app_ok (nid := σ3.next + 1) own4 (by simp [SA.bk]) (by omega) (show ((I.take K).map tc).length = K * 1 by rw [List.length_map, List.length_take, Nat.min_eq_left (by omega), Nat.mul_one])) fun q ⟨a2, m1, m2, m3, m4, m5⟩ => ?_
    obtain ⟨q, σ5⟩ := q
    simp only at m1 m2 m3 m4
    subst m1
    have hkb5 : σ5.blk kb = _ := (m4 kb (by omega) (by simp [SA.bk]; omega)).trans ((o4 kb (by omega)).trans hkb3)
    simp (config := { maxSteps := 2000000 }) -implicitDefEqProofs (disch := (first | omega | rfl | assumption | (simp only [put_next, bump_next, kill_next, List.length_cons, List.length_nil, List.mem_cons, List.not_mem_nil, or_false, not_false_eq_true]; first | omega | assumption))) only [hkb5, hml, tn, dr1, tk2, Nat.zero_add, Nat.reduceAdd, Nat.reduceMul, Nat.reduceLT, Int.reduceToNat, Int.reduceAdd, Int.reduceSub, Int.reduceMul, s_beq, List.length_cons, List.length_nil, List.getD_cons_zero, List.getD_cons_succ, List.getElem?_cons_zero, List.getElem?_cons_succ, Option.bind_some, Option.bind_assoc, s_bindN, asI_i, asB_b, asS_s, asP_p, asPS_p, asSl_sl, s_agg, s_tup, s_fn, joinB, joinI, joinR, beq_true, beq_false, Bool.not_true, Bool.not_false, Bool.not_not, cond_true, cond_false, neI, s_mapS, bindS_inl, bindS_inr, Bool.and_true, Bool.true_and, Bool.and_false, Bool.false_and, s_isNoneS, s_isNoneN, s_ref, s_adv, s_ldf, s_ld, s_ldM, s_st, s_stM, s_bs, s_bn, s_pp, bump_blk, bump_next, put_next, splice_z, splice_zz, splice_s, s_decT, s_decF, s_eqT, s_eqF, s_i64, s_u64, s_u8, Int.toNat_natCast, Nat.zero_add, s_room, s_chkT, s_rdSl, s_wrSl, s_ldN, s_ldNM, s_ldNf, List.drop_zero, List.take_succ_cons, List.take_zero, List.take_nil, List.take_length, Nat.mul_one, List.flatten_cons, List.flatten_nil, List.append_nil, List.nil_append, List.cons_append]
    rw [Nat.zero_add, List.nil_append] at m2
    refine Ok.step (app_ok (nid := σ3.next + 1 + 1) m2 (fun hm => by have := m5 _ hm; omega) (by omega) (show ((I.drop (K + 1)).map tc).length = (I.length - (K + 1)) * 1 by rw [List.length_map, List.length_drop, Nat.mul_one])) fun q ⟨a3, s1, s2, s3, s4, s5⟩ => ?_
    obtain ⟨q, σ6⟩ := q
    simp only at s1 s2 s3 s4
    subst s1
    simp (config := { maxSteps := 2000000 }) -implicitDefEqProofs (disch := (first | omega | rfl | assumption | (simp only [put_next, bump_next, kill_next, List.length_cons, List.length_nil, List.mem_cons, List.not_mem_nil, or_false, not_false_eq_true]; first | omega | assumption))) only [Nat.reduceAdd, Nat.reduceMul, Nat.reduceLT, Int.reduceToNat, Int.reduceAdd, Int.reduceSub, Int.reduceMul, s_beq, List.length_cons, List.length_nil, List.getD_cons_zero, List.getD_cons_succ, List.getElem?_cons_zero, List.getElem?_cons_succ, Option.bind_some, Option.bind_assoc, s_bindN, asI_i, asB_b, asS_s, asP_p, asPS_p, asSl_sl, s_agg, s_tup, s_fn, joinB, joinI, joinR, beq_true, beq_false, Bool.not_true, Bool.not_false, Bool.not_not, cond_true, cond_false, neI, s_mapS, bindS_inl, bindS_inr, Bool.and_true, Bool.true_and, Bool.and_false, Bool.false_and, s_isNoneS, s_isNoneN, s_ref, s_adv, s_ldf, s_ld, s_ldM, s_st, s_stM, s_bs, s_bn, s_pp, bump_blk, bump_next, put_next, splice_z, splice_zz, splice_s, s_decT, s_decF, s_eqT, s_eqF, s_i64, s_u64, s_u8, Int.toNat_natCast, Nat.zero_add, s_room, s_chkT, s_rdSl, s_wrSl, s_ldN, s_ldNM, s_ldNf, List.drop_zero, List.take_succ_cons, List.take_zero, List.take_nil, List.take_length, Nat.mul_one, List.flatten_cons, List.flatten_nil, List.append_nil, List.nil_append, List.cons_append]
    have hIl : K + (I.length - (K + 1)) = (I.take K ++ I.drop (K + 1)).length := by rw [List.length_append, List.length_take, List.length_drop]; omega
    have hIl2 : (I.take K ++ I.drop (K + 1)).length = I.length - 1 := by omega
    rw [← List.map_append, hIl] at s2
    rw [cg, lg] at l2
    rw [hIl, lg]
    have ext6 : Ext σ3 σ6 := ⟨by omega, fun b hb => (s4 b (by omega) (fun hm => by have := m5 b hm; omega)).trans ((m4 b (by omega) (by simp [SA.bk]; omega)).trans (o4 b (by omega)))⟩
    have chg6 : Chg (SA.bk ag) σ1 σ6 := ⟨by have := ext6.next; omega, fun b hb hm => (ext6.blk b (by omega)).trans ((l4 b (by omega) hm).trans (o2 b (by omega)))⟩
    have h6 : HanAt σ6 hb pb mb M1 P1 (C.eraseIdx d) w1 (SA.bk a3 ++ SA.bk a1) := p3.turn chg6 (fun b hb => .inl (List.mem_append_right _ hb)) fun b hb => by
      rcases List.mem_append.1 hb with hb | hb
      · have := s5 b hb; exact .inr (by omega)
      · have := l5 b hb; exact .inr (by omega)
    have hdl := (List.getElem?_eq_some_iff.1 p2).1
    refine Ok_some.2 ⟨σ6, M1, P1, _, w1, a3, a1, _, _, rfl, ⟨h6, s2, l2.of ext6.next fun b hb => ext6.blk b (by have := l5 b hb; omega), fun b hb hb2 => by have := s5 b hb; have := l5 b hb2; omega, h.st.drop hp p8 p9, ?_, by omega, by simp; omega, by have := h.e; omega, by have := h.room; omega, fun j t g' x' hv' => ?_, by omega, by omega⟩⟩
    · rw [List.length_eraseIdx, if_pos hdl, h.cl, hIl2]
    · by_cases cj : j = i
      · obtain ⟨z, hz⟩ := p8
        rw [cj, hz] at hv'
        simp only [Option.some.injEq, Prod.mk.injEq] at hv'
        omega
      · rw [p9 j cj] at hv'
        have := h.gen _ _ _ _ hv'; omega
  · rintro _ ⟨σ', M', P', C', w', ai', ag', I', G', e, h'⟩
    cases e
    have hg' := h'.gl
    simp (config := { maxSteps := 2000000 }) -implicitDefEqProofs (disch := (first | omega | rfl | assumption | (simp only [put_next, bump_next, kill_next, List.length_cons, List.length_nil, List.mem_cons, List.not_mem_nil, or_false, not_false_eq_true]; first | omega | assumption))) only [Nat.reduceAdd, Nat.reduceMul, Nat.reduceLT, Int.reduceToNat, Int.reduceAdd, Int.reduceSub, Int.reduceMul, s_beq, List.length_cons, List.length_nil, List.getD_cons_zero, List.getD_cons_succ, List.getElem?_cons_zero, List.getElem?_cons_succ, Option.bind_some, Option.bind_assoc, s_bindN, asI_i, asB_b, asS_s, asP_p, asPS_p, asSl_sl, s_agg, s_tup, s_fn, joinB, joinI, joinR, beq_true, beq_false, Bool.not_true, Bool.not_false, Bool.not_not, cond_true, cond_false, neI, s_mapS, bindS_inl, bindS_inr, Bool.and_true, Bool.true_and, Bool.and_false, Bool.false_and, s_isNoneS, s_isNoneN, s_ref, s_adv, s_ldf, s_ld, s_ldM, s_st, s_stM, s_bs, s_bn, s_pp, bump_blk, bump_next, put_next, splice_z, splice_zz, splice_s, s_decT, s_decF, s_eqT, s_eqF, s_i64, s_u64, s_u8, Int.toNat_natCast, Nat.zero_add, s_room, s_chkT, s_rdSl, s_wrSl, s_ldN, s_ldNM, s_ldNf, List.drop_zero, List.take_succ_cons, List.take_zero, List.take_nil, List.take_length, Nat.mul_one, List.flatten_cons, List.flatten_nil, List.append_nil, List.nil_append, List.cons_append]
    refine Ok.bindS (Q := fun r => ∃ σ2 M2, r = .inl ([], σ2) ∧ StAt σ2 hb pb mb M2 P' C' w' ai' ag' I' G' (k + 1) (R + 20 + 6 * G'.length)) (stale_inner h' (by omega) (by omega)) ?_ (fun r h => by obtain ⟨_, _, e, _⟩ := h; cases e)
    rintro _ ⟨σ2, M2, e, h2⟩
    cases e
    simp (config := { maxSteps := 2000000 }) -implicitDefEqProofs (disch := (first | omega | rfl | assumption | (simp only [put_next, bump_next, kill_next, List.length_cons, List.length_nil, List.mem_cons, List.not_mem_nil, or_false, not_false_eq_true]; first | omega | assumption))) only [Nat.reduceAdd, Nat.reduceMul, Nat.reduceLT, Int.reduceToNat, Int.reduceAdd, Int.reduceSub, Int.reduceMul, s_beq, List.length_cons, List.length_nil, List.getD_cons_zero, List.getD_cons_succ, List.getElem?_cons_zero, List.getElem?_cons_succ, Option.bind_some, Option.bind_assoc, s_bindN, asI_i, asB_b, asS_s, asP_p, asPS_p, asSl_sl, s_agg, s_tup, s_fn, joinB, joinI, joinR, beq_true, beq_false, Bool.not_true, Bool.not_false, Bool.not_not, cond_true, cond_false, neI, s_mapS, bindS_inl, bindS_inr, Bool.and_true, Bool.true_and, Bool.and_false, Bool.false_and, s_isNoneS, s_isNoneN, s_ref, s_adv, s_ldf, s_ld, s_ldM, s_st, s_stM, s_bs, s_bn, s_pp, bump_blk, bump_next, put_next, splice_z, splice_zz, splice_s, s_decT, s_decF, s_eqT, s_eqF, s_i64, s_u64, s_u8, Int.toNat_natCast, Nat.zero_add, s_room, s_chkT, s_rdSl, s_wrSl, s_ldN, s_ldNM, s_ldNf, List.drop_zero, List.take_succ_cons, List.take_zero, List.take_nil, List.take_length, Nat.mul_one, List.flatten_cons, List.flatten_nil, List.append_nil, List.nil_append, List.cons_append]
    exact Ok_some.2 ⟨σ2, M2, P', C', w', ai', ag', I', G', by simp, { h2 with r := by have := h2.r; omega, wm := by have := h2.wm; omega }⟩
/-- one comes -/
theorem stale_add {so : SA} {n : Nat} {x : HOp} {b : Bid} {o : Nat} (hkn : k < n) (hk60 : k < 60) (hR : R ≤ 100000) (hso : so = .loc b o 4) (ld0 : ∀ σ : AH O, σ.ld b (o + k * 4) = some (.i .i64 x.kind)) (ld3 : ∀ σ : AH O, σ.ld b (o + k * 4 + 3) = some (.i .u64 x.w))
    (hc0 : x.kind = 0 ∨ I.length = 0) : Ok (law18_HandlesStale_L1 (so, n) handles_Handles__Drop (some (.n hb, 0)) handles_Handles__Add law18_has handles_Handles__Get handles_Handles__Set ([.sl ai I.length, .sl ag G.length, .i .i64 (k : Int)], σ)) fun r =>
      ∃ σ' M' P' C' w' ai' ag' I' G', r = .inl ([.sl ai' I'.length, .sl ag' G'.length, .i .i64 ((k + 1 : Nat) : Int)], σ') ∧ StAt σ' hb pb mb M' P' C' w' ai' ag' I' G' (k + 1) (R + 500) := by
  subst hso
  have hil := h.il
  have hgl := h.gl
  have hel := h.e
  have hrm := h.room
  have r0 := h.r
  have v0 := h.wm
  have hmore : P.more ≤ 160 := by
    have := h.h.p.p.made
    unfold PoolS.more; split <;> omega
  have hcond : (bif !(x.kind == 0) then decide ((I.length : Int) > 0) else false) = false := by
    rcases hc0 with c | c
    · rw [c]; rfl
    · rw [c]; cases (x.kind == 0) <;> rfl
  simp (config := { maxSteps := 2000000 }) -implicitDefEqProofs (disch := (first | omega | rfl | assumption | (simp only [put_next, bump_next, kill_next, List.length_cons, List.length_nil, List.mem_cons, List.not_mem_nil, or_false, not_false_eq_true]; first | omega | assumption))) only [law18_HandlesStale_L1, ld0, ld3, hcond, Nat.reduceAdd, Nat.reduceMul, Nat.reduceLT, Int.reduceToNat, Int.reduceAdd, Int.reduceSub, Int.reduceMul, s_beq, List.length_cons, List.length_nil, List.getD_cons_zero, List.getD_cons_succ, List.getElem?_cons_zero, List.getElem?_cons_succ, Option.bind_some, Option.bind_assoc, s_bindN, asI_i, asB_b, asS_s, asP_p, asPS_p, asSl_sl, s_agg, s_tup, s_fn, joinB, joinI, joinR, beq_true, beq_false, Bool.not_true, Bool.not_false, Bool.not_not, cond_true, cond_false, neI, s_mapS, bindS_inl, bindS_inr, Bool.and_true, Bool.true_and, Bool.and_false, Bool.false_and, s_isNoneS, s_isNoneN, s_ref, s_adv, s_ldf, s_ld, s_ldM, s_st, s_stM, s_bs, s_bn, s_pp, bump_blk, bump_next, put_next, splice_z, splice_zz, splice_s, s_decT, s_decF, s_eqT, s_eqF, s_i64, s_u64, s_u8, Int.toNat_natCast, Nat.zero_add, s_room, s_chkT, s_rdSl, s_wrSl, s_ldN, s_ldNM, s_ldNf, List.drop_zero, List.take_succ_cons, List.take_zero, List.take_nil, List.take_length, Nat.mul_one, List.flatten_cons, List.flatten_nil, List.append_nil, List.nil_append, List.cons_append]
  refine Ok.bindS (Q := fun r => ∃ σ' M' P' C' w' ai' ag' I' G', r = .inl ([.sl ai' I'.length, .sl ag' G'.length], σ') ∧ StAt σ' hb pb mb M' P' C' w' ai' ag' I' G' (k + 1) (R + 20)) ?_ ?_ (fun r h => by obtain ⟨_, _, _, _, _, _, _, _, _, e, _⟩ := h; cases e)
  · have hge : ∀ e ∈ P.E, e.gen < 4398046511103 := fun e he => by
      obtain ⟨j, hj⟩ := List.getElem?_of_mem he
      have := h.gen _ _ _ _ (vw_mk hj); omega
    refine Ok.step (hadd_ok h.h ⟨by omega, by omega⟩ (x := x.w) (by omega) (by omega) hge) fun r ⟨i, g, P1, p1, c, M1, w1, dr, dw, p2, p3, d1, d2, d3, p4⟩ => ?_
    obtain ⟨q, σ1⟩ := r
    simp only at p1 p2 p4
    subst p1
    have r1 := p3.r
    have v1 := p3.w
    have nx1 := p4.next
    have l1 := c.len
    have hi := vw_lt c.now
    obtain ⟨f1, f2, f3⟩ := h.st.came c
    have hgk : g ≤ k := by
      rcases c.was with ⟨_, e⟩ | ⟨y, e⟩
      · omega
      · exact h.gen _ _ _ _ e
    have oi1 : OwnS σ1 3 1 ai I.length (I.map tc) := h.oi.of nx1 fun b hb => p4.blk b (by simp [hb])
    have og1 : OwnS σ1 3 1 ag G.length (G.map tc) := h.og.of nx1 fun b hb => p4.blk b (by simp [hb])
    have e0 : ((0 : Int) != 0) = false := rfl
    have t0 : decide (tok i g < 0) = false := decide_eq_false (by unfold tok; omega)
    have hasI := has_ok (t := tok i g) oi1.rd (fun p hp e => by
      obtain ⟨z, hz⟩ := h.st.inn p hp
      have := vw_lt hz
      exact f1 p hp (tok_inj (by omega) (by omega) e).1) (by omega)
    have hasG := has_ok (t := tok i g) og1.rd (fun p hp e => by
      obtain ⟨_, _, z, hz, _⟩ := h.st.gone p hp
      have := vw_lt hz
      obtain ⟨u1, u2⟩ := tok_inj (by omega) (by omega) e
      have := f2 p hp u1; omega) (by omega)
    simp (config := { maxSteps := 2000000 }) -implicitDefEqProofs (disch := (first | omega | rfl | assumption | (simp only [put_next, bump_next, kill_next, List.length_cons, List.length_nil, List.mem_cons, List.not_mem_nil, or_false, not_false_eq_true]; first | omega | assumption))) only [e0, t0, hasI, hasG, Nat.reduceAdd, Nat.reduceMul, Nat.reduceLT, Int.reduceToNat, Int.reduceAdd, Int.reduceSub, Int.reduceMul, s_beq, List.length_cons, List.length_nil, List.getD_cons_zero, List.getD_cons_succ, List.getElem?_cons_zero, List.getElem?_cons_succ, Option.bind_some, Option.bind_assoc, s_bindN, asI_i, asB_b, asS_s, asP_p, asPS_p, asSl_sl, s_agg, s_tup, s_fn, joinB, joinI, joinR, beq_true, beq_false, Bool.not_true, Bool.not_false, Bool.not_not, cond_true, cond_false, neI, s_mapS, bindS_inl, bindS_inr, Bool.and_true, Bool.true_and, Bool.and_false, Bool.false_and, s_isNoneS, s_isNoneN, s_ref, s_adv, s_ldf, s_ld, s_ldM, s_st, s_stM, s_bs, s_bn, s_pp, bump_blk, bump_next, put_next, splice_z, splice_zz, splice_s, s_decT, s_decF, s_eqT, s_eqF, s_i64, s_u64, s_u8, Int.toNat_natCast, Nat.zero_add, s_room, s_chkT, s_rdSl, s_wrSl, s_ldN, s_ldNM, s_ldNf, List.drop_zero, List.take_succ_cons, List.take_zero, List.take_nil, List.take_length, Nat.mul_one, List.flatten_cons, List.flatten_nil, List.append_nil, List.nil_append, List.cons_append]
    generalize hσ : (σ1.bump 2).put σ1.next (.cells true _ _) = σ2
    have n2 : σ2.next = σ1.next + 2 := by rw [← hσ]; rfl
    have o2 : ∀ b, b ≠ σ1.next → σ2.blk b = σ1.blk b := fun b hb => by rw [← hσ]; exact s_bn hb
    clear hσ
    have oi2 : OwnS σ2 3 1 ai I.length (I.map tc) := oi1.of (by omega) fun b hb => o2 b (by have := oi1.lt b hb; omega)
    refine Ok.step (app_ok (nid := σ1.next + 1) oi2 (fun hm => by have := oi1.lt _ hm; omega) (by omega) (show [AV.i .i64 (tok i g)].length = 1 * 1 from rfl)) fun q ⟨a2, l1, l2, l3, l4, l5⟩ => ?_
    obtain ⟨q, σ3⟩ := q
    simp only at l1 l2 l3 l4
    subst l1
    simp (config := { maxSteps := 2000000 }) -implicitDefEqProofs (disch := (first | omega | rfl | assumption | (simp only [put_next, bump_next, kill_next, List.length_cons, List.length_nil, List.mem_cons, List.not_mem_nil, or_false, not_false_eq_true]; first | omega | assumption))) only [Nat.reduceAdd, Nat.reduceMul, Nat.reduceLT, Int.reduceToNat, Int.reduceAdd, Int.reduceSub, Int.reduceMul, s_beq, List.length_cons, List.length_nil, List.getD_cons_zero, List.getD_cons_succ, List.getElem?_cons_zero, List.getElem?_cons_succ, Option.bind_some, Option.bind_assoc, s_bindN, asI_i, asB_b, asS_s, asP_p, asPS_p, asSl_sl, s_agg, s_tup, s_fn, joinB, joinI, joinR, beq_true, beq_false, Bool.not_true, Bool.not_false, Bool.not_not, cond_true, cond_false, neI, s_mapS, bindS_inl, bindS_inr, Bool.and_true, Bool.true_and, Bool.and_false, Bool.false_and, s_isNoneS, s_isNoneN, s_ref, s_adv, s_ldf, s_ld, s_ldM, s_st, s_stM, s_bs, s_bn, s_pp, bump_blk, bump_next, put_next, splice_z, splice_zz, splice_s, s_decT, s_decF, s_eqT, s_eqF, s_i64, s_u64, s_u8, Int.toNat_natCast, Nat.zero_add, s_room, s_chkT, s_rdSl, s_wrSl, s_ldN, s_ldNM, s_ldNf, List.drop_zero, List.take_succ_cons, List.take_zero, List.take_nil, List.take_length, Nat.mul_one, List.flatten_cons, List.flatten_nil, List.append_nil, List.nil_append, List.cons_append]
    have ci : I.map tc ++ [.i .i64 (tok i g)] = (I ++ [(i, g)]).map tc := by simp [tc]
    rw [ci] at l2
    have li : I.length + 1 = (I ++ [(i, g)]).length := by simp
    rw [li] at l2 ⊢
    have og3 : OwnS σ3 3 1 ag G.length (G.map tc) := og1.of (by omega) fun b hb => by
      have := og1.lt b hb
      exact (l4 b (by omega) (fun hm => h.ap b hm hb)).trans (o2 b (by omega))
    have chg3 : Chg (SA.bk ai) σ1 σ3 := ⟨by omega, fun b hb hm => by rw [l4 b (by omega) hm, o2 b (by omega)]⟩
    have h3 : HanAt σ3 hb pb mb M1 P1 (C ++ [i]) w1 (SA.bk a2 ++ SA.bk ag) := p2.turn chg3 (fun b hb => .inl (List.mem_append_left _ hb)) fun b hb => by
      rcases List.mem_append.1 hb with hb | hb
      · have := l5 b hb; exact .inr (by omega)
      · exact .inl (List.mem_append_right _ hb)
    refine Ok_some.2 ⟨σ3, M1, P1, _, w1, a2, ag, I ++ [(i, g)], G, rfl, ⟨h3, l2, og3, fun b hb hb2 => by have := l5 b hb; have := og1.lt b hb2; omega, f3, by simp [h.cl], by simp; omega, by omega, by omega, ?_, fun j t g' x' hv => ?_, by omega, by omega⟩⟩
    · rcases c.room with e | e <;> omega
    · by_cases cj : j = i
      · rw [cj, c.now] at hv
        simp only [Option.some.injEq, Prod.mk.injEq] at hv
        omega
      · rw [c.other j cj] at hv
        have := h.gen _ _ _ _ hv; omega
  · rintro _ ⟨σ', M', P', C', w', ai', ag', I', G', e, h'⟩
    cases e
    have hg' := h'.gl
    simp (config := { maxSteps := 2000000 }) -implicitDefEqProofs (disch := (first | omega | rfl | assumption | (simp only [put_next, bump_next, kill_next, List.length_cons, List.length_nil, List.mem_cons, List.not_mem_nil, or_false, not_false_eq_true]; first | omega | assumption))) only [Nat.reduceAdd, Nat.reduceMul, Nat.reduceLT, Int.reduceToNat, Int.reduceAdd, Int.reduceSub, Int.reduceMul, s_beq, List.length_cons, List.length_nil, List.getD_cons_zero, List.getD_cons_succ, List.getElem?_cons_zero, List.getElem?_cons_succ, Option.bind_some, Option.bind_assoc, s_bindN, asI_i, asB_b, asS_s, asP_p, asPS_p, asSl_sl, s_agg, s_tup, s_fn, joinB, joinI, joinR, beq_true, beq_false, Bool.not_true, Bool.not_false, Bool.not_not, cond_true, cond_false, neI, s_mapS, bindS_inl, bindS_inr, Bool.and_true, Bool.true_and, Bool.and_false, Bool.false_and, s_isNoneS, s_isNoneN, s_ref, s_adv, s_ldf, s_ld, s_ldM, s_st, s_stM, s_bs, s_bn, s_pp, bump_blk, bump_next, put_next, splice_z, splice_zz, splice_s, s_decT, s_decF, s_eqT, s_eqF, s_i64, s_u64, s_u8, Int.toNat_natCast, Nat.zero_add, s_room, s_chkT, s_rdSl, s_wrSl, s_ldN, s_ldNM, s_ldNf, List.drop_zero, List.take_succ_cons, List.take_zero, List.take_nil, List.take_length, Nat.mul_one, List.flatten_cons, List.flatten_nil, List.append_nil, List.nil_append, List.cons_append]
    refine Ok.bindS (Q := fun r => ∃ σ2 M2, r = .inl ([], σ2) ∧ StAt σ2 hb pb mb M2 P' C' w' ai' ag' I' G' (k + 1) (R + 20 + 6 * G'.length)) (stale_inner h' (by omega) (by omega)) ?_ (fun r h => by obtain ⟨_, _, e, _⟩ := h; cases e)
    rintro _ ⟨σ2, M2, e, h2⟩
    cases e
    simp (config := { maxSteps := 2000000 }) -implicitDefEqProofs (disch := (first | omega | rfl | assumption | (simp only [put_next, bump_next, kill_next, List.length_cons, List.length_nil, List.mem_cons, List.not_mem_nil, or_false, not_false_eq_true]; first | omega | assumption))) only [Nat.reduceAdd, Nat.reduceMul, Nat.reduceLT, Int.reduceToNat, Int.reduceAdd, Int.reduceSub, Int.reduceMul, s_beq, List.length_cons, List.length_nil, List.getD_cons_zero, List.getD_cons_succ, List.getElem?_cons_zero, List.getElem?_cons_succ, Option.bind_some, Option.bind_assoc, s_bindN, asI_i, asB_b, asS_s, asP_p, asPS_p, asSl_sl, s_agg, s_tup, s_fn, joinB, joinI, joinR, beq_true, beq_false, Bool.not_true, Bool.not_false, Bool.not_not, cond_true, cond_false, neI, s_mapS, bindS_inl, bindS_inr, Bool.and_true, Bool.true_and, Bool.and_false, Bool.false_and, s_isNoneS, s_isNoneN, s_ref, s_adv, s_ldf, s_ld, s_ldM, s_st, s_stM, s_bs, s_bn, s_pp, bump_blk, bump_next, put_next, splice_z, splice_zz, splice_s, s_decT, s_decF, s_eqT, s_eqF, s_i64, s_u64, s_u8, Int.toNat_natCast, Nat.zero_add, s_room, s_chkT, s_rdSl, s_wrSl, s_ldN, s_ldNM, s_ldNf, List.drop_zero, List.take_succ_cons, List.take_zero, List.take_nil, List.take_length, Nat.mul_one, List.flatten_cons, List.flatten_nil, List.append_nil, List.nil_append, List.cons_append]
    exact Ok_some.2 ⟨σ2, M2, P', C', w', ai', ag', I', G', by simp, { h2 with r := by have := h2.r; omega, wm := by have := h2.wm; omega }⟩
end
structure HOp.rng (o : HOp) : Prop where
  id : -9223372036854775808 ≤ o.id ∧ o.id ≤ 9223372036854775807
theorem handlesStale_ok {σ : AH O} {so : SA} {ops : List HOp} (hj : Imm 4 so ops.length (ops.flatMap HOp.cells)) (hr : ∀ o ∈ ops, o.rng) : Ok (law18_HandlesStale [.sl so ops.length] σ) fun r => r.1 = .b true := by
  simp (config := { maxSteps := 2000000 }) -implicitDefEqProofs (disch := (first | omega | rfl | assumption | (simp only [put_next, bump_next, kill_next, List.length_cons, List.length_nil, List.mem_cons, List.not_mem_nil, or_false, not_false_eq_true]; first | omega | assumption))) only [law18_HandlesStale, law18_HandlesStale_c, Nat.reduceAdd, Nat.reduceMul, Nat.reduceLT, Int.reduceToNat, Int.reduceAdd, Int.reduceSub, Int.reduceMul, s_beq, List.length_cons, List.length_nil, List.getD_cons_zero, List.getD_cons_succ, List.getElem?_cons_zero, List.getElem?_cons_succ, Option.bind_some, Option.bind_assoc, s_bindN, asI_i, asB_b, asS_s, asP_p, asPS_p, asSl_sl, s_agg, s_tup, s_fn, joinB, joinI, joinR, beq_true, beq_false, Bool.not_true, Bool.not_false, Bool.not_not, cond_true, cond_false, neI, s_mapS, bindS_inl, bindS_inr, Bool.and_true, Bool.true_and, Bool.and_false, Bool.false_and, s_isNoneS, s_isNoneN, s_ref, s_adv, s_ldf, s_ld, s_ldM, s_st, s_stM, s_bs, s_bn, s_pp, bump_blk, bump_next, put_next, splice_z, splice_zz, splice_s, s_decT, s_decF, s_eqT, s_eqF, s_i64, s_u64, s_u8, Int.toNat_natCast, Nat.zero_add, s_room, s_chkT, s_rdSl, s_wrSl, s_ldN, s_ldNM, s_ldNf, List.drop_zero, List.take_succ_cons, List.take_zero, List.take_nil, List.take_length, Nat.mul_one, List.flatten_cons, List.flatten_nil, List.append_nil, List.nil_append, List.cons_append]
  refine Ok.step awake18_ok fun r g1 => ?_
  obtain ⟨q, σ1⟩ := r
  simp only at g1
  subst g1
  by_cases hbig : (ops.length : Int) > 60
  · simp (config := { maxSteps := 2000000 }) -implicitDefEqProofs (disch := (first | omega | rfl | assumption | (simp only [put_next, bump_next, kill_next, List.length_cons, List.length_nil, List.mem_cons, List.not_mem_nil, or_false, not_false_eq_true]; first | omega | assumption))) only [Nat.reduceAdd, Nat.reduceMul, Nat.reduceLT, Int.reduceToNat, Int.reduceAdd, Int.reduceSub, Int.reduceMul, s_beq, List.length_cons, List.length_nil, List.getD_cons_zero, List.getD_cons_succ, List.getElem?_cons_zero, List.getElem?_cons_succ, Option.bind_some, Option.bind_assoc, s_bindN, asI_i, asB_b, asS_s, asP_p, asPS_p, asSl_sl, s_agg, s_tup, s_fn, joinB, joinI, joinR, beq_true, beq_false, Bool.not_true, Bool.not_false, Bool.not_not, cond_true, cond_false, neI, s_mapS, bindS_inl, bindS_inr, Bool.and_true, Bool.true_and, Bool.and_false, Bool.false_and, s_isNoneS, s_isNoneN, s_ref, s_adv, s_ldf, s_ld, s_ldM, s_st, s_stM, s_bs, s_bn, s_pp, bump_blk, bump_next, put_next, splice_z, splice_zz, splice_s, s_decT, s_decF, s_eqT, s_eqF, s_i64, s_u64, s_u8, Int.toNat_natCast, Nat.zero_add, s_room, s_chkT, s_rdSl, s_wrSl, s_ldN, s_ldNM, s_ldNf, List.drop_zero, List.take_succ_cons, List.take_zero, List.take_nil, List.take_length, Nat.mul_one, List.flatten_cons, List.flatten_nil, List.append_nil, List.nil_append, List.cons_append]
    exact Ok_some.2 rfl
  have hnn := hnew_nil (σ := σ1)
  simp (config := { maxSteps := 2000000 }) -implicitDefEqProofs (disch := (first | omega | rfl | assumption | (simp only [put_next, bump_next, kill_next, List.length_cons, List.length_nil, List.mem_cons, List.not_mem_nil, or_false, not_false_eq_true]; first | omega | assumption))) only [hnn, Nat.reduceAdd, Nat.reduceMul, Nat.reduceLT, Int.reduceToNat, Int.reduceAdd, Int.reduceSub, Int.reduceMul, s_beq, List.length_cons, List.length_nil, List.getD_cons_zero, List.getD_cons_succ, List.getElem?_cons_zero, List.getElem?_cons_succ, Option.bind_some, Option.bind_assoc, s_bindN, asI_i, asB_b, asS_s, asP_p, asPS_p, asSl_sl, s_agg, s_tup, s_fn, joinB, joinI, joinR, beq_true, beq_false, Bool.not_true, Bool.not_false, Bool.not_not, cond_true, cond_false, neI, s_mapS, bindS_inl, bindS_inr, Bool.and_true, Bool.true_and, Bool.and_false, Bool.false_and, s_isNoneS, s_isNoneN, s_ref, s_adv, s_ldf, s_ld, s_ldM, s_st, s_stM, s_bs, s_bn, s_pp, bump_blk, bump_next, put_next, splice_z, splice_zz, splice_s, s_decT, s_decF, s_eqT, s_eqF, s_i64, s_u64, s_u8, Int.toNat_natCast, Nat.zero_add, s_room, s_chkT, s_rdSl, s_wrSl, s_ldN, s_ldNM, s_ldNf, List.drop_zero, List.take_succ_cons, List.take_zero, List.take_nil, List.take_length, Nat.mul_one, List.flatten_cons, List.flatten_nil, List.append_nil, List.nil_append, List.cons_append]
  refine Ok.step made18_ok fun r ⟨mb, hb, pb, M, id, g1, g2, g3, g4, g5⟩ => ?_
  obtain ⟨q, σ2⟩ := r
  simp only at g1 g2
  subst g1
  have e1 : ((1 : Int) != 1) = false := rfl
  simp (config := { maxSteps := 2000000 }) -implicitDefEqProofs (disch := (first | omega | rfl | assumption | (simp only [put_next, bump_next, kill_next, List.length_cons, List.length_nil, List.mem_cons, List.not_mem_nil, or_false, not_false_eq_true]; first | omega | assumption))) only [e1, Nat.reduceAdd, Nat.reduceMul, Nat.reduceLT, Int.reduceToNat, Int.reduceAdd, Int.reduceSub, Int.reduceMul, s_beq, List.length_cons, List.length_nil, List.getD_cons_zero, List.getD_cons_succ, List.getElem?_cons_zero, List.getElem?_cons_succ, Option.bind_some, Option.bind_assoc, s_bindN, asI_i, asB_b, asS_s, asP_p, asPS_p, asSl_sl, s_agg, s_tup, s_fn, joinB, joinI, joinR, beq_true, beq_false, Bool.not_true, Bool.not_false, Bool.not_not, cond_true, cond_false, neI, s_mapS, bindS_inl, bindS_inr, Bool.and_true, Bool.true_and, Bool.and_false, Bool.false_and, s_isNoneS, s_isNoneN, s_ref, s_adv, s_ldf, s_ld, s_ldM, s_st, s_stM, s_bs, s_bn, s_pp, bump_blk, bump_next, put_next, splice_z, splice_zz, splice_s, s_decT, s_decF, s_eqT, s_eqF, s_i64, s_u64, s_u8, Int.toNat_natCast, Nat.zero_add, s_room, s_chkT, s_rdSl, s_wrSl, s_ldN, s_ldNM, s_ldNf, List.drop_zero, List.take_succ_cons, List.take_zero, List.take_nil, List.take_length, Nat.mul_one, List.flatten_cons, List.flatten_nil, List.append_nil, List.nil_append, List.cons_append]
  refine Ok.bindS (Q := fun r => ∃ σ' M P C w ai ag I G k, r = .inl ([.sl ai I.length], σ') ∧ StAt σ' hb pb mb M P C w ai ag I G k (500 * k)) ?_ ?_ (fun r h => by obtain ⟨_, _, _, _, _, _, _, _, _, _, e, _⟩ := h; cases e)
  · refine Ok.count ops.length (fun k s => ∃ σ' M P C w ai ag I G, s = ([.sl ai I.length, .sl ag G.length, .i .i64 (k : Int)], σ') ∧ StAt σ' hb pb mb M P C w ai ag I G k (500 * k)) ?_ ?_ ⟨σ2, M, _, _, _, .nil, .nil, [], [], rfl, g2, OwnS.nil _ _ _, OwnS.nil _ _ _, by simp [SA.bk], ⟨by simp, by simp, by simp⟩, rfl, by simp, by simp, by simp, by simp, by simp [vw], by omega, by omega⟩
    · rintro k s hk ⟨σ', M, P, C, w, ai, ag, I, G, rfl, h⟩
      have hx := List.getElem?_eq_getElem hk
      have hxr := hr _ (List.mem_of_getElem? hx)
      generalize ops[k] = x at hx hxr
      obtain ⟨b, o, e, hld⟩ := Imm.row HOp.len hj hx (by omega)
      have ld0 : ∀ σ : AH O, σ.ld b (o + k * 4) = some (.i .i64 x.kind) := fun σ => hld O σ 0 (by omega)
      have ld1 : ∀ σ : AH O, σ.ld b (o + k * 4 + 1) = some (.i .i64 x.id) := fun σ => hld O σ 1 (by omega)
      have ld3 : ∀ σ : AH O, σ.ld b (o + k * 4 + 3) = some (.i .u64 x.w) := fun σ => hld O σ 3 (by omega)
      have e5 : 500 * (k + 1) = 500 * k + 500 := rfl
      by_cases c : x.kind = 0 ∨ I.length = 0
      · refine (stale_add h (by omega) hk (by omega) (by omega) e ld0 ld3 c).mono ?_
        rintro _ ⟨σ', M', P', C', w', ai', ag', I', G', rfl, h'⟩
        exact ⟨σ', M', P', C', w', ai', ag', I', G', rfl, h'⟩
      · refine (stale_drop h (by omega) hxr.id hk (by omega) (by omega) e ld0 ld1 (fun e => c (.inl e)) (fun e => c (.inr e))).mono ?_
        rintro _ ⟨σ', M', P', C', w', ai', ag', I', G', rfl, h'⟩
        exact ⟨σ', M', P', C', w', ai', ag', I', G', rfl, h'⟩
    · rintro s ⟨σ', M, P, C, w, ai, ag, I, G, rfl, h⟩
      simp (config := { maxSteps := 2000000 }) -implicitDefEqProofs (disch := (first | omega | rfl | assumption | (simp only [put_next, bump_next, kill_next, List.length_cons, List.length_nil, List.mem_cons, List.not_mem_nil, or_false, not_false_eq_true]; first | omega | assumption))) only [law18_HandlesStale_L1, Nat.reduceAdd, Nat.reduceMul, Nat.reduceLT, Int.reduceToNat, Int.reduceAdd, Int.reduceSub, Int.reduceMul, s_beq, List.length_cons, List.length_nil, List.getD_cons_zero, List.getD_cons_succ, List.getElem?_cons_zero, List.getElem?_cons_succ, Option.bind_some, Option.bind_assoc, s_bindN, asI_i, asB_b, asS_s, asP_p, asPS_p, asSl_sl, s_agg, s_tup, s_fn, joinB, joinI, joinR, beq_true, beq_false, Bool.not_true, Bool.not_false, Bool.not_not, cond_true, cond_false, neI, s_mapS, bindS_inl, bindS_inr, Bool.and_true, Bool.true_and, Bool.and_false, Bool.false_and, s_isNoneS, s_isNoneN, s_ref, s_adv, s_ldf, s_ld, s_ldM, s_st, s_stM, s_bs, s_bn, s_pp, bump_blk, bump_next, put_next, splice_z, splice_zz, splice_s, s_decT, s_decF, s_eqT, s_eqF, s_i64, s_u64, s_u8, Int.toNat_natCast, Nat.zero_add, s_room, s_chkT, s_rdSl, s_wrSl, s_ldN, s_ldNM, s_ldNf, List.drop_zero, List.take_succ_cons, List.take_zero, List.take_nil, List.take_length, Nat.mul_one, List.flatten_cons, List.flatten_nil, List.append_nil, List.nil_append, List.cons_append]
      exact Ok_some.2 ⟨σ', M, P, C, w, ai, ag, I, G, _, rfl, h⟩
  rintro _ ⟨σ', M, P, C, w, ai, ag, I, G, k, e, h⟩
  cases e
  have ct := hcount_ok h.h
  rw [h.cl] at ct
  have e1 : ((I.length : Int) == (I.length : Int)) = true := by simp
  simp (config := { maxSteps := 2000000 }) -implicitDefEqProofs (disch := (first | omega | rfl | assumption | (simp only [put_next, bump_next, kill_next, List.length_cons, List.length_nil, List.mem_cons, List.not_mem_nil, or_false, not_false_eq_true]; first | omega | assumption))) only [ct, e1, Nat.reduceAdd, Nat.reduceMul, Nat.reduceLT, Int.reduceToNat, Int.reduceAdd, Int.reduceSub, Int.reduceMul, s_beq, List.length_cons, List.length_nil, List.getD_cons_zero, List.getD_cons_succ, List.getElem?_cons_zero, List.getElem?_cons_succ, Option.bind_some, Option.bind_assoc, s_bindN, asI_i, asB_b, asS_s, asP_p, asPS_p, asSl_sl, s_agg, s_tup, s_fn, joinB, joinI, joinR, beq_true, beq_false, Bool.not_true, Bool.not_false, Bool.not_not, cond_true, cond_false, neI, s_mapS, bindS_inl, bindS_inr, Bool.and_true, Bool.true_and, Bool.and_false, Bool.false_and, s_isNoneS, s_isNoneN, s_ref, s_adv, s_ldf, s_ld, s_ldM, s_st, s_stM, s_bs, s_bn, s_pp, bump_blk, bump_next, put_next, splice_z, splice_zz, splice_s, s_decT, s_decF, s_eqT, s_eqF, s_i64, s_u64, s_u8, Int.toNat_natCast, Nat.zero_add, s_room, s_chkT, s_rdSl, s_wrSl, s_ldN, s_ldNM, s_ldNf, List.drop_zero, List.take_succ_cons, List.take_zero, List.take_nil, List.take_length, Nat.mul_one, List.flatten_cons, List.flatten_nil, List.append_nil, List.nil_append, List.cons_append]
  exact Ok_some.2 rfl
theorem hopsOf {sa : SA} {els : List (List AV)} (hrow : ∀ el ∈ els, el.length = 4 ∧ ∀ (i : Nat) (k : Option IntKind) (v : AV), ([some .i64, some .i64, none, some .u64] : List (Option IntKind))[i]? = some k → el[i]? = some v → FldIs k v)
    (himm : Imm 4 sa els.length els.flatten) : ∃ ops : List HOp, els.length = ops.length ∧ Imm 4 sa ops.length (ops.flatMap HOp.cells) ∧ ∀ o ∈ ops, o.rng := by
  have : ∃ ops : List HOp, els = ops.map HOp.cells ∧ ∀ o ∈ ops, o.rng := by
    clear himm
    induction els with
    | nil => exact ⟨[], rfl, by simp⟩
    | cons el els ih =>
      obtain ⟨ops, e, hr⟩ := ih fun x hx => hrow x (List.mem_cons_of_mem _ hx)
      obtain ⟨hl, hn⟩ := hrow el List.mem_cons_self
      match el, hl with
      | [a, b, c, d], _ =>
        obtain ⟨a, rfl, _⟩ := hn 0 _ _ rfl rfl
        obtain ⟨b, rfl, hb⟩ := hn 1 _ _ rfl rfl
        obtain ⟨c, rfl⟩ := hn 2 _ _ rfl rfl
        obtain ⟨d, rfl, _⟩ := hn 3 _ _ rfl rfl
        refine ⟨⟨a, b, c, d⟩ :: ops, by rw [e]; rfl, fun o ho => ?_⟩
        rcases List.mem_cons.1 ho with rfl | ho
        · exact ⟨hb⟩
        · exact hr o ho
  obtain ⟨ops, rfl, hr⟩ := this
  exact ⟨ops, by simp, by simpa [List.flatMap_def] using himm, hr⟩
end Go.Abs.Try
