/-
  The statement MemCloses: what is run returns true. No conditions.
-/
import Derived.Test.YtjfblnpolgoojaaM8e
set_option linter.unusedVariables false
set_option linter.unusedSimpArgs false
set_option linter.constructorNameAsVariable false
set_option linter.unusedSimpArgs false
set_option linter.unusedVariables false
set_option maxHeartbeats 1000000
namespace Go.Abs.Try
open Go Go.Abs
variable {O : Type}

def zsp (zs : List Int) : List (Bool × List Int) := zs.map fun z => (true, List.replicate z.toNat 0)
def isum : List Int → Int
  | [] => 0
  | z :: l => z + isum l
theorem isum_snoc : ∀ (zs : List Int) (z : Int), isum (zs ++ [z]) = isum zs + z
  | [], z => by simp [isum]
  | y :: l, z => by simp only [List.cons_append, isum, isum_snoc l z]; omega
theorem isum_nn : ∀ {zs : List Int}, (∀ z ∈ zs, 0 ≤ z) → 0 ≤ isum zs
  | [], _ => by decide
  | y :: l, h => by
    have := isum_nn (zs := l) fun z hz => h z (List.mem_cons_of_mem _ hz)
    have := h y List.mem_cons_self
    simp only [isum]; omega
theorem isum_le : ∀ {zs : List Int}, (∀ z ∈ zs, z < 256) → isum zs ≤ zs.length * 256
  | [], _ => by decide
  | y :: l, h => by
    have := isum_le (zs := l) fun z hz => h z (List.mem_cons_of_mem _ hz)
    have := h y List.mem_cons_self
    simp only [isum, List.length_cons]; omega
/-- behind so many Opens -/
def opened (zs : List Int) : MemS := ⟨⟨0, 0, isum zs, isum zs⟩, zsp zs, zs.length, zs.length⟩
theorem zsp_free {zs : List Int} {i : Nat} (h : Free (zsp zs) i) : i = zs.length := by
  refine h.uniq ⟨by simp [zsp], fun j hj => ⟨_, by rw [zsp, List.getElem?_map, List.getElem?_eq_getElem hj]; rfl⟩, fun s hs => ?_⟩
  have := (List.getElem?_eq_some_iff.1 hs).1
  simp [zsp] at this
theorem opened_opn {zs : List Int} {z : Int} (h : ∀ y ∈ zs, 0 ≤ y) (hz : 0 ≤ z) : (opened zs).opn zs.length z = opened (zs ++ [z]) := by
  have hp : putAt (zsp zs) zs.length (true, List.replicate z.toNat 0) = zsp (zs ++ [z]) := by
    unfold putAt
    rw [if_neg (by simp [zsp])]
    simp [zsp]
  have := isum_nn h
  simp only [opened, MemS.opn, Met.hold, hp, isum_snoc, List.length_append, List.length_cons, List.length_nil]
  rw [Int.max_eq_right (by omega)]
  simp
/-- a turn of the numbers below n -/
theorem turn_ne {n t i j : Nat} (hj : j < i) (hi : i < n) : (j + t) % n ≠ (i + t) % n := fun e => by
  have h1 := Nat.sub_mod_eq_zero_of_mod_eq e.symm
  have h2 : i + t - (j + t) = i - j := by omega
  rw [h2] at h1
  have := Nat.le_of_dvd (by omega) (Nat.dvd_of_mod_eq_zero h1)
  omega
theorem turn_all {n t q : Nat} (hq : q < n) : ∃ j, j < n ∧ (j + t) % n = q := by
  refine ⟨(q + n - t % n) % n, Nat.mod_lt _ (by omega), ?_⟩
  rw [Nat.mod_add_mod]
  have h1 := Nat.mod_add_div t n
  have h2 := Nat.mod_lt t (show 0 < n by omega)
  have h3 : q + n - t % n + t = q + n * (1 + t / n) := by rw [Nat.mul_add, Nat.mul_one]; omega
  rw [h3, Nat.add_mul_mod_self_left, Nat.mod_eq_of_lt hq]

structure Closing (n t i : Nat) (S : Int) (zs : List Int) (M : MemS) : Prop where
  ok : M.ok
  r : M.met.r = 0
  w : M.met.w = 0
  high : M.met.high = S
  len : M.sp.length = n
  shut : ∀ j, j < i → M.sp[(j + t) % n]? = some (false, [])
  op : ∀ q, q < n → (∀ j, j < i → (j + t) % n ≠ q) → ∃ w, M.sp[q]? = some (true, w)
theorem Closing.next {n t i : Nat} {S : Int} {zs : List Int} {M : MemS} (h : Closing n t i S zs M) (hi : i < n) {w : List Int} (hw : M.sp[(i + t) % n]? = some (true, w)) : Closing n t (i + 1) S zs (M.close ((i + t) % n) w) := by
  have hlt := Nat.mod_lt (i + t) (show 0 < n by omega)
  refine ⟨MemS.close_okS h.ok hw, h.r, h.w, h.high, by simp only [MemS.close, List.length_set]; exact h.len, fun j hj => ?_, fun q hq hne => ?_⟩
  · simp only [MemS.close, List.getElem?_set]
    by_cases hji : j = i
    · subst hji; rw [if_pos rfl, if_pos (by rw [h.len]; exact hlt)]
    · rw [if_neg (fun e => turn_ne (show j < i by omega) hi e.symm)]
      exact h.shut j (by omega)
  · simp only [MemS.close, List.getElem?_set]
    rw [if_neg (hne i (by omega))]
    exact h.op q hq fun j hj => hne j (by omega)
/-- all is shut -/
theorem Closing.fin {n t : Nat} {S : Int} {zs : List Int} {M : MemS} (h : Closing n t n S zs M) : M.count = 0 ∧ M.met.held = 0 ∧ Free M.sp 0 := by
  have hall : ∀ s ∈ M.sp, s = (false, []) := fun s hs => by
    obtain ⟨q, hq⟩ := List.getElem?_of_mem hs
    have hlt := (List.getElem?_eq_some_iff.1 hq).1
    rw [h.len] at hlt
    obtain ⟨j, hj, hjq⟩ := turn_all (t := t) hlt
    have := h.shut j hj
    rw [hjq, hq] at this
    exact Option.some.inj this
  refine ⟨?_, ?_, ⟨Nat.zero_le _, fun j hj => by omega, fun s hs => by rw [hall s (List.mem_of_getElem? hs)]⟩⟩
  · rw [h.ok.count]
    have : M.sp.countP (·.1) = 0 := List.countP_eq_zero.2 fun s hs => by rw [hall s hs]; simp
    omega
  · rw [h.ok.held]
    have : (M.sp.map fun s => s.2.length).sum = 0 := by
      have := sum_le (l := M.sp.map fun s => s.2.length) (c := 0) fun x hx => by
        obtain ⟨s, hs, rfl⟩ := List.mem_map.1 hx
        rw [hall s hs]; simp
      omega
    omega

theorem memCloses_ok {σ : AH O} {sa : SA} {zs : List Int} {t : Int} (hi : Imm 1 sa zs.length (zs.map (AV.i .u8))) (hz : ∀ z ∈ zs, 0 ≤ z ∧ z < 256) (ht : 0 ≤ t ∧ t < 256) : Ok (law08_MemCloses [.sl sa zs.length, .i .u8 t] σ) fun r => r.1 = .b true := by
  by_cases hbig : (zs.length : Int) > 40
  · simp -implicitDefEqProofs (disch := (first | omega | rfl | assumption | (simp only [put_next, bump_next, kill_next, List.length_cons, List.length_nil, List.mem_cons, List.not_mem_nil, or_false, not_false_eq_true]; first | omega | assumption))) only [law08_MemCloses, law08_MemCloses_c, Nat.reduceAdd, Nat.reduceMul, Nat.reduceLT, s_beq, List.length_cons, List.length_nil, List.getD_cons_zero, List.getD_cons_succ, List.getElem?_cons_zero, List.getElem?_cons_succ, Option.bind_some, Option.bind_assoc, s_bindN, asI_i, asB_b, asS_s, asP_p, asPS_p, asSl_sl, s_agg, s_tup, s_fn, joinB, joinI, joinR, beq_true, beq_false, Bool.not_true, Bool.not_false, Bool.not_not, cond_true, cond_false, neI, s_mapS, bindS_inl, bindS_inr, Bool.and_true, Bool.true_and, Bool.and_false, Bool.false_and, s_isNoneS, s_isNoneN, s_ref, s_adv, s_ldf, s_ld, s_ldM, s_st, s_stM, s_bs, s_bn, s_pp, bump_blk, bump_next, put_next, splice_z, splice_zz, splice_s, s_decT, s_decF, s_eqT, s_eqF, s_i64, s_u64, s_u8, Int.toNat_natCast, Nat.zero_add, s_room, s_chkT, s_rdSl, s_wrSl, s_ldN, s_ldNM, s_ldNf, List.drop_zero, List.take_succ_cons, List.take_zero, List.take_nil, List.take_length, Nat.mul_one, List.flatten_cons, List.flatten_nil, List.append_nil, List.nil_append, List.cons_append]
    refine Ok.step awake_ok fun r ⟨g1, g2⟩ => ?_
    obtain ⟨q, σ1⟩ := r
    simp only at g1 g2
    subst g1
    simp -implicitDefEqProofs (disch := (first | omega | rfl | assumption | (simp only [put_next, bump_next, kill_next, List.length_cons, List.length_nil, List.mem_cons, List.not_mem_nil, or_false, not_false_eq_true]; first | omega | assumption))) only [Nat.reduceAdd, Nat.reduceMul, Nat.reduceLT, s_beq, List.length_cons, List.length_nil, List.getD_cons_zero, List.getD_cons_succ, List.getElem?_cons_zero, List.getElem?_cons_succ, Option.bind_some, Option.bind_assoc, s_bindN, asI_i, asB_b, asS_s, asP_p, asPS_p, asSl_sl, s_agg, s_tup, s_fn, joinB, joinI, joinR, beq_true, beq_false, Bool.not_true, Bool.not_false, Bool.not_not, cond_true, cond_false, neI, s_mapS, bindS_inl, bindS_inr, Bool.and_true, Bool.true_and, Bool.and_false, Bool.false_and, s_isNoneS, s_isNoneN, s_ref, s_adv, s_ldf, s_ld, s_ldM, s_st, s_stM, s_bs, s_bn, s_pp, bump_blk, bump_next, put_next, splice_z, splice_zz, splice_s, s_decT, s_decF, s_eqT, s_eqF, s_i64, s_u64, s_u8, Int.toNat_natCast, Nat.zero_add, s_room, s_chkT, s_rdSl, s_wrSl, s_ldN, s_ldNM, s_ldNf, List.drop_zero, List.take_succ_cons, List.take_zero, List.take_nil, List.take_length, Nat.mul_one, List.flatten_cons, List.flatten_nil, List.append_nil, List.nil_append, List.cons_append]
    exact Ok_some.2 rfl
  simp -implicitDefEqProofs (disch := (first | omega | rfl | assumption | (simp only [put_next, bump_next, kill_next, List.length_cons, List.length_nil, List.mem_cons, List.not_mem_nil, or_false, not_false_eq_true]; first | omega | assumption))) only [law08_MemCloses, law08_MemCloses_c, Nat.reduceAdd, Nat.reduceMul, Nat.reduceLT, s_beq, List.length_cons, List.length_nil, List.getD_cons_zero, List.getD_cons_succ, List.getElem?_cons_zero, List.getElem?_cons_succ, Option.bind_some, Option.bind_assoc, s_bindN, asI_i, asB_b, asS_s, asP_p, asPS_p, asSl_sl, s_agg, s_tup, s_fn, joinB, joinI, joinR, beq_true, beq_false, Bool.not_true, Bool.not_false, Bool.not_not, cond_true, cond_false, neI, s_mapS, bindS_inl, bindS_inr, Bool.and_true, Bool.true_and, Bool.and_false, Bool.false_and, s_isNoneS, s_isNoneN, s_ref, s_adv, s_ldf, s_ld, s_ldM, s_st, s_stM, s_bs, s_bn, s_pp, bump_blk, bump_next, put_next, splice_z, splice_zz, splice_s, s_decT, s_decF, s_eqT, s_eqF, s_i64, s_u64, s_u8, Int.toNat_natCast, Nat.zero_add, s_room, s_chkT, s_rdSl, s_wrSl, s_ldN, s_ldNM, s_ldNf, List.drop_zero, List.take_succ_cons, List.take_zero, List.take_nil, List.take_length, Nat.mul_one, List.flatten_cons, List.flatten_nil, List.append_nil, List.nil_append, List.cons_append]
  refine Ok.step awake_ok fun r ⟨g1, g2⟩ => ?_
  obtain ⟨q, σ1⟩ := r
  simp only at g1 g2
  subst g1
  simp -implicitDefEqProofs (disch := (first | omega | rfl | assumption | (simp only [put_next, bump_next, kill_next, List.length_cons, List.length_nil, List.mem_cons, List.not_mem_nil, or_false, not_false_eq_true]; first | omega | assumption))) only [Nat.reduceAdd, Nat.reduceMul, Nat.reduceLT, s_beq, List.length_cons, List.length_nil, List.getD_cons_zero, List.getD_cons_succ, List.getElem?_cons_zero, List.getElem?_cons_succ, Option.bind_some, Option.bind_assoc, s_bindN, asI_i, asB_b, asS_s, asP_p, asPS_p, asSl_sl, s_agg, s_tup, s_fn, joinB, joinI, joinR, beq_true, beq_false, Bool.not_true, Bool.not_false, Bool.not_not, cond_true, cond_false, neI, s_mapS, bindS_inl, bindS_inr, Bool.and_true, Bool.true_and, Bool.and_false, Bool.false_and, s_isNoneS, s_isNoneN, s_ref, s_adv, s_ldf, s_ld, s_ldM, s_st, s_stM, s_bs, s_bn, s_pp, bump_blk, bump_next, put_next, splice_z, splice_zz, splice_s, s_decT, s_decF, s_eqT, s_eqF, s_i64, s_u64, s_u8, Int.toNat_natCast, Nat.zero_add, s_room, s_chkT, s_rdSl, s_wrSl, s_ldN, s_ldNM, s_ldNf, List.drop_zero, List.take_succ_cons, List.take_zero, List.take_nil, List.take_length, Nat.mul_one, List.flatten_cons, List.flatten_nil, List.append_nil, List.nil_append, List.cons_append]
  refine Ok.step memNew_ok fun r ⟨F, g1, g2, g3, g4⟩ => ?_
  obtain ⟨q, σ2⟩ := r
  simp only at g1 g2 g3
  subst g1
  generalize σ1.next = mb at g2
  simp -implicitDefEqProofs (disch := (first | omega | rfl | assumption | (simp only [put_next, bump_next, kill_next, List.length_cons, List.length_nil, List.mem_cons, List.not_mem_nil, or_false, not_false_eq_true]; first | omega | assumption))) only [Nat.reduceAdd, Nat.reduceMul, Nat.reduceLT, s_beq, List.length_cons, List.length_nil, List.getD_cons_zero, List.getD_cons_succ, List.getElem?_cons_zero, List.getElem?_cons_succ, Option.bind_some, Option.bind_assoc, s_bindN, asI_i, asB_b, asS_s, asP_p, asPS_p, asSl_sl, s_agg, s_tup, s_fn, joinB, joinI, joinR, beq_true, beq_false, Bool.not_true, Bool.not_false, Bool.not_not, cond_true, cond_false, neI, s_mapS, bindS_inl, bindS_inr, Bool.and_true, Bool.true_and, Bool.and_false, Bool.false_and, s_isNoneS, s_isNoneN, s_ref, s_adv, s_ldf, s_ld, s_ldM, s_st, s_stM, s_bs, s_bn, s_pp, bump_blk, bump_next, put_next, splice_z, splice_zz, splice_s, s_decT, s_decF, s_eqT, s_eqF, s_i64, s_u64, s_u8, Int.toNat_natCast, Nat.zero_add, s_room, s_chkT, s_rdSl, s_wrSl, s_ldN, s_ldNM, s_ldNf, List.drop_zero, List.take_succ_cons, List.take_zero, List.take_nil, List.take_length, Nat.mul_one, List.flatten_cons, List.flatten_nil, List.append_nil, List.nil_append, List.cons_append]
  have hznn : ∀ k, ∀ z ∈ zs.take k, 0 ≤ z := fun k z hz' => (hz z (List.mem_of_mem_take hz')).1
  -- Opens
  refine Ok.bindS (Q := fun r => ∃ σ3 F3, r = .inl ([.i .i64 (isum zs)], σ3) ∧ MemAt σ3 mb F3 (opened zs) ∧ (opened zs).ok) ?_ ?_ (fun r h => by obtain ⟨_, _, e, _⟩ := h; cases e)
  · refine Ok.count zs.length (fun k s => ∃ σ3 F3, s = ([.i .i64 (isum (zs.take k)), .i .i64 (k : Int)], σ3) ∧ MemAt σ3 mb F3 (opened (zs.take k)) ∧ (opened (zs.take k)).ok) ?_ ?_ ⟨σ2, F, rfl, g2, MemS.new_ok⟩
    · rintro k s hk ⟨σ3, F3, rfl, h1, h2⟩
      have hx := List.getElem?_eq_getElem hk
      have hzk := hz _ (List.mem_of_getElem? hx)
      have htk : zs.take k ++ [zs[k]] = zs.take (k + 1) := by rw [List.take_add_one, hx]; rfl
      obtain ⟨b, o, rfl, hld⟩ := (hi O σ3).at1 (i := k) (v := .i .u8 zs[k]) (by rw [List.getElem?_map, hx]; rfl)
      have hlk : (zs.take k).length = k := by simp; omega
      have hs1 := isum_nn (hznn k)
      have hs2 := isum_le (zs := zs.take k) (fun z hz' => (hz z (List.mem_of_mem_take hz')).2)
      rw [hlk] at hs2
      rw [Nat.mul_one] at hld
      simp -implicitDefEqProofs (disch := (first | omega | rfl | assumption | (simp only [put_next, bump_next, kill_next, List.length_cons, List.length_nil, List.mem_cons, List.not_mem_nil, or_false, not_false_eq_true]; first | omega | assumption))) only [hld, Nat.reduceAdd, Nat.reduceMul, Nat.reduceLT, s_beq, List.length_cons, List.length_nil, List.getD_cons_zero, List.getD_cons_succ, List.getElem?_cons_zero, List.getElem?_cons_succ, Option.bind_some, Option.bind_assoc, s_bindN, asI_i, asB_b, asS_s, asP_p, asPS_p, asSl_sl, s_agg, s_tup, s_fn, joinB, joinI, joinR, beq_true, beq_false, Bool.not_true, Bool.not_false, Bool.not_not, cond_true, cond_false, neI, s_mapS, bindS_inl, bindS_inr, Bool.and_true, Bool.true_and, Bool.and_false, Bool.false_and, s_isNoneS, s_isNoneN, s_ref, s_adv, s_ldf, s_ld, s_ldM, s_st, s_stM, s_bs, s_bn, s_pp, bump_blk, bump_next, put_next, splice_z, splice_zz, splice_s, s_decT, s_decF, s_eqT, s_eqF, s_i64, s_u64, s_u8, Int.toNat_natCast, Nat.zero_add, s_room, s_chkT, s_rdSl, s_wrSl, s_ldN, s_ldNM, s_ldNf, List.drop_zero, List.take_succ_cons, List.take_zero, List.take_nil, List.take_length, Nat.mul_one, List.flatten_cons, List.flatten_nil, List.append_nil, List.nil_append, List.cons_append]
      refine Ok.step (open_ok (n := zs[k]) h1 h2 hzk.1 (by omega) (by simp only [opened, hlk]; omega)) fun r ⟨i, hf, g5, F4, g6, g7, g8⟩ => ?_
      obtain ⟨q, σ4⟩ := r
      simp only at g5 g6 g7
      subst g5
      obtain rfl := zsp_free hf
      have k1 := MemS.opn_ok h2 hf (n := zs[k]) hzk.1 (by omega) (by simp only [opened, hlk]; omega)
      rw [opened_opn (hznn k) hzk.1, htk] at g6 k1
      obtain ⟨b', o', e, hld'⟩ := (hi O σ4).at1 (i := k) (v := .i .u8 zs[k]) (by rw [List.getElem?_map, hx]; rfl)
      cases e
      rw [Nat.mul_one] at hld'
      rw [hlk]
      simp -implicitDefEqProofs (disch := (first | omega | rfl | assumption | (simp only [put_next, bump_next, kill_next, List.length_cons, List.length_nil, List.mem_cons, List.not_mem_nil, or_false, not_false_eq_true]; first | omega | assumption))) only [hld', Nat.reduceAdd, Nat.reduceMul, Nat.reduceLT, s_beq, List.length_cons, List.length_nil, List.getD_cons_zero, List.getD_cons_succ, List.getElem?_cons_zero, List.getElem?_cons_succ, Option.bind_some, Option.bind_assoc, s_bindN, asI_i, asB_b, asS_s, asP_p, asPS_p, asSl_sl, s_agg, s_tup, s_fn, joinB, joinI, joinR, beq_true, beq_false, Bool.not_true, Bool.not_false, Bool.not_not, cond_true, cond_false, neI, s_mapS, bindS_inl, bindS_inr, Bool.and_true, Bool.true_and, Bool.and_false, Bool.false_and, s_isNoneS, s_isNoneN, s_ref, s_adv, s_ldf, s_ld, s_ldM, s_st, s_stM, s_bs, s_bn, s_pp, bump_blk, bump_next, put_next, splice_z, splice_zz, splice_s, s_decT, s_decF, s_eqT, s_eqF, s_i64, s_u64, s_u8, Int.toNat_natCast, Nat.zero_add, s_room, s_chkT, s_rdSl, s_wrSl, s_ldN, s_ldNM, s_ldNf, List.drop_zero, List.take_succ_cons, List.take_zero, List.take_nil, List.take_length, Nat.mul_one, List.flatten_cons, List.flatten_nil, List.append_nil, List.nil_append, List.cons_append]
      refine Ok_some.2 ⟨σ4, F4, ?_, g6, k1⟩
      rw [← htk, isum_snoc]; simp
    · rintro s ⟨σ3, F3, rfl, h1, h2⟩
      simp -implicitDefEqProofs (disch := (first | omega | rfl | assumption | (simp only [put_next, bump_next, kill_next, List.length_cons, List.length_nil, List.mem_cons, List.not_mem_nil, or_false, not_false_eq_true]; first | omega | assumption))) only [Nat.reduceAdd, Nat.reduceMul, Nat.reduceLT, s_beq, List.length_cons, List.length_nil, List.getD_cons_zero, List.getD_cons_succ, List.getElem?_cons_zero, List.getElem?_cons_succ, Option.bind_some, Option.bind_assoc, s_bindN, asI_i, asB_b, asS_s, asP_p, asPS_p, asSl_sl, s_agg, s_tup, s_fn, joinB, joinI, joinR, beq_true, beq_false, Bool.not_true, Bool.not_false, Bool.not_not, cond_true, cond_false, neI, s_mapS, bindS_inl, bindS_inr, Bool.and_true, Bool.true_and, Bool.and_false, Bool.false_and, s_isNoneS, s_isNoneN, s_ref, s_adv, s_ldf, s_ld, s_ldM, s_st, s_stM, s_bs, s_bn, s_pp, bump_blk, bump_next, put_next, splice_z, splice_zz, splice_s, s_decT, s_decF, s_eqT, s_eqF, s_i64, s_u64, s_u8, Int.toNat_natCast, Nat.zero_add, s_room, s_chkT, s_rdSl, s_wrSl, s_ldN, s_ldNM, s_ldNf, List.drop_zero, List.take_succ_cons, List.take_zero, List.take_nil, List.take_length, Nat.mul_one, List.flatten_cons, List.flatten_nil, List.append_nil, List.nil_append, List.cons_append]
      rw [List.take_length] at h1 h2
      exact Ok_some.2 ⟨σ3, F3, rfl, h1, h2⟩
  rintro _ ⟨σ3, F3, e, h1, h2⟩
  cases e
  obtain ⟨tb, el, rest, hm, hmet⟩ := h1.meter
  have hh := held_ok hmet
  simp -implicitDefEqProofs (disch := (first | omega | rfl | assumption | (simp only [put_next, bump_next, kill_next, List.length_cons, List.length_nil, List.mem_cons, List.not_mem_nil, or_false, not_false_eq_true]; first | omega | assumption))) only [hm, hh, spaces_ok h1, opened, Nat.reduceAdd, Nat.reduceMul, Nat.reduceLT, s_beq, List.length_cons, List.length_nil, List.getD_cons_zero, List.getD_cons_succ, List.getElem?_cons_zero, List.getElem?_cons_succ, Option.bind_some, Option.bind_assoc, s_bindN, asI_i, asB_b, asS_s, asP_p, asPS_p, asSl_sl, s_agg, s_tup, s_fn, joinB, joinI, joinR, beq_true, beq_false, Bool.not_true, Bool.not_false, Bool.not_not, cond_true, cond_false, neI, s_mapS, bindS_inl, bindS_inr, Bool.and_true, Bool.true_and, Bool.and_false, Bool.false_and, s_isNoneS, s_isNoneN, s_ref, s_adv, s_ldf, s_ld, s_ldM, s_st, s_stM, s_bs, s_bn, s_pp, bump_blk, bump_next, put_next, splice_z, splice_zz, splice_s, s_decT, s_decF, s_eqT, s_eqF, s_i64, s_u64, s_u8, Int.toNat_natCast, Nat.zero_add, s_room, s_chkT, s_rdSl, s_wrSl, s_ldN, s_ldNM, s_ldNf, List.drop_zero, List.take_succ_cons, List.take_zero, List.take_nil, List.take_length, Nat.mul_one, List.flatten_cons, List.flatten_nil, List.append_nil, List.nil_append, List.cons_append]
  have hS1 := isum_nn (zs := zs) fun z hz' => (hz z hz').1
  have hS2 := isum_le (zs := zs) fun z hz' => (hz z hz').2
  -- Closes
  have htn : ((t.toNat : Nat) : Int) = t := Int.toNat_of_nonneg ht.1
  refine Ok.bindS (Q := fun r => ∃ σ4 F4 M, r = .inl ([], σ4) ∧ MemAt σ4 mb F4 M ∧ Closing zs.length t.toNat zs.length (isum zs) zs M) ?_ ?_ (fun r h => by obtain ⟨_, _, _, e, _⟩ := h; cases e)
  · refine Ok.count zs.length (fun k s => ∃ σ4 F4 M, s = ([.i .i64 (k : Int)], σ4) ∧ MemAt σ4 mb F4 M ∧ Closing zs.length t.toNat k (isum zs) zs M) ?_ ?_ ⟨σ3, F3, _, rfl, h1, h2, rfl, rfl, rfl, by simp [opened, zsp], fun j hj => by omega, fun q hq _ => ⟨_, by simp only [opened, zsp]; rw [List.getElem?_map, List.getElem?_eq_getElem hq]; rfl⟩⟩
    · rintro k s hk ⟨σ4, F4, M, rfl, k1, k2⟩
      have hmod : Int.tmod ((k : Int) + t) (zs.length : Int) = (((k + t.toNat) % zs.length : Nat) : Int) := by
        rw [← htn, Int.toNat_natCast, Int.tmod_eq_emod_of_nonneg (by omega)]; simp
      obtain ⟨w, hw⟩ := k2.op ((k + t.toNat) % zs.length) (Nat.mod_lt _ (by omega)) fun j hj => turn_ne hj hk
      have hlt := Nat.mod_lt (k + t.toNat) (show 0 < zs.length by omega)
      simp -implicitDefEqProofs (disch := (first | omega | rfl | assumption | (simp only [put_next, bump_next, kill_next, List.length_cons, List.length_nil, List.mem_cons, List.not_mem_nil, or_false, not_false_eq_true]; first | omega | assumption))) only [hmod, Nat.reduceAdd, Nat.reduceMul, Nat.reduceLT, s_beq, List.length_cons, List.length_nil, List.getD_cons_zero, List.getD_cons_succ, List.getElem?_cons_zero, List.getElem?_cons_succ, Option.bind_some, Option.bind_assoc, s_bindN, asI_i, asB_b, asS_s, asP_p, asPS_p, asSl_sl, s_agg, s_tup, s_fn, joinB, joinI, joinR, beq_true, beq_false, Bool.not_true, Bool.not_false, Bool.not_not, cond_true, cond_false, neI, s_mapS, bindS_inl, bindS_inr, Bool.and_true, Bool.true_and, Bool.and_false, Bool.false_and, s_isNoneS, s_isNoneN, s_ref, s_adv, s_ldf, s_ld, s_ldM, s_st, s_stM, s_bs, s_bn, s_pp, bump_blk, bump_next, put_next, splice_z, splice_zz, splice_s, s_decT, s_decF, s_eqT, s_eqF, s_i64, s_u64, s_u8, Int.toNat_natCast, Nat.zero_add, s_room, s_chkT, s_rdSl, s_wrSl, s_ldN, s_ldNM, s_ldNf, List.drop_zero, List.take_succ_cons, List.take_zero, List.take_nil, List.take_length, Nat.mul_one, List.flatten_cons, List.flatten_nil, List.append_nil, List.nil_append, List.cons_append]
      refine Ok.step (close_ok (w := w) k1 k2.ok (by omega) (by omega) (by rw [Int.toNat_natCast]; exact hw)) fun r ⟨p1, F5, p2, p3, p4⟩ => ?_
      obtain ⟨q, σ5⟩ := r
      simp only at p1 p2 p3
      subst p1
      rw [Int.toNat_natCast] at p2
      have k3 := k2.next hk hw
      have hno : ¬ isOp (M.close ((k + t.toNat) % zs.length) w).sp (((k + t.toNat) % zs.length : Nat) : Int) := by
        rintro ⟨_, w', hw'⟩
        have := k3.shut k (by omega)
        rw [Int.toNat_natCast, this] at hw'
        cases hw'
      simp -implicitDefEqProofs (disch := (first | omega | rfl | assumption | (simp only [put_next, bump_next, kill_next, List.length_cons, List.length_nil, List.mem_cons, List.not_mem_nil, or_false, not_false_eq_true]; first | omega | assumption))) only [close_no p2 hno, Nat.reduceAdd, Nat.reduceMul, Nat.reduceLT, s_beq, List.length_cons, List.length_nil, List.getD_cons_zero, List.getD_cons_succ, List.getElem?_cons_zero, List.getElem?_cons_succ, Option.bind_some, Option.bind_assoc, s_bindN, asI_i, asB_b, asS_s, asP_p, asPS_p, asSl_sl, s_agg, s_tup, s_fn, joinB, joinI, joinR, beq_true, beq_false, Bool.not_true, Bool.not_false, Bool.not_not, cond_true, cond_false, neI, s_mapS, bindS_inl, bindS_inr, Bool.and_true, Bool.true_and, Bool.and_false, Bool.false_and, s_isNoneS, s_isNoneN, s_ref, s_adv, s_ldf, s_ld, s_ldM, s_st, s_stM, s_bs, s_bn, s_pp, bump_blk, bump_next, put_next, splice_z, splice_zz, splice_s, s_decT, s_decF, s_eqT, s_eqF, s_i64, s_u64, s_u8, Int.toNat_natCast, Nat.zero_add, s_room, s_chkT, s_rdSl, s_wrSl, s_ldN, s_ldNM, s_ldNf, List.drop_zero, List.take_succ_cons, List.take_zero, List.take_nil, List.take_length, Nat.mul_one, List.flatten_cons, List.flatten_nil, List.append_nil, List.nil_append, List.cons_append]
      exact Ok_some.2 ⟨σ5, F5, _, by simp, p2, k3⟩
    · rintro s ⟨σ4, F4, M, rfl, k1, k2⟩
      simp -implicitDefEqProofs (disch := (first | omega | rfl | assumption | (simp only [put_next, bump_next, kill_next, List.length_cons, List.length_nil, List.mem_cons, List.not_mem_nil, or_false, not_false_eq_true]; first | omega | assumption))) only [Nat.reduceAdd, Nat.reduceMul, Nat.reduceLT, s_beq, List.length_cons, List.length_nil, List.getD_cons_zero, List.getD_cons_succ, List.getElem?_cons_zero, List.getElem?_cons_succ, Option.bind_some, Option.bind_assoc, s_bindN, asI_i, asB_b, asS_s, asP_p, asPS_p, asSl_sl, s_agg, s_tup, s_fn, joinB, joinI, joinR, beq_true, beq_false, Bool.not_true, Bool.not_false, Bool.not_not, cond_true, cond_false, neI, s_mapS, bindS_inl, bindS_inr, Bool.and_true, Bool.true_and, Bool.and_false, Bool.false_and, s_isNoneS, s_isNoneN, s_ref, s_adv, s_ldf, s_ld, s_ldM, s_st, s_stM, s_bs, s_bn, s_pp, bump_blk, bump_next, put_next, splice_z, splice_zz, splice_s, s_decT, s_decF, s_eqT, s_eqF, s_i64, s_u64, s_u8, Int.toNat_natCast, Nat.zero_add, s_room, s_chkT, s_rdSl, s_wrSl, s_ldN, s_ldNM, s_ldNf, List.drop_zero, List.take_succ_cons, List.take_zero, List.take_nil, List.take_length, Nat.mul_one, List.flatten_cons, List.flatten_nil, List.append_nil, List.nil_append, List.cons_append]
      exact Ok_some.2 ⟨σ4, F4, M, rfl, k1, k2⟩
  rintro _ ⟨σ4, F4, M, e, k1, k2⟩
  cases e
  obtain ⟨c1, c2, c3⟩ := k2.fin
  obtain ⟨tb4, el4, rest4, hm4, hmet4⟩ := k1.meter
  have hh4 := held_ok hmet4
  simp -implicitDefEqProofs (disch := (first | omega | rfl | assumption | (simp only [put_next, bump_next, kill_next, List.length_cons, List.length_nil, List.mem_cons, List.not_mem_nil, or_false, not_false_eq_true]; first | omega | assumption))) only [hm4, hh4, spaces_ok k1, Nat.reduceAdd, Nat.reduceMul, Nat.reduceLT, s_beq, List.length_cons, List.length_nil, List.getD_cons_zero, List.getD_cons_succ, List.getElem?_cons_zero, List.getElem?_cons_succ, Option.bind_some, Option.bind_assoc, s_bindN, asI_i, asB_b, asS_s, asP_p, asPS_p, asSl_sl, s_agg, s_tup, s_fn, joinB, joinI, joinR, beq_true, beq_false, Bool.not_true, Bool.not_false, Bool.not_not, cond_true, cond_false, neI, s_mapS, bindS_inl, bindS_inr, Bool.and_true, Bool.true_and, Bool.and_false, Bool.false_and, s_isNoneS, s_isNoneN, s_ref, s_adv, s_ldf, s_ld, s_ldM, s_st, s_stM, s_bs, s_bn, s_pp, bump_blk, bump_next, put_next, splice_z, splice_zz, splice_s, s_decT, s_decF, s_eqT, s_eqF, s_i64, s_u64, s_u8, Int.toNat_natCast, Nat.zero_add, s_room, s_chkT, s_rdSl, s_wrSl, s_ldN, s_ldNM, s_ldNf, List.drop_zero, List.take_succ_cons, List.take_zero, List.take_nil, List.take_length, Nat.mul_one, List.flatten_cons, List.flatten_nil, List.append_nil, List.nil_append, List.cons_append]
  refine Ok.step (open_ok (n := 1) k1 k2.ok (by omega) (by omega) (by omega)) fun r ⟨i, hf, g5, F6, g6, g7, g8⟩ => ?_
  obtain ⟨q, σ6⟩ := r
  simp only at g5 g6 g7
  subst g5
  obtain rfl := hf.uniq c3
  have k5 := MemS.opn_ok k2.ok hf (n := 1) (by omega) (by omega) (by omega)
  obtain ⟨tb6, el6, rest6, hm6, hmet6⟩ := g6.meter
  have hh6 := high_ok hmet6
  have hhi : (M.opn 0 1).met.high = (if 1 > isum zs then 1 else isum zs) := by
    show max M.met.high (M.met.held + 1) = _
    rw [k2.high, c2]
    split <;> omega
  have z0 : ((0 : Nat) : Int) = 0 := rfl
  simp -implicitDefEqProofs (disch := (first | omega | rfl | assumption | (simp only [put_next, bump_next, kill_next, List.length_cons, List.length_nil, List.mem_cons, List.not_mem_nil, or_false, not_false_eq_true]; first | omega | assumption))) only [c1, c2, z0, hm6, hh6, hhi, Nat.reduceAdd, Nat.reduceMul, Nat.reduceLT, s_beq, List.length_cons, List.length_nil, List.getD_cons_zero, List.getD_cons_succ, List.getElem?_cons_zero, List.getElem?_cons_succ, Option.bind_some, Option.bind_assoc, s_bindN, asI_i, asB_b, asS_s, asP_p, asPS_p, asSl_sl, s_agg, s_tup, s_fn, joinB, joinI, joinR, beq_true, beq_false, Bool.not_true, Bool.not_false, Bool.not_not, cond_true, cond_false, neI, s_mapS, bindS_inl, bindS_inr, Bool.and_true, Bool.true_and, Bool.and_false, Bool.false_and, s_isNoneS, s_isNoneN, s_ref, s_adv, s_ldf, s_ld, s_ldM, s_st, s_stM, s_bs, s_bn, s_pp, bump_blk, bump_next, put_next, splice_z, splice_zz, splice_s, s_decT, s_decF, s_eqT, s_eqF, s_i64, s_u64, s_u8, Int.toNat_natCast, Nat.zero_add, s_room, s_chkT, s_rdSl, s_wrSl, s_ldN, s_ldNM, s_ldNf, List.drop_zero, List.take_succ_cons, List.take_zero, List.take_nil, List.take_length, Nat.mul_one, List.flatten_cons, List.flatten_nil, List.append_nil, List.nil_append, List.cons_append]
  refine Ok.step (steps_ok hmet6 k5.met) fun r ⟨p1, p2⟩ => ?_
  obtain ⟨q, σ7⟩ := r
  simp only at p1 p2
  subst p1
  have hst : (M.opn 0 1).met.r + (M.opn 0 1).met.w = 0 := by
    show M.met.r + M.met.w = 0
    rw [k2.r, k2.w]; rfl
  have d0 : (0 : Int) / 18446744073709551616 = 0 := by decide
  have m0 : (0 : Int) % 18446744073709551616 = 0 := by decide
  simp -implicitDefEqProofs (disch := (first | omega | rfl | assumption | (simp only [put_next, bump_next, kill_next, List.length_cons, List.length_nil, List.mem_cons, List.not_mem_nil, or_false, not_false_eq_true]; first | omega | assumption))) only [wcs, hst, d0, m0, Nat.reduceAdd, Nat.reduceMul, Nat.reduceLT, s_beq, List.length_cons, List.length_nil, List.getD_cons_zero, List.getD_cons_succ, List.getElem?_cons_zero, List.getElem?_cons_succ, Option.bind_some, Option.bind_assoc, s_bindN, asI_i, asB_b, asS_s, asP_p, asPS_p, asSl_sl, s_agg, s_tup, s_fn, joinB, joinI, joinR, beq_true, beq_false, Bool.not_true, Bool.not_false, Bool.not_not, cond_true, cond_false, neI, s_mapS, bindS_inl, bindS_inr, Bool.and_true, Bool.true_and, Bool.and_false, Bool.false_and, s_isNoneS, s_isNoneN, s_ref, s_adv, s_ldf, s_ld, s_ldM, s_st, s_stM, s_bs, s_bn, s_pp, bump_blk, bump_next, put_next, splice_z, splice_zz, splice_s, s_decT, s_decF, s_eqT, s_eqF, s_i64, s_u64, s_u8, Int.toNat_natCast, Nat.zero_add, s_room, s_chkT, s_rdSl, s_wrSl, s_ldN, s_ldNM, s_ldNf, List.drop_zero, List.take_succ_cons, List.take_zero, List.take_nil, List.take_length, Nat.mul_one, List.flatten_cons, List.flatten_nil, List.append_nil, List.nil_append, List.cons_append]
  exact Ok_some.2 rfl
end Go.Abs.Try
