/-
  Layer 18: handles. No conditions.
-/
import Derived.Test.YtcjekncaflnhlaaM10g
set_option linter.unusedVariables false
set_option linter.unusedSimpArgs false
set_option linter.constructorNameAsVariable false
set_option linter.unusedSimpArgs false
set_option linter.unusedVariables false
set_option linter.unusedSectionVars false
set_option maxHeartbeats 1000000
namespace Go.Abs.Try
open Go Go.Abs
variable {O : Type}

/-! ### Tokens -/
theorem and20 {t : Int} (h : -9223372036854775808 ≤ t ∧ t ≤ 9223372036854775807) : ibits .and .i64 t 1048575 = t % 1048576 := by
  show IntKind.i64.wrap (((BitVec.ofInt 64 t &&& BitVec.ofInt 64 1048575).toNat : Nat) : Int) = _
  rw [BitVec.toNat_and, bv_nat (x := 1048575) (by decide) (by decide), BitVec.toNat_ofInt, show (1048575 : Int).toNat = 2 ^ 20 - 1 from rfl, Nat.and_two_pow_sub_one_eq_mod]
  have h1 : 0 ≤ t % ((2 ^ 64 : Nat) : Int) := Int.emod_nonneg _ (by decide)
  have h2 : (((t % ((2 ^ 64 : Nat) : Int)).toNat % 2 ^ 20 : Nat) : Int) = t % 1048576 := by
    rw [Int.natCast_emod, Int.toNat_of_nonneg h1]
    have : ((2 ^ 64 : Nat) : Int) = 18446744073709551616 := by decide
    have : ((2 ^ 20 : Nat) : Int) = 1048576 := by decide
    omega
  rw [h2]
  exact s_i64 (by omega)
theorem or20 {g i : Nat} (hg : g < 4398046511104) (hi : i < 1048576) : ibits .or .i64 ((g : Int) * 1048576) (i : Int) = ((g * 1048576 + i : Nat) : Int) := by
  show IntKind.i64.wrap (((BitVec.ofInt 64 ((g : Int) * 1048576) ||| BitVec.ofInt 64 (i : Int)).toNat : Nat) : Int) = _
  rw [BitVec.toNat_or, bv_nat (by omega) (by simp; omega), bv_nat (by omega) (by simp; omega)]
  have := Nat.two_pow_add_eq_or_of_lt (i := 20) (b := i) (by simpa using hi) g
  have e : ((g : Int) * 1048576).toNat = 2 ^ 20 * g := by omega
  rw [e, Int.toNat_natCast, ← this]
  rw [s_i64 (by omega)]
  omega
def tok (i g : Nat) : Int := ((g * 1048576 + i : Nat) : Int)
theorem tok_mod {i g : Nat} (hi : i < 1048576) : tok i g % 1048576 = i := by unfold tok; omega
theorem tok_div {i g : Nat} (hi : i < 1048576) : tok i g / 1048576 = g := by unfold tok; omega
theorem tok_inj {i g i' g' : Nat} (hi : i < 1048576) (hi' : i' < 1048576) (h : tok i g = tok i' g') : i = i' ∧ g = g' := by unfold tok at h; omega
/-- what is told of an entry: is it taken, its generation, its first word -/
def vw (E : List PE) (j : Nat) : Option (Bool × Nat × Option Int) := (E[j]?).map fun e => (e.tk, e.gen, e.ws[0]?)
theorem vw_some {E : List PE} {j : Nat} {t : Bool} {g : Nat} {x : Option Int} (h : vw E j = some (t, g, x)) : ∃ e, E[j]? = some e ∧ e.tk = t ∧ e.gen = g ∧ e.ws[0]? = x := by
  unfold vw at h
  obtain ⟨e, h1, h2⟩ := Option.map_eq_some_iff.1 h
  simp only [Prod.mk.injEq] at h2
  exact ⟨e, h1, h2.1, h2.2.1, h2.2.2⟩
theorem vw_mk {E : List PE} {j : Nat} {e : PE} (h : E[j]? = some e) : vw E j = some (e.tk, e.gen, e.ws[0]?) := by simp [vw, h]
theorem vw_none {E : List PE} {j : Nat} : vw E j = none ↔ E[j]? = none := by simp [vw]
theorem SameBut.vw {E E' : List PE} {nx pv : Nat} (h : SameBut nx pv E E') (h1 : 0 ≠ nx) (h2 : 0 ≠ pv) (j : Nat) : vw E' j = vw E j := by
  cases hj : E[j]? with
  | none => rw [vw_none.2 hj, vw_none.2 (List.getElem?_eq_none (by rw [h.len]; exact List.getElem?_eq_none_iff.1 hj))]
  | some x =>
    obtain ⟨y, g1, g2, g3, g4⟩ := h.at_ j x hj
    rw [vw_mk g1, vw_mk hj, g2, g3, g4 0 h1 h2]
/-- handles: a pool of three words each, the taken entries in a chain -/
structure HanAt (σ : AH O) (hb pb mb : Nat) (M : MemS) (P : PoolS) (C : List Nat) (w : List Int) (X : List Nat) : Prop where
  p : PoolAt σ pb mb M P w (hb :: X)
  words : P.words = 3
  b : ∃ el, σ.blk hb = some (.cells true el [.p (some (.n pb, 0)), .i .i64 (hdI C : Int), .i .i64 (tlI C : Int), .i .i64 (C.length : Int)])
  nx : hb ∉ X
  l : Linked P.E 1 2 C
  all : ∀ i e, P.E[i]? = some e → e.tk = true → i ∈ C
  few : P.E.length ≤ 1048576
  gen : ∀ e ∈ P.E, e.gen < 4398046511104
theorem HanAt.cl {σ : AH O} {hb pb mb : Nat} {M : MemS} {P : PoolS} {C : List Nat} {w : List Int} {X : List Nat} (h : HanAt σ hb pb mb M P C w X) : C.length ≤ 1048576 := by
  have key : ∀ (n : Nat) (l : List Nat), l.Nodup → (∀ x ∈ l, x < n) → l.length ≤ n := by
    intro n
    induction n with
    | zero => intro l _ hx; cases l with | nil => simp | cons a l => exact absurd (hx a List.mem_cons_self) (by omega)
    | succ n ih =>
      intro l hn hx
      by_cases hm : n ∈ l
      · have h1 := ih (l.erase n) (hn.erase n) fun x hx' => by
          have := hx x (List.mem_of_mem_erase hx')
          have hne : x ≠ n := fun e => by subst e; exact (List.Nodup.not_mem_erase hn) hx'
          omega
        rw [List.length_erase_of_mem hm] at h1; omega
      · have := ih l hn fun x hx' => by
          have := hx x hx'
          have hne : x ≠ n := fun e => hm (e ▸ hx')
          omega
        omega
  have := key P.E.length C h.l.nd fun x hx => by
    obtain ⟨j, hj⟩ := List.getElem?_of_mem hx
    obtain ⟨e, he, _⟩ := h.l.at_ j x hj
    exact (List.getElem?_eq_some_iff.1 he).1
  have := h.few
  omega
section
variable {σ : AH O} {hb pb mb : Nat} {M : MemS} {P : PoolS} {C : List Nat} {w : List Int} {X : List Nat} (h : HanAt σ hb pb mb M P C w X)
include h
theorem HanAt.lt : hb < σ.next := h.p.mi.lt _ (by simp)
theorem HanAt.kp {σ' : AH O} {M' : MemS} (hp : PoolAt σ' pb mb M' P w (hb :: X)) (hk : Keep (hb :: X) σ σ') : HanAt σ' hb pb mb M' P C w X := { h with p := hp, b := by obtain ⟨el, hb⟩ := h.b; exact ⟨el, hk.head.trans hb⟩ }
theorem htable_ok : Ok (handles_Handles__table [.p (some (.n hb, 0))] σ) fun r => r.1 = tbl P mb 1 2 ∧ Ext σ r.2 := by
  obtain ⟨el, hbb⟩ := h.b
  have hw := h.words
  have hlt := h.lt
  simp (config := { maxSteps := 2000000 }) -implicitDefEqProofs (disch := (first | omega | rfl | assumption | (simp only [put_next, bump_next, kill_next, List.length_cons, List.length_nil, List.mem_cons, List.not_mem_nil, or_false, not_false_eq_true]; first | omega | assumption))) only [handles_Handles__table, handles_Handles__table_c, hbb, Nat.reduceAdd, Nat.reduceMul, Nat.reduceLT, Int.reduceToNat, Int.reduceAdd, Int.reduceSub, Int.reduceMul, s_beq, List.length_cons, List.length_nil, List.getD_cons_zero, List.getD_cons_succ, List.getElem?_cons_zero, List.getElem?_cons_succ, Option.bind_some, Option.bind_assoc, s_bindN, asI_i, asB_b, asS_s, asP_p, asPS_p, asSl_sl, s_agg, s_tup, s_fn, joinB, joinI, joinR, beq_true, beq_false, Bool.not_true, Bool.not_false, Bool.not_not, cond_true, cond_false, neI, s_mapS, bindS_inl, bindS_inr, Bool.and_true, Bool.true_and, Bool.and_false, Bool.false_and, s_isNoneS, s_isNoneN, s_ref, s_adv, s_ldf, s_ld, s_ldM, s_st, s_stM, s_bs, s_bn, s_pp, bump_blk, bump_next, put_next, splice_z, splice_zz, splice_s, s_decT, s_decF, s_eqT, s_eqF, s_i64, s_u64, s_u8, Int.toNat_natCast, Nat.zero_add, s_room, s_chkT, s_rdSl, s_wrSl, s_ldN, s_ldNM, s_ldNf, List.drop_zero, List.take_succ_cons, List.take_zero, List.take_nil, List.take_length, Nat.mul_one, List.flatten_cons, List.flatten_nil, List.append_nil, List.nil_append, List.cons_append]
  generalize hσ : (σ.bump 1).put σ.next (.cells true _ _) = σ1
  obtain ⟨E1, b1, n1⟩ := boxed hσ
  clear hσ
  have pt := ptable_ok (h.p.ext E1) (nx := 1) (pv := 2) (by omega) (by omega)
  rw [show ((1 : Nat) : Int) = 1 from rfl, show ((2 : Nat) : Int) = 2 from rfl] at pt
  refine Ok.step pt fun r ⟨g1, g2⟩ => ?_
  obtain ⟨q, σ2⟩ := r
  simp only [tbl] at g1 g2
  subst g1
  have b2 : σ2.blk σ.next = _ := (g2.blk _ (by omega)).trans b1
  have n2 := g2.next
  simp (config := { maxSteps := 2000000 }) -implicitDefEqProofs (disch := (first | omega | rfl | assumption | (simp only [put_next, bump_next, kill_next, List.length_cons, List.length_nil, List.mem_cons, List.not_mem_nil, or_false, not_false_eq_true]; first | omega | assumption))) only [b2, Nat.reduceAdd, Nat.reduceMul, Nat.reduceLT, Int.reduceToNat, Int.reduceAdd, Int.reduceSub, Int.reduceMul, s_beq, List.length_cons, List.length_nil, List.getD_cons_zero, List.getD_cons_succ, List.getElem?_cons_zero, List.getElem?_cons_succ, Option.bind_some, Option.bind_assoc, s_bindN, asI_i, asB_b, asS_s, asP_p, asPS_p, asSl_sl, s_agg, s_tup, s_fn, joinB, joinI, joinR, beq_true, beq_false, Bool.not_true, Bool.not_false, Bool.not_not, cond_true, cond_false, neI, s_mapS, bindS_inl, bindS_inr, Bool.and_true, Bool.true_and, Bool.and_false, Bool.false_and, s_isNoneS, s_isNoneN, s_ref, s_adv, s_ldf, s_ld, s_ldM, s_st, s_stM, s_bs, s_bn, s_pp, bump_blk, bump_next, put_next, splice_z, splice_zz, splice_s, s_decT, s_decF, s_eqT, s_eqF, s_i64, s_u64, s_u8, Int.toNat_natCast, Nat.zero_add, s_room, s_chkT, s_rdSl, s_wrSl, s_ldN, s_ldNM, s_ldNf, List.drop_zero, List.take_succ_cons, List.take_zero, List.take_nil, List.take_length, Nat.mul_one, List.flatten_cons, List.flatten_nil, List.append_nil, List.nil_append, List.cons_append]
  exact Ok_some.2 ⟨rfl, (E1.trans g2).put (Nat.le_refl _) _⟩
theorem hcount_ok : handles_Handles__Count [.p (some (.n hb, 0))] σ = some (.i .i64 (C.length : Int), σ) := by
  obtain ⟨el, hbb⟩ := h.b
  simp (config := { maxSteps := 2000000 }) -implicitDefEqProofs (disch := (first | omega | rfl | assumption | (simp only [put_next, bump_next, kill_next, List.length_cons, List.length_nil, List.mem_cons, List.not_mem_nil, or_false, not_false_eq_true]; first | omega | assumption))) only [handles_Handles__Count, handles_Handles__Count_c, hbb, Nat.reduceAdd, Nat.reduceMul, Nat.reduceLT, Int.reduceToNat, Int.reduceAdd, Int.reduceSub, Int.reduceMul, s_beq, List.length_cons, List.length_nil, List.getD_cons_zero, List.getD_cons_succ, List.getElem?_cons_zero, List.getElem?_cons_succ, Option.bind_some, Option.bind_assoc, s_bindN, asI_i, asB_b, asS_s, asP_p, asPS_p, asSl_sl, s_agg, s_tup, s_fn, joinB, joinI, joinR, beq_true, beq_false, Bool.not_true, Bool.not_false, Bool.not_not, cond_true, cond_false, neI, s_mapS, bindS_inl, bindS_inr, Bool.and_true, Bool.true_and, Bool.and_false, Bool.false_and, s_isNoneS, s_isNoneN, s_ref, s_adv, s_ldf, s_ld, s_ldM, s_st, s_stM, s_bs, s_bn, s_pp, bump_blk, bump_next, put_next, splice_z, splice_zz, splice_s, s_decT, s_decF, s_eqT, s_eqF, s_i64, s_u64, s_u8, Int.toNat_natCast, Nat.zero_add, s_room, s_chkT, s_rdSl, s_wrSl, s_ldN, s_ldNM, s_ldNf, List.drop_zero, List.take_succ_cons, List.take_zero, List.take_nil, List.take_length, Nat.mul_one, List.flatten_cons, List.flatten_nil, List.append_nil, List.nil_append, List.cons_append]
end
section
variable {σ : AH O} {hb pb mb : Nat} {M : MemS} {P : PoolS} {C : List Nat} {w : List Int} {X : List Nat} (h : HanAt σ hb pb mb M P C w X) (hm : M.met.r + 1000 < 85070591730234615865843651857942052864 ∧ M.met.w + 1000 < 85070591730234615865843651857942052864)
include h hm
theorem hid_yes {i g : Nat} {x : Option Int} (hv : vw P.E i = some (true, g, x)) : Ok (handles_Handles__id [.p (some (.n hb, 0)), .i .i64 (tok i g)] σ) fun r => r.1 = .tup [.i .i64 ((i : Int) + 1), .i .i64 0] ∧ ∃ M', HanAt r.2 hb pb mb M' P C w X ∧ Wrt M M' P.id w 2 0 ∧ Keep X σ r.2 := by
  obtain ⟨e, he, htk, hg, _⟩ := vw_some hv
  obtain ⟨el, hbb⟩ := h.b
  have hiE := (List.getElem?_eq_some_iff.1 he).1
  have hfew := h.few
  have hgen := h.gen e (List.mem_of_getElem? he)
  rw [hg] at hgen
  have ht : 0 ≤ tok i g ∧ tok i g ≤ 9223372036854775807 := by unfold tok; omega
  have a1 : ibits .and .i64 (tok i g) 1048575 = i := by rw [and20 (by omega), tok_mod (by omega)]
  have a2 : Int.fdiv (tok i g) (2 ^ 20) = g := by
    rw [Int.fdiv_eq_ediv_of_nonneg _ (by decide), show (2 : Int) ^ 20 = 1048576 from rfl, tok_div (by omega)]
  simp (config := { maxSteps := 2000000 }) -implicitDefEqProofs (disch := (first | omega | rfl | assumption | (simp only [put_next, bump_next, kill_next, List.length_cons, List.length_nil, List.mem_cons, List.not_mem_nil, or_false, not_false_eq_true]; first | omega | assumption))) only [handles_Handles__id, handles_Handles__id_c, a1, a2, hbb, Nat.reduceAdd, Nat.reduceMul, Nat.reduceLT, Int.reduceToNat, Int.reduceAdd, Int.reduceSub, Int.reduceMul, s_beq, List.length_cons, List.length_nil, List.getD_cons_zero, List.getD_cons_succ, List.getElem?_cons_zero, List.getElem?_cons_succ, Option.bind_some, Option.bind_assoc, s_bindN, asI_i, asB_b, asS_s, asP_p, asPS_p, asSl_sl, s_agg, s_tup, s_fn, joinB, joinI, joinR, beq_true, beq_false, Bool.not_true, Bool.not_false, Bool.not_not, cond_true, cond_false, neI, s_mapS, bindS_inl, bindS_inr, Bool.and_true, Bool.true_and, Bool.and_false, Bool.false_and, s_isNoneS, s_isNoneN, s_ref, s_adv, s_ldf, s_ld, s_ldM, s_st, s_stM, s_bs, s_bn, s_pp, bump_blk, bump_next, put_next, splice_z, splice_zz, splice_s, s_decT, s_decF, s_eqT, s_eqF, s_i64, s_u64, s_u8, Int.toNat_natCast, Nat.zero_add, s_room, s_chkT, s_rdSl, s_wrSl, s_ldN, s_ldNM, s_ldNf, List.drop_zero, List.take_succ_cons, List.take_zero, List.take_nil, List.take_length, Nat.mul_one, List.flatten_cons, List.flatten_nil, List.append_nil, List.nil_append, List.cons_append]
  refine Ok.step (ptaken_ok h.p ⟨by omega, by omega⟩ he) fun r ⟨k1, M1, k2, k3, k4⟩ => ?_
  obtain ⟨q, σ1⟩ := r
  simp only at k1 k2 k4
  rw [htk] at k1
  subst k1
  have hb1 : σ1.blk hb = _ := k4.head.trans hbb
  have r1 := k3.r
  have w1 := k3.w
  simp (config := { maxSteps := 2000000 }) -implicitDefEqProofs (disch := (first | omega | rfl | assumption | (simp only [put_next, bump_next, kill_next, List.length_cons, List.length_nil, List.mem_cons, List.not_mem_nil, or_false, not_false_eq_true]; first | omega | assumption))) only [hb1, Nat.reduceAdd, Nat.reduceMul, Nat.reduceLT, Int.reduceToNat, Int.reduceAdd, Int.reduceSub, Int.reduceMul, s_beq, List.length_cons, List.length_nil, List.getD_cons_zero, List.getD_cons_succ, List.getElem?_cons_zero, List.getElem?_cons_succ, Option.bind_some, Option.bind_assoc, s_bindN, asI_i, asB_b, asS_s, asP_p, asPS_p, asSl_sl, s_agg, s_tup, s_fn, joinB, joinI, joinR, beq_true, beq_false, Bool.not_true, Bool.not_false, Bool.not_not, cond_true, cond_false, neI, s_mapS, bindS_inl, bindS_inr, Bool.and_true, Bool.true_and, Bool.and_false, Bool.false_and, s_isNoneS, s_isNoneN, s_ref, s_adv, s_ldf, s_ld, s_ldM, s_st, s_stM, s_bs, s_bn, s_pp, bump_blk, bump_next, put_next, splice_z, splice_zz, splice_s, s_decT, s_decF, s_eqT, s_eqF, s_i64, s_u64, s_u8, Int.toNat_natCast, Nat.zero_add, s_room, s_chkT, s_rdSl, s_wrSl, s_ldN, s_ldNM, s_ldNf, List.drop_zero, List.take_succ_cons, List.take_zero, List.take_nil, List.take_length, Nat.mul_one, List.flatten_cons, List.flatten_nil, List.append_nil, List.nil_append, List.cons_append]
  refine Ok.step (pgen_ok k2 ⟨by omega, by omega⟩ he) fun r ⟨q1, M2, q2, q3, q4⟩ => ?_
  obtain ⟨q, σ2⟩ := r
  simp only at q1 q2 q4
  rw [hg] at q1
  subst q1
  have e1 : ((g : Int) != (g : Int)) = false := by simp
  have e2 : ((g : Int) == (g : Int)) = true := by simp
  simp (config := { maxSteps := 2000000 }) -implicitDefEqProofs (disch := (first | omega | rfl | assumption | (simp only [put_next, bump_next, kill_next, List.length_cons, List.length_nil, List.mem_cons, List.not_mem_nil, or_false, not_false_eq_true]; first | omega | assumption))) only [e1, e2, Nat.reduceAdd, Nat.reduceMul, Nat.reduceLT, Int.reduceToNat, Int.reduceAdd, Int.reduceSub, Int.reduceMul, s_beq, List.length_cons, List.length_nil, List.getD_cons_zero, List.getD_cons_succ, List.getElem?_cons_zero, List.getElem?_cons_succ, Option.bind_some, Option.bind_assoc, s_bindN, asI_i, asB_b, asS_s, asP_p, asPS_p, asSl_sl, s_agg, s_tup, s_fn, joinB, joinI, joinR, beq_true, beq_false, Bool.not_true, Bool.not_false, Bool.not_not, cond_true, cond_false, neI, s_mapS, bindS_inl, bindS_inr, Bool.and_true, Bool.true_and, Bool.and_false, Bool.false_and, s_isNoneS, s_isNoneN, s_ref, s_adv, s_ldf, s_ld, s_ldM, s_st, s_stM, s_bs, s_bn, s_pp, bump_blk, bump_next, put_next, splice_z, splice_zz, splice_s, s_decT, s_decF, s_eqT, s_eqF, s_i64, s_u64, s_u8, Int.toNat_natCast, Nat.zero_add, s_room, s_chkT, s_rdSl, s_wrSl, s_ldN, s_ldNM, s_ldNf, List.drop_zero, List.take_succ_cons, List.take_zero, List.take_nil, List.take_length, Nat.mul_one, List.flatten_cons, List.flatten_nil, List.append_nil, List.nil_append, List.cons_append]
  exact Ok_some.2 ⟨rfl, M2, h.kp q2 (k4.trans q4), (k3.trans q3).as rfl (by omega) (by omega), (k4.trans q4).tail⟩
theorem hid_no {t : Int} (ht : -9223372036854775808 ≤ t ∧ t ≤ 9223372036854775807) (hv : ∀ i g x, vw P.E i = some (true, g, x) → t ≠ tok i g) : Ok (handles_Handles__id [.p (some (.n hb, 0)), .i .i64 t] σ) fun r => r.1 = .tup [.i .i64 0, .i .i64 30] ∧ ∃ M' dr, HanAt r.2 hb pb mb M' P C w X ∧ Wrt M M' P.id w dr 0 ∧ 0 ≤ dr ∧ dr ≤ 2 ∧ Keep X σ r.2 := by
  obtain ⟨el, hbb⟩ := h.b
  by_cases c0 : t < 0
  · have a1 := and20 ht
    simp (config := { maxSteps := 2000000 }) -implicitDefEqProofs (disch := (first | omega | rfl | assumption | (simp only [put_next, bump_next, kill_next, List.length_cons, List.length_nil, List.mem_cons, List.not_mem_nil, or_false, not_false_eq_true]; first | omega | assumption))) only [handles_Handles__id, handles_Handles__id_c, a1, Nat.reduceAdd, Nat.reduceMul, Nat.reduceLT, Int.reduceToNat, Int.reduceAdd, Int.reduceSub, Int.reduceMul, s_beq, List.length_cons, List.length_nil, List.getD_cons_zero, List.getD_cons_succ, List.getElem?_cons_zero, List.getElem?_cons_succ, Option.bind_some, Option.bind_assoc, s_bindN, asI_i, asB_b, asS_s, asP_p, asPS_p, asSl_sl, s_agg, s_tup, s_fn, joinB, joinI, joinR, beq_true, beq_false, Bool.not_true, Bool.not_false, Bool.not_not, cond_true, cond_false, neI, s_mapS, bindS_inl, bindS_inr, Bool.and_true, Bool.true_and, Bool.and_false, Bool.false_and, s_isNoneS, s_isNoneN, s_ref, s_adv, s_ldf, s_ld, s_ldM, s_st, s_stM, s_bs, s_bn, s_pp, bump_blk, bump_next, put_next, splice_z, splice_zz, splice_s, s_decT, s_decF, s_eqT, s_eqF, s_i64, s_u64, s_u8, Int.toNat_natCast, Nat.zero_add, s_room, s_chkT, s_rdSl, s_wrSl, s_ldN, s_ldNM, s_ldNf, List.drop_zero, List.take_succ_cons, List.take_zero, List.take_nil, List.take_length, Nat.mul_one, List.flatten_cons, List.flatten_nil, List.append_nil, List.nil_append, List.cons_append]
    exact Ok_some.2 ⟨rfl, M, 0, h, Wrt.refl h.p.now, by omega, by omega, Keep.refl _ _⟩
  obtain ⟨i, hi⟩ : ∃ i : Nat, t % 1048576 = i := ⟨(t % 1048576).toNat, by omega⟩
  obtain ⟨g, hg⟩ : ∃ g : Nat, t / 1048576 = g := ⟨(t / 1048576).toNat, by omega⟩
  have htk : t = tok i g := by unfold tok; omega
  have a1 : ibits .and .i64 t 1048575 = i := by rw [and20 ht, hi]
  have a2 : Int.fdiv t (2 ^ 20) = g := by
    rw [Int.fdiv_eq_ediv_of_nonneg _ (by decide), show (2 : Int) ^ 20 = 1048576 from rfl, hg]
  have hfew := h.few
  cases he : P.E[i]? with
  | none =>
    have hl := List.getElem?_eq_none_iff.1 he
    have tn := ptaken_no h.p ⟨by omega, by omega⟩ (id := (i : Int) + 1) (.inr (by omega))
    simp (config := { maxSteps := 2000000 }) -implicitDefEqProofs (disch := (first | omega | rfl | assumption | (simp only [put_next, bump_next, kill_next, List.length_cons, List.length_nil, List.mem_cons, List.not_mem_nil, or_false, not_false_eq_true]; first | omega | assumption))) only [handles_Handles__id, handles_Handles__id_c, a1, a2, hbb, tn, Nat.reduceAdd, Nat.reduceMul, Nat.reduceLT, Int.reduceToNat, Int.reduceAdd, Int.reduceSub, Int.reduceMul, s_beq, List.length_cons, List.length_nil, List.getD_cons_zero, List.getD_cons_succ, List.getElem?_cons_zero, List.getElem?_cons_succ, Option.bind_some, Option.bind_assoc, s_bindN, asI_i, asB_b, asS_s, asP_p, asPS_p, asSl_sl, s_agg, s_tup, s_fn, joinB, joinI, joinR, beq_true, beq_false, Bool.not_true, Bool.not_false, Bool.not_not, cond_true, cond_false, neI, s_mapS, bindS_inl, bindS_inr, Bool.and_true, Bool.true_and, Bool.and_false, Bool.false_and, s_isNoneS, s_isNoneN, s_ref, s_adv, s_ldf, s_ld, s_ldM, s_st, s_stM, s_bs, s_bn, s_pp, bump_blk, bump_next, put_next, splice_z, splice_zz, splice_s, s_decT, s_decF, s_eqT, s_eqF, s_i64, s_u64, s_u8, Int.toNat_natCast, Nat.zero_add, s_room, s_chkT, s_rdSl, s_wrSl, s_ldN, s_ldNM, s_ldNf, List.drop_zero, List.take_succ_cons, List.take_zero, List.take_nil, List.take_length, Nat.mul_one, List.flatten_cons, List.flatten_nil, List.append_nil, List.nil_append, List.cons_append]
    exact Ok_some.2 ⟨rfl, M, 0, h, Wrt.refl h.p.now, by omega, by omega, Keep.refl _ _⟩
  | some e =>
    simp (config := { maxSteps := 2000000 }) -implicitDefEqProofs (disch := (first | omega | rfl | assumption | (simp only [put_next, bump_next, kill_next, List.length_cons, List.length_nil, List.mem_cons, List.not_mem_nil, or_false, not_false_eq_true]; first | omega | assumption))) only [handles_Handles__id, handles_Handles__id_c, a1, a2, hbb, Nat.reduceAdd, Nat.reduceMul, Nat.reduceLT, Int.reduceToNat, Int.reduceAdd, Int.reduceSub, Int.reduceMul, s_beq, List.length_cons, List.length_nil, List.getD_cons_zero, List.getD_cons_succ, List.getElem?_cons_zero, List.getElem?_cons_succ, Option.bind_some, Option.bind_assoc, s_bindN, asI_i, asB_b, asS_s, asP_p, asPS_p, asSl_sl, s_agg, s_tup, s_fn, joinB, joinI, joinR, beq_true, beq_false, Bool.not_true, Bool.not_false, Bool.not_not, cond_true, cond_false, neI, s_mapS, bindS_inl, bindS_inr, Bool.and_true, Bool.true_and, Bool.and_false, Bool.false_and, s_isNoneS, s_isNoneN, s_ref, s_adv, s_ldf, s_ld, s_ldM, s_st, s_stM, s_bs, s_bn, s_pp, bump_blk, bump_next, put_next, splice_z, splice_zz, splice_s, s_decT, s_decF, s_eqT, s_eqF, s_i64, s_u64, s_u8, Int.toNat_natCast, Nat.zero_add, s_room, s_chkT, s_rdSl, s_wrSl, s_ldN, s_ldNM, s_ldNf, List.drop_zero, List.take_succ_cons, List.take_zero, List.take_nil, List.take_length, Nat.mul_one, List.flatten_cons, List.flatten_nil, List.append_nil, List.nil_append, List.cons_append]
    refine Ok.step (ptaken_ok h.p ⟨by omega, by omega⟩ he) fun r ⟨k1, M1, k2, k3, k4⟩ => ?_
    obtain ⟨q, σ1⟩ := r
    simp only at k1 k2 k4
    subst k1
    have hb1 : σ1.blk hb = _ := k4.head.trans hbb
    have r1 := k3.r
    have w1 := k3.w
    cases hk : e.tk with
    | false =>
      simp (config := { maxSteps := 2000000 }) -implicitDefEqProofs (disch := (first | omega | rfl | assumption | (simp only [put_next, bump_next, kill_next, List.length_cons, List.length_nil, List.mem_cons, List.not_mem_nil, or_false, not_false_eq_true]; first | omega | assumption))) only [Nat.reduceAdd, Nat.reduceMul, Nat.reduceLT, Int.reduceToNat, Int.reduceAdd, Int.reduceSub, Int.reduceMul, s_beq, List.length_cons, List.length_nil, List.getD_cons_zero, List.getD_cons_succ, List.getElem?_cons_zero, List.getElem?_cons_succ, Option.bind_some, Option.bind_assoc, s_bindN, asI_i, asB_b, asS_s, asP_p, asPS_p, asSl_sl, s_agg, s_tup, s_fn, joinB, joinI, joinR, beq_true, beq_false, Bool.not_true, Bool.not_false, Bool.not_not, cond_true, cond_false, neI, s_mapS, bindS_inl, bindS_inr, Bool.and_true, Bool.true_and, Bool.and_false, Bool.false_and, s_isNoneS, s_isNoneN, s_ref, s_adv, s_ldf, s_ld, s_ldM, s_st, s_stM, s_bs, s_bn, s_pp, bump_blk, bump_next, put_next, splice_z, splice_zz, splice_s, s_decT, s_decF, s_eqT, s_eqF, s_i64, s_u64, s_u8, Int.toNat_natCast, Nat.zero_add, s_room, s_chkT, s_rdSl, s_wrSl, s_ldN, s_ldNM, s_ldNf, List.drop_zero, List.take_succ_cons, List.take_zero, List.take_nil, List.take_length, Nat.mul_one, List.flatten_cons, List.flatten_nil, List.append_nil, List.nil_append, List.cons_append]
      exact Ok_some.2 ⟨rfl, M1, 1, h.kp k2 k4, k3, by omega, by omega, k4.tail⟩
    | true =>
      have hne : e.gen ≠ g := fun eg => hv i g (e.ws[0]?) (by rw [vw_mk he, hk, eg]) htk
      simp (config := { maxSteps := 2000000 }) -implicitDefEqProofs (disch := (first | omega | rfl | assumption | (simp only [put_next, bump_next, kill_next, List.length_cons, List.length_nil, List.mem_cons, List.not_mem_nil, or_false, not_false_eq_true]; first | omega | assumption))) only [hb1, Nat.reduceAdd, Nat.reduceMul, Nat.reduceLT, Int.reduceToNat, Int.reduceAdd, Int.reduceSub, Int.reduceMul, s_beq, List.length_cons, List.length_nil, List.getD_cons_zero, List.getD_cons_succ, List.getElem?_cons_zero, List.getElem?_cons_succ, Option.bind_some, Option.bind_assoc, s_bindN, asI_i, asB_b, asS_s, asP_p, asPS_p, asSl_sl, s_agg, s_tup, s_fn, joinB, joinI, joinR, beq_true, beq_false, Bool.not_true, Bool.not_false, Bool.not_not, cond_true, cond_false, neI, s_mapS, bindS_inl, bindS_inr, Bool.and_true, Bool.true_and, Bool.and_false, Bool.false_and, s_isNoneS, s_isNoneN, s_ref, s_adv, s_ldf, s_ld, s_ldM, s_st, s_stM, s_bs, s_bn, s_pp, bump_blk, bump_next, put_next, splice_z, splice_zz, splice_s, s_decT, s_decF, s_eqT, s_eqF, s_i64, s_u64, s_u8, Int.toNat_natCast, Nat.zero_add, s_room, s_chkT, s_rdSl, s_wrSl, s_ldN, s_ldNM, s_ldNf, List.drop_zero, List.take_succ_cons, List.take_zero, List.take_nil, List.take_length, Nat.mul_one, List.flatten_cons, List.flatten_nil, List.append_nil, List.nil_append, List.cons_append]
      refine Ok.step (pgen_ok k2 ⟨by omega, by omega⟩ he) fun r ⟨q1, M2, q2, q3, q4⟩ => ?_
      obtain ⟨q, σ2⟩ := r
      simp only at q1 q2 q4
      subst q1
      have e1 : ((e.gen : Int) != (g : Int)) = true := by simp; omega
      have e2 : ((e.gen : Int) == (g : Int)) = false := by simp; omega
      simp (config := { maxSteps := 2000000 }) -implicitDefEqProofs (disch := (first | omega | rfl | assumption | (simp only [put_next, bump_next, kill_next, List.length_cons, List.length_nil, List.mem_cons, List.not_mem_nil, or_false, not_false_eq_true]; first | omega | assumption))) only [e1, e2, Nat.reduceAdd, Nat.reduceMul, Nat.reduceLT, Int.reduceToNat, Int.reduceAdd, Int.reduceSub, Int.reduceMul, s_beq, List.length_cons, List.length_nil, List.getD_cons_zero, List.getD_cons_succ, List.getElem?_cons_zero, List.getElem?_cons_succ, Option.bind_some, Option.bind_assoc, s_bindN, asI_i, asB_b, asS_s, asP_p, asPS_p, asSl_sl, s_agg, s_tup, s_fn, joinB, joinI, joinR, beq_true, beq_false, Bool.not_true, Bool.not_false, Bool.not_not, cond_true, cond_false, neI, s_mapS, bindS_inl, bindS_inr, Bool.and_true, Bool.true_and, Bool.and_false, Bool.false_and, s_isNoneS, s_isNoneN, s_ref, s_adv, s_ldf, s_ld, s_ldM, s_st, s_stM, s_bs, s_bn, s_pp, bump_blk, bump_next, put_next, splice_z, splice_zz, splice_s, s_decT, s_decF, s_eqT, s_eqF, s_i64, s_u64, s_u8, Int.toNat_natCast, Nat.zero_add, s_room, s_chkT, s_rdSl, s_wrSl, s_ldN, s_ldNM, s_ldNf, List.drop_zero, List.take_succ_cons, List.take_zero, List.take_nil, List.take_length, Nat.mul_one, List.flatten_cons, List.flatten_nil, List.append_nil, List.nil_append, List.cons_append]
      exact Ok_some.2 ⟨rfl, M2, 2, h.kp q2 (k4.trans q4), (k3.trans q3).as rfl (by omega) (by omega), by omega, by omega, (k4.trans q4).tail⟩
theorem hget_no {t : Int} (ht : -9223372036854775808 ≤ t ∧ t ≤ 9223372036854775807) (hv : ∀ i g x, vw P.E i = some (true, g, x) → t ≠ tok i g) : Ok (handles_Handles__Get [.p (some (.n hb, 0)), .i .i64 t] σ) fun r => r.1 = .tup [.i .u64 0, .i .i64 30] ∧ ∃ M' dr, HanAt r.2 hb pb mb M' P C w X ∧ Wrt M M' P.id w dr 0 ∧ 0 ≤ dr ∧ dr ≤ 2 ∧ Keep X σ r.2 := by
  simp (config := { maxSteps := 2000000 }) -implicitDefEqProofs (disch := (first | omega | rfl | assumption | (simp only [put_next, bump_next, kill_next, List.length_cons, List.length_nil, List.mem_cons, List.not_mem_nil, or_false, not_false_eq_true]; first | omega | assumption))) only [handles_Handles__Get, handles_Handles__Get_c, Nat.reduceAdd, Nat.reduceMul, Nat.reduceLT, Int.reduceToNat, Int.reduceAdd, Int.reduceSub, Int.reduceMul, s_beq, List.length_cons, List.length_nil, List.getD_cons_zero, List.getD_cons_succ, List.getElem?_cons_zero, List.getElem?_cons_succ, Option.bind_some, Option.bind_assoc, s_bindN, asI_i, asB_b, asS_s, asP_p, asPS_p, asSl_sl, s_agg, s_tup, s_fn, joinB, joinI, joinR, beq_true, beq_false, Bool.not_true, Bool.not_false, Bool.not_not, cond_true, cond_false, neI, s_mapS, bindS_inl, bindS_inr, Bool.and_true, Bool.true_and, Bool.and_false, Bool.false_and, s_isNoneS, s_isNoneN, s_ref, s_adv, s_ldf, s_ld, s_ldM, s_st, s_stM, s_bs, s_bn, s_pp, bump_blk, bump_next, put_next, splice_z, splice_zz, splice_s, s_decT, s_decF, s_eqT, s_eqF, s_i64, s_u64, s_u8, Int.toNat_natCast, Nat.zero_add, s_room, s_chkT, s_rdSl, s_wrSl, s_ldN, s_ldNM, s_ldNf, List.drop_zero, List.take_succ_cons, List.take_zero, List.take_nil, List.take_length, Nat.mul_one, List.flatten_cons, List.flatten_nil, List.append_nil, List.nil_append, List.cons_append]
  refine Ok.step (hid_no h hm ht hv) fun r ⟨k1, k2⟩ => ?_
  obtain ⟨q, σ1⟩ := r
  simp only at k1 k2
  subst k1
  have e1 : ((30 : Int) != 0) = true := rfl
  simp (config := { maxSteps := 2000000 }) -implicitDefEqProofs (disch := (first | omega | rfl | assumption | (simp only [put_next, bump_next, kill_next, List.length_cons, List.length_nil, List.mem_cons, List.not_mem_nil, or_false, not_false_eq_true]; first | omega | assumption))) only [e1, Nat.reduceAdd, Nat.reduceMul, Nat.reduceLT, Int.reduceToNat, Int.reduceAdd, Int.reduceSub, Int.reduceMul, s_beq, List.length_cons, List.length_nil, List.getD_cons_zero, List.getD_cons_succ, List.getElem?_cons_zero, List.getElem?_cons_succ, Option.bind_some, Option.bind_assoc, s_bindN, asI_i, asB_b, asS_s, asP_p, asPS_p, asSl_sl, s_agg, s_tup, s_fn, joinB, joinI, joinR, beq_true, beq_false, Bool.not_true, Bool.not_false, Bool.not_not, cond_true, cond_false, neI, s_mapS, bindS_inl, bindS_inr, Bool.and_true, Bool.true_and, Bool.and_false, Bool.false_and, s_isNoneS, s_isNoneN, s_ref, s_adv, s_ldf, s_ld, s_ldM, s_st, s_stM, s_bs, s_bn, s_pp, bump_blk, bump_next, put_next, splice_z, splice_zz, splice_s, s_decT, s_decF, s_eqT, s_eqF, s_i64, s_u64, s_u8, Int.toNat_natCast, Nat.zero_add, s_room, s_chkT, s_rdSl, s_wrSl, s_ldN, s_ldNM, s_ldNf, List.drop_zero, List.take_succ_cons, List.take_zero, List.take_nil, List.take_length, Nat.mul_one, List.flatten_cons, List.flatten_nil, List.append_nil, List.nil_append, List.cons_append]
  exact Ok_some.2 ⟨rfl, k2⟩
theorem hset_no {t x : Int} (ht : -9223372036854775808 ≤ t ∧ t ≤ 9223372036854775807) (hv : ∀ i g x, vw P.E i = some (true, g, x) → t ≠ tok i g) : Ok (handles_Handles__Set [.p (some (.n hb, 0)), .i .i64 t, .i .u64 x] σ) fun r => r.1 = .i .i64 30 ∧ ∃ M' dr, HanAt r.2 hb pb mb M' P C w X ∧ Wrt M M' P.id w dr 0 ∧ 0 ≤ dr ∧ dr ≤ 2 ∧ Keep X σ r.2 := by
  simp (config := { maxSteps := 2000000 }) -implicitDefEqProofs (disch := (first | omega | rfl | assumption | (simp only [put_next, bump_next, kill_next, List.length_cons, List.length_nil, List.mem_cons, List.not_mem_nil, or_false, not_false_eq_true]; first | omega | assumption))) only [handles_Handles__Set, handles_Handles__Set_c, Nat.reduceAdd, Nat.reduceMul, Nat.reduceLT, Int.reduceToNat, Int.reduceAdd, Int.reduceSub, Int.reduceMul, s_beq, List.length_cons, List.length_nil, List.getD_cons_zero, List.getD_cons_succ, List.getElem?_cons_zero, List.getElem?_cons_succ, Option.bind_some, Option.bind_assoc, s_bindN, asI_i, asB_b, asS_s, asP_p, asPS_p, asSl_sl, s_agg, s_tup, s_fn, joinB, joinI, joinR, beq_true, beq_false, Bool.not_true, Bool.not_false, Bool.not_not, cond_true, cond_false, neI, s_mapS, bindS_inl, bindS_inr, Bool.and_true, Bool.true_and, Bool.and_false, Bool.false_and, s_isNoneS, s_isNoneN, s_ref, s_adv, s_ldf, s_ld, s_ldM, s_st, s_stM, s_bs, s_bn, s_pp, bump_blk, bump_next, put_next, splice_z, splice_zz, splice_s, s_decT, s_decF, s_eqT, s_eqF, s_i64, s_u64, s_u8, Int.toNat_natCast, Nat.zero_add, s_room, s_chkT, s_rdSl, s_wrSl, s_ldN, s_ldNM, s_ldNf, List.drop_zero, List.take_succ_cons, List.take_zero, List.take_nil, List.take_length, Nat.mul_one, List.flatten_cons, List.flatten_nil, List.append_nil, List.nil_append, List.cons_append]
  refine Ok.step (hid_no h hm ht hv) fun r ⟨k1, k2⟩ => ?_
  obtain ⟨q, σ1⟩ := r
  simp only at k1 k2
  subst k1
  have e1 : ((30 : Int) != 0) = true := rfl
  simp (config := { maxSteps := 2000000 }) -implicitDefEqProofs (disch := (first | omega | rfl | assumption | (simp only [put_next, bump_next, kill_next, List.length_cons, List.length_nil, List.mem_cons, List.not_mem_nil, or_false, not_false_eq_true]; first | omega | assumption))) only [e1, Nat.reduceAdd, Nat.reduceMul, Nat.reduceLT, Int.reduceToNat, Int.reduceAdd, Int.reduceSub, Int.reduceMul, s_beq, List.length_cons, List.length_nil, List.getD_cons_zero, List.getD_cons_succ, List.getElem?_cons_zero, List.getElem?_cons_succ, Option.bind_some, Option.bind_assoc, s_bindN, asI_i, asB_b, asS_s, asP_p, asPS_p, asSl_sl, s_agg, s_tup, s_fn, joinB, joinI, joinR, beq_true, beq_false, Bool.not_true, Bool.not_false, Bool.not_not, cond_true, cond_false, neI, s_mapS, bindS_inl, bindS_inr, Bool.and_true, Bool.true_and, Bool.and_false, Bool.false_and, s_isNoneS, s_isNoneN, s_ref, s_adv, s_ldf, s_ld, s_ldM, s_st, s_stM, s_bs, s_bn, s_pp, bump_blk, bump_next, put_next, splice_z, splice_zz, splice_s, s_decT, s_decF, s_eqT, s_eqF, s_i64, s_u64, s_u8, Int.toNat_natCast, Nat.zero_add, s_room, s_chkT, s_rdSl, s_wrSl, s_ldN, s_ldNM, s_ldNf, List.drop_zero, List.take_succ_cons, List.take_zero, List.take_nil, List.take_length, Nat.mul_one, List.flatten_cons, List.flatten_nil, List.append_nil, List.nil_append, List.cons_append]
  exact Ok_some.2 ⟨rfl, k2⟩
theorem hdrop_no {t : Int} (ht : -9223372036854775808 ≤ t ∧ t ≤ 9223372036854775807) (hv : ∀ i g x, vw P.E i = some (true, g, x) → t ≠ tok i g) : Ok (handles_Handles__Drop [.p (some (.n hb, 0)), .i .i64 t] σ) fun r => r.1 = .i .i64 30 ∧ ∃ M' dr, HanAt r.2 hb pb mb M' P C w X ∧ Wrt M M' P.id w dr 0 ∧ 0 ≤ dr ∧ dr ≤ 2 ∧ Keep X σ r.2 := by
  simp (config := { maxSteps := 2000000 }) -implicitDefEqProofs (disch := (first | omega | rfl | assumption | (simp only [put_next, bump_next, kill_next, List.length_cons, List.length_nil, List.mem_cons, List.not_mem_nil, or_false, not_false_eq_true]; first | omega | assumption))) only [handles_Handles__Drop, handles_Handles__Drop_c, Nat.reduceAdd, Nat.reduceMul, Nat.reduceLT, Int.reduceToNat, Int.reduceAdd, Int.reduceSub, Int.reduceMul, s_beq, List.length_cons, List.length_nil, List.getD_cons_zero, List.getD_cons_succ, List.getElem?_cons_zero, List.getElem?_cons_succ, Option.bind_some, Option.bind_assoc, s_bindN, asI_i, asB_b, asS_s, asP_p, asPS_p, asSl_sl, s_agg, s_tup, s_fn, joinB, joinI, joinR, beq_true, beq_false, Bool.not_true, Bool.not_false, Bool.not_not, cond_true, cond_false, neI, s_mapS, bindS_inl, bindS_inr, Bool.and_true, Bool.true_and, Bool.and_false, Bool.false_and, s_isNoneS, s_isNoneN, s_ref, s_adv, s_ldf, s_ld, s_ldM, s_st, s_stM, s_bs, s_bn, s_pp, bump_blk, bump_next, put_next, splice_z, splice_zz, splice_s, s_decT, s_decF, s_eqT, s_eqF, s_i64, s_u64, s_u8, Int.toNat_natCast, Nat.zero_add, s_room, s_chkT, s_rdSl, s_wrSl, s_ldN, s_ldNM, s_ldNf, List.drop_zero, List.take_succ_cons, List.take_zero, List.take_nil, List.take_length, Nat.mul_one, List.flatten_cons, List.flatten_nil, List.append_nil, List.nil_append, List.cons_append]
  refine Ok.step (hid_no h hm ht hv) fun r ⟨k1, k2⟩ => ?_
  obtain ⟨q, σ1⟩ := r
  simp only at k1 k2
  subst k1
  have e1 : ((30 : Int) != 0) = true := rfl
  simp (config := { maxSteps := 2000000 }) -implicitDefEqProofs (disch := (first | omega | rfl | assumption | (simp only [put_next, bump_next, kill_next, List.length_cons, List.length_nil, List.mem_cons, List.not_mem_nil, or_false, not_false_eq_true]; first | omega | assumption))) only [e1, Nat.reduceAdd, Nat.reduceMul, Nat.reduceLT, Int.reduceToNat, Int.reduceAdd, Int.reduceSub, Int.reduceMul, s_beq, List.length_cons, List.length_nil, List.getD_cons_zero, List.getD_cons_succ, List.getElem?_cons_zero, List.getElem?_cons_succ, Option.bind_some, Option.bind_assoc, s_bindN, asI_i, asB_b, asS_s, asP_p, asPS_p, asSl_sl, s_agg, s_tup, s_fn, joinB, joinI, joinR, beq_true, beq_false, Bool.not_true, Bool.not_false, Bool.not_not, cond_true, cond_false, neI, s_mapS, bindS_inl, bindS_inr, Bool.and_true, Bool.true_and, Bool.and_false, Bool.false_and, s_isNoneS, s_isNoneN, s_ref, s_adv, s_ldf, s_ld, s_ldM, s_st, s_stM, s_bs, s_bn, s_pp, bump_blk, bump_next, put_next, splice_z, splice_zz, splice_s, s_decT, s_decF, s_eqT, s_eqF, s_i64, s_u64, s_u8, Int.toNat_natCast, Nat.zero_add, s_room, s_chkT, s_rdSl, s_wrSl, s_ldN, s_ldNM, s_ldNf, List.drop_zero, List.take_succ_cons, List.take_zero, List.take_nil, List.take_length, Nat.mul_one, List.flatten_cons, List.flatten_nil, List.append_nil, List.nil_append, List.cons_append]
  exact Ok_some.2 ⟨rfl, k2⟩
theorem hget_ok {i g : Nat} {x : Int} (hv : vw P.E i = some (true, g, some x)) : Ok (handles_Handles__Get [.p (some (.n hb, 0)), .i .i64 (tok i g)] σ) fun r => r.1 = .tup [.i .u64 x, .i .i64 0] ∧ ∃ M', HanAt r.2 hb pb mb M' P C w X ∧ Wrt M M' P.id w 4 0 ∧ Keep X σ r.2 := by
  obtain ⟨e, he, htk, hg, hx⟩ := vw_some hv
  have hw := h.words
  simp (config := { maxSteps := 2000000 }) -implicitDefEqProofs (disch := (first | omega | rfl | assumption | (simp only [put_next, bump_next, kill_next, List.length_cons, List.length_nil, List.mem_cons, List.not_mem_nil, or_false, not_false_eq_true]; first | omega | assumption))) only [handles_Handles__Get, handles_Handles__Get_c, Nat.reduceAdd, Nat.reduceMul, Nat.reduceLT, Int.reduceToNat, Int.reduceAdd, Int.reduceSub, Int.reduceMul, s_beq, List.length_cons, List.length_nil, List.getD_cons_zero, List.getD_cons_succ, List.getElem?_cons_zero, List.getElem?_cons_succ, Option.bind_some, Option.bind_assoc, s_bindN, asI_i, asB_b, asS_s, asP_p, asPS_p, asSl_sl, s_agg, s_tup, s_fn, joinB, joinI, joinR, beq_true, beq_false, Bool.not_true, Bool.not_false, Bool.not_not, cond_true, cond_false, neI, s_mapS, bindS_inl, bindS_inr, Bool.and_true, Bool.true_and, Bool.and_false, Bool.false_and, s_isNoneS, s_isNoneN, s_ref, s_adv, s_ldf, s_ld, s_ldM, s_st, s_stM, s_bs, s_bn, s_pp, bump_blk, bump_next, put_next, splice_z, splice_zz, splice_s, s_decT, s_decF, s_eqT, s_eqF, s_i64, s_u64, s_u8, Int.toNat_natCast, Nat.zero_add, s_room, s_chkT, s_rdSl, s_wrSl, s_ldN, s_ldNM, s_ldNf, List.drop_zero, List.take_succ_cons, List.take_zero, List.take_nil, List.take_length, Nat.mul_one, List.flatten_cons, List.flatten_nil, List.append_nil, List.nil_append, List.cons_append]
  refine Ok.step (hid_yes h hm hv) fun r ⟨k1, M1, k2, k3, k4⟩ => ?_
  obtain ⟨q, σ1⟩ := r
  simp only at k1 k2 k4
  subst k1
  have e1 : ((0 : Int) != 0) = false := rfl
  obtain ⟨el, hb1⟩ := k2.b
  have r1 := k3.r
  have w1 := k3.w
  simp (config := { maxSteps := 2000000 }) -implicitDefEqProofs (disch := (first | omega | rfl | assumption | (simp only [put_next, bump_next, kill_next, List.length_cons, List.length_nil, List.mem_cons, List.not_mem_nil, or_false, not_false_eq_true]; first | omega | assumption))) only [e1, hb1, Nat.reduceAdd, Nat.reduceMul, Nat.reduceLT, Int.reduceToNat, Int.reduceAdd, Int.reduceSub, Int.reduceMul, s_beq, List.length_cons, List.length_nil, List.getD_cons_zero, List.getD_cons_succ, List.getElem?_cons_zero, List.getElem?_cons_succ, Option.bind_some, Option.bind_assoc, s_bindN, asI_i, asB_b, asS_s, asP_p, asPS_p, asSl_sl, s_agg, s_tup, s_fn, joinB, joinI, joinR, beq_true, beq_false, Bool.not_true, Bool.not_false, Bool.not_not, cond_true, cond_false, neI, s_mapS, bindS_inl, bindS_inr, Bool.and_true, Bool.true_and, Bool.and_false, Bool.false_and, s_isNoneS, s_isNoneN, s_ref, s_adv, s_ldf, s_ld, s_ldM, s_st, s_stM, s_bs, s_bn, s_pp, bump_blk, bump_next, put_next, splice_z, splice_zz, splice_s, s_decT, s_decF, s_eqT, s_eqF, s_i64, s_u64, s_u8, Int.toNat_natCast, Nat.zero_add, s_room, s_chkT, s_rdSl, s_wrSl, s_ldN, s_ldNM, s_ldNf, List.drop_zero, List.take_succ_cons, List.take_zero, List.take_nil, List.take_length, Nat.mul_one, List.flatten_cons, List.flatten_nil, List.append_nil, List.nil_append, List.cons_append]
  have g0 := pget_ok k2.p ⟨by omega, by omega⟩ (k := 0) he htk (by omega) (by omega)
  rw [show ((0 : Nat) : Int) = 0 from rfl] at g0
  refine Ok.step g0 fun q ⟨q1, M2, q2, q3, q4⟩ => ?_
  obtain ⟨q, σ2⟩ := q
  simp only at q1 q2 q4
  rw [List.getD_eq_getElem?_getD, hx] at q1
  simp only [Option.getD_some] at q1
  subst q1
  simp (config := { maxSteps := 2000000 }) -implicitDefEqProofs (disch := (first | omega | rfl | assumption | (simp only [put_next, bump_next, kill_next, List.length_cons, List.length_nil, List.mem_cons, List.not_mem_nil, or_false, not_false_eq_true]; first | omega | assumption))) only [Nat.reduceAdd, Nat.reduceMul, Nat.reduceLT, Int.reduceToNat, Int.reduceAdd, Int.reduceSub, Int.reduceMul, s_beq, List.length_cons, List.length_nil, List.getD_cons_zero, List.getD_cons_succ, List.getElem?_cons_zero, List.getElem?_cons_succ, Option.bind_some, Option.bind_assoc, s_bindN, asI_i, asB_b, asS_s, asP_p, asPS_p, asSl_sl, s_agg, s_tup, s_fn, joinB, joinI, joinR, beq_true, beq_false, Bool.not_true, Bool.not_false, Bool.not_not, cond_true, cond_false, neI, s_mapS, bindS_inl, bindS_inr, Bool.and_true, Bool.true_and, Bool.and_false, Bool.false_and, s_isNoneS, s_isNoneN, s_ref, s_adv, s_ldf, s_ld, s_ldM, s_st, s_stM, s_bs, s_bn, s_pp, bump_blk, bump_next, put_next, splice_z, splice_zz, splice_s, s_decT, s_decF, s_eqT, s_eqF, s_i64, s_u64, s_u8, Int.toNat_natCast, Nat.zero_add, s_room, s_chkT, s_rdSl, s_wrSl, s_ldN, s_ldNM, s_ldNf, List.drop_zero, List.take_succ_cons, List.take_zero, List.take_nil, List.take_length, Nat.mul_one, List.flatten_cons, List.flatten_nil, List.append_nil, List.nil_append, List.cons_append]
  exact Ok_some.2 ⟨rfl, M2, k2.kp q2 q4, (k3.trans q3).as rfl (by omega) (by omega), k4.trans q4.tail⟩
end
end Go.Abs.Try
