/-
  The statement MemHolds: what is run returns true. No conditions.
-/
import Derived.Test.YtjfblnpolgoojaaM8f
set_option linter.unusedVariables false
set_option linter.unusedSimpArgs false
set_option linter.constructorNameAsVariable false
set_option linter.unusedSimpArgs false
set_option linter.unusedVariables false
set_option maxHeartbeats 2000000
namespace Go.Abs.Try
open Go Go.Abs
variable {O : Type}

structure MOp where
  kind : Int
  a : Int
  b : Int
  c : Int
  d : Int
  n : Int
  w : Int
def MOp.cells (o : MOp) : List AV := [.i .i64 o.kind, .i .i64 o.a, .i .i64 o.b, .i .i64 o.c, .i .i64 o.d, .i .i64 o.n, .i .u64 o.w]
theorem MOp.len (o : MOp) : o.cells.length = 7 := rfl
def i64r (x : Int) : Prop := -9223372036854775808 ≤ x ∧ x ≤ 9223372036854775807
structure MOp.rng (o : MOp) : Prop where
  kind : i64r o.kind
  a : i64r o.a
  b : i64r o.b
  c : i64r o.c
  d : i64r o.d
  n : i64r o.n
  w : 0 ≤ o.w ∧ o.w < 18446744073709551616
/-- the calls that are made, in memory -/
structure Ops (sa : SA) (ops : List MOp) : Prop where
  imm : Imm 7 sa ops.length (ops.flatMap MOp.cells)
  rng : ∀ o ∈ ops, o.rng
theorem Ops.at {sa : SA} {ops : List MOp} (h : Ops sa ops) {i : Nat} {x : MOp} (hx : ops[i]? = some x) :
    ∃ b o, sa = .loc b o 7 ∧ (∀ (O : Type) (σ : AH O), σ.ld b (o + i * 7) = some (.i .i64 x.kind)) ∧ (∀ (O : Type) (σ : AH O), σ.ld b (o + i * 7 + 1) = some (.i .i64 x.a)) ∧ (∀ (O : Type) (σ : AH O), σ.ld b (o + i * 7 + 1 + 1) = some (.i .i64 x.b)) ∧
      (∀ (O : Type) (σ : AH O), σ.ld b (o + i * 7 + 1 + 1 + 1) = some (.i .i64 x.c)) ∧ (∀ (O : Type) (σ : AH O), σ.ld b (o + i * 7 + 1 + 1 + 1 + 1) = some (.i .i64 x.d)) ∧ (∀ (O : Type) (σ : AH O), σ.ld b (o + i * 7 + 1 + 1 + 1 + 1 + 1) = some (.i .i64 x.n)) ∧
      (∀ (O : Type) (σ : AH O), σ.ld b (o + i * 7 + 1 + 1 + 1 + 1 + 1 + 1) = some (.i .u64 x.w)) ∧ (∀ (O : Type) (σ : AH O), σ.ld b (o + i * 7 + 5) = some (.i .i64 x.n)) := by
  obtain ⟨b, o, rfl, g⟩ := h.imm.row MOp.len hx (by omega)
  exact ⟨b, o, rfl, fun O σ => g O σ 0 (by omega), fun O σ => g O σ 1 (by omega), fun O σ => g O σ 2 (by omega), fun O σ => g O σ 3 (by omega), fun O σ => g O σ 4 (by omega), fun O σ => g O σ 5 (by omega), fun O σ => g O σ 6 (by omega), fun O σ => g O σ 5 (by omega)⟩

/-- what comes in, as calls -/
theorem opsOf {sa : SA} {els : List (List AV)} (hrow : ∀ el ∈ els, ∃ ns : List Int, el = List.zipWith AV.i [.i64, .i64, .i64, .i64, .i64, .i64, .u64] ns ∧ ns.length = 7 ∧ ∀ (i : Nat) (k : IntKind) (n : Int), ([.i64, .i64, .i64, .i64, .i64, .i64, .u64] : List IntKind)[i]? = some k → ns[i]? = some n → k.min ≤ n ∧ n ≤ k.max)
    (himm : Imm 7 sa els.length els.flatten) : ∃ ops : List MOp, els.length = ops.length ∧ Ops sa ops := by
  have : ∃ ops : List MOp, els = ops.map MOp.cells ∧ ∀ o ∈ ops, o.rng := by
    clear himm
    induction els with
    | nil => exact ⟨[], rfl, by simp⟩
    | cons el els ih =>
      obtain ⟨ops, e, hr⟩ := ih fun x hx => hrow x (List.mem_cons_of_mem _ hx)
      obtain ⟨ns, rfl, hl, hn⟩ := hrow el List.mem_cons_self
      match ns, hl with
      | [a, b, c, d, f, g, x], _ =>
        refine ⟨⟨a, b, c, d, f, g, x⟩ :: ops, by rw [e]; rfl, fun o ho => ?_⟩
        rcases List.mem_cons.1 ho with rfl | ho
        · exact ⟨wf_i64 (hn 0 _ _ rfl rfl), wf_i64 (hn 1 _ _ rfl rfl), wf_i64 (hn 2 _ _ rfl rfl), wf_i64 (hn 3 _ _ rfl rfl), wf_i64 (hn 4 _ _ rfl rfl), wf_i64 (hn 5 _ _ rfl rfl), wf_u64 (hn 6 _ _ rfl rfl)⟩
        · exact hr o ho
  obtain ⟨ops, rfl, hr⟩ := this
  refine ⟨ops, by simp, by simpa [List.flatMap_def] using himm, hr⟩
theorem few_ok {σ : AH O} {sa : SA} {ops : List MOp} (h : Ops sa ops) : Ok (law08_few [.sl sa ops.length] σ) fun r => ∃ b, r = (.b b, σ) ∧ (b = true → ops.length ≤ 60 ∧ ∀ o ∈ ops, (o.kind = 0 ∨ o.kind = 2) → o.n ≤ 200 ∨ o.n > 4194304) := by
  by_cases hb : (ops.length : Int) > 60
  · simp -implicitDefEqProofs (disch := (first | omega | rfl | assumption | (simp only [put_next, bump_next, kill_next, List.length_cons, List.length_nil, List.mem_cons, List.not_mem_nil, or_false, not_false_eq_true]; first | omega | assumption))) only [law08_few, law08_few_c, Nat.reduceAdd, Nat.reduceMul, Nat.reduceLT, s_beq, List.length_cons, List.length_nil, List.getD_cons_zero, List.getD_cons_succ, List.getElem?_cons_zero, List.getElem?_cons_succ, Option.bind_some, Option.bind_assoc, s_bindN, asI_i, asB_b, asS_s, asP_p, asPS_p, asSl_sl, s_agg, s_tup, s_fn, joinB, joinI, joinR, beq_true, beq_false, Bool.not_true, Bool.not_false, Bool.not_not, cond_true, cond_false, neI, s_mapS, bindS_inl, bindS_inr, Bool.and_true, Bool.true_and, Bool.and_false, Bool.false_and, s_isNoneS, s_isNoneN, s_ref, s_adv, s_ldf, s_ld, s_ldM, s_st, s_stM, s_bs, s_bn, s_pp, bump_blk, bump_next, put_next, splice_z, splice_zz, splice_s, s_decT, s_decF, s_eqT, s_eqF, s_i64, s_u64, s_u8, Int.toNat_natCast, Nat.zero_add, s_room, s_chkT, s_rdSl, s_wrSl, s_ldN, s_ldNM, s_ldNf, List.drop_zero, List.take_succ_cons, List.take_zero, List.take_nil, List.take_length, Nat.mul_one, List.flatten_cons, List.flatten_nil, List.append_nil, List.nil_append, List.cons_append]
    exact Ok_some.2 ⟨false, rfl, fun e => by cases e⟩
  simp -implicitDefEqProofs (disch := (first | omega | rfl | assumption | (simp only [put_next, bump_next, kill_next, List.length_cons, List.length_nil, List.mem_cons, List.not_mem_nil, or_false, not_false_eq_true]; first | omega | assumption))) only [law08_few, law08_few_c, Nat.reduceAdd, Nat.reduceMul, Nat.reduceLT, s_beq, List.length_cons, List.length_nil, List.getD_cons_zero, List.getD_cons_succ, List.getElem?_cons_zero, List.getElem?_cons_succ, Option.bind_some, Option.bind_assoc, s_bindN, asI_i, asB_b, asS_s, asP_p, asPS_p, asSl_sl, s_agg, s_tup, s_fn, joinB, joinI, joinR, beq_true, beq_false, Bool.not_true, Bool.not_false, Bool.not_not, cond_true, cond_false, neI, s_mapS, bindS_inl, bindS_inr, Bool.and_true, Bool.true_and, Bool.and_false, Bool.false_and, s_isNoneS, s_isNoneN, s_ref, s_adv, s_ldf, s_ld, s_ldM, s_st, s_stM, s_bs, s_bn, s_pp, bump_blk, bump_next, put_next, splice_z, splice_zz, splice_s, s_decT, s_decF, s_eqT, s_eqF, s_i64, s_u64, s_u8, Int.toNat_natCast, Nat.zero_add, s_room, s_chkT, s_rdSl, s_wrSl, s_ldN, s_ldNM, s_ldNf, List.drop_zero, List.take_succ_cons, List.take_zero, List.take_nil, List.take_length, Nat.mul_one, List.flatten_cons, List.flatten_nil, List.append_nil, List.nil_append, List.cons_append]
  refine Ok.bindS (Q := fun r => (r = .inl ([], σ) ∧ ∀ o ∈ ops, (o.kind = 0 ∨ o.kind = 2) → o.n ≤ 200 ∨ o.n > 4194304) ∨ r = .inr (.b false, σ)) ?_ ?_ ?_
  · refine Ok.count ops.length (fun k s => s = ([.i .i64 (k : Int)], σ) ∧ ∀ o ∈ ops.take k, (o.kind = 0 ∨ o.kind = 2) → o.n ≤ 200 ∨ o.n > 4194304) ?_ ?_ ⟨rfl, by simp⟩
    · rintro k s hk ⟨rfl, hq⟩
      have hx := List.getElem?_eq_getElem hk
      generalize ops[k] = x at hx
      have hr := h.rng x (List.mem_of_getElem? hx)
      obtain ⟨b, o, rfl, h0, h1, h2, h3, h4, h5, h6, h7⟩ := h.at hx
      have next : ((x.kind = 0 ∨ x.kind = 2) → x.n ≤ 200 ∨ x.n > 4194304) → ∀ o ∈ ops.take (k + 1), (o.kind = 0 ∨ o.kind = 2) → o.n ≤ 200 ∨ o.n > 4194304 := fun hh o ho => by
        rw [List.take_add_one, hx] at ho
        simp at ho
        rcases ho with ho | rfl
        · exact hq o ho
        · exact hh
      by_cases c0 : x.kind = 0 ∨ x.kind = 2
      · have ck : (bif !(x.kind == 0) then x.kind == 2 else true) = true := by rcases c0 with c | c <;> simp [c]
        by_cases c1 : x.n > 200
        · by_cases c2 : x.n ≤ 4194304
          · simp -implicitDefEqProofs (disch := (first | omega | rfl | assumption | (simp only [put_next, bump_next, kill_next, List.length_cons, List.length_nil, List.mem_cons, List.not_mem_nil, or_false, not_false_eq_true]; first | omega | assumption))) only [law08_few_L1, h0, h7, ck, Nat.reduceAdd, Nat.reduceMul, Nat.reduceLT, s_beq, List.length_cons, List.length_nil, List.getD_cons_zero, List.getD_cons_succ, List.getElem?_cons_zero, List.getElem?_cons_succ, Option.bind_some, Option.bind_assoc, s_bindN, asI_i, asB_b, asS_s, asP_p, asPS_p, asSl_sl, s_agg, s_tup, s_fn, joinB, joinI, joinR, beq_true, beq_false, Bool.not_true, Bool.not_false, Bool.not_not, cond_true, cond_false, neI, s_mapS, bindS_inl, bindS_inr, Bool.and_true, Bool.true_and, Bool.and_false, Bool.false_and, s_isNoneS, s_isNoneN, s_ref, s_adv, s_ldf, s_ld, s_ldM, s_st, s_stM, s_bs, s_bn, s_pp, bump_blk, bump_next, put_next, splice_z, splice_zz, splice_s, s_decT, s_decF, s_eqT, s_eqF, s_i64, s_u64, s_u8, Int.toNat_natCast, Nat.zero_add, s_room, s_chkT, s_rdSl, s_wrSl, s_ldN, s_ldNM, s_ldNf, List.drop_zero, List.take_succ_cons, List.take_zero, List.take_nil, List.take_length, Nat.mul_one, List.flatten_cons, List.flatten_nil, List.append_nil, List.nil_append, List.cons_append]
            exact Ok_some.2 (.inr rfl)
          · simp -implicitDefEqProofs (disch := (first | omega | rfl | assumption | (simp only [put_next, bump_next, kill_next, List.length_cons, List.length_nil, List.mem_cons, List.not_mem_nil, or_false, not_false_eq_true]; first | omega | assumption))) only [law08_few_L1, h0, h7, ck, Nat.reduceAdd, Nat.reduceMul, Nat.reduceLT, s_beq, List.length_cons, List.length_nil, List.getD_cons_zero, List.getD_cons_succ, List.getElem?_cons_zero, List.getElem?_cons_succ, Option.bind_some, Option.bind_assoc, s_bindN, asI_i, asB_b, asS_s, asP_p, asPS_p, asSl_sl, s_agg, s_tup, s_fn, joinB, joinI, joinR, beq_true, beq_false, Bool.not_true, Bool.not_false, Bool.not_not, cond_true, cond_false, neI, s_mapS, bindS_inl, bindS_inr, Bool.and_true, Bool.true_and, Bool.and_false, Bool.false_and, s_isNoneS, s_isNoneN, s_ref, s_adv, s_ldf, s_ld, s_ldM, s_st, s_stM, s_bs, s_bn, s_pp, bump_blk, bump_next, put_next, splice_z, splice_zz, splice_s, s_decT, s_decF, s_eqT, s_eqF, s_i64, s_u64, s_u8, Int.toNat_natCast, Nat.zero_add, s_room, s_chkT, s_rdSl, s_wrSl, s_ldN, s_ldNM, s_ldNf, List.drop_zero, List.take_succ_cons, List.take_zero, List.take_nil, List.take_length, Nat.mul_one, List.flatten_cons, List.flatten_nil, List.append_nil, List.nil_append, List.cons_append]
            exact Ok_some.2 ⟨by simp, next fun _ => by omega⟩
        · simp -implicitDefEqProofs (disch := (first | omega | rfl | assumption | (simp only [put_next, bump_next, kill_next, List.length_cons, List.length_nil, List.mem_cons, List.not_mem_nil, or_false, not_false_eq_true]; first | omega | assumption))) only [law08_few_L1, h0, h7, ck, Nat.reduceAdd, Nat.reduceMul, Nat.reduceLT, s_beq, List.length_cons, List.length_nil, List.getD_cons_zero, List.getD_cons_succ, List.getElem?_cons_zero, List.getElem?_cons_succ, Option.bind_some, Option.bind_assoc, s_bindN, asI_i, asB_b, asS_s, asP_p, asPS_p, asSl_sl, s_agg, s_tup, s_fn, joinB, joinI, joinR, beq_true, beq_false, Bool.not_true, Bool.not_false, Bool.not_not, cond_true, cond_false, neI, s_mapS, bindS_inl, bindS_inr, Bool.and_true, Bool.true_and, Bool.and_false, Bool.false_and, s_isNoneS, s_isNoneN, s_ref, s_adv, s_ldf, s_ld, s_ldM, s_st, s_stM, s_bs, s_bn, s_pp, bump_blk, bump_next, put_next, splice_z, splice_zz, splice_s, s_decT, s_decF, s_eqT, s_eqF, s_i64, s_u64, s_u8, Int.toNat_natCast, Nat.zero_add, s_room, s_chkT, s_rdSl, s_wrSl, s_ldN, s_ldNM, s_ldNf, List.drop_zero, List.take_succ_cons, List.take_zero, List.take_nil, List.take_length, Nat.mul_one, List.flatten_cons, List.flatten_nil, List.append_nil, List.nil_append, List.cons_append]
          exact Ok_some.2 ⟨by simp, next fun _ => by omega⟩
      · simp -implicitDefEqProofs (disch := (first | omega | rfl | assumption | (simp only [put_next, bump_next, kill_next, List.length_cons, List.length_nil, List.mem_cons, List.not_mem_nil, or_false, not_false_eq_true]; first | omega | assumption))) only [law08_few_L1, h0, h7, Nat.reduceAdd, Nat.reduceMul, Nat.reduceLT, s_beq, List.length_cons, List.length_nil, List.getD_cons_zero, List.getD_cons_succ, List.getElem?_cons_zero, List.getElem?_cons_succ, Option.bind_some, Option.bind_assoc, s_bindN, asI_i, asB_b, asS_s, asP_p, asPS_p, asSl_sl, s_agg, s_tup, s_fn, joinB, joinI, joinR, beq_true, beq_false, Bool.not_true, Bool.not_false, Bool.not_not, cond_true, cond_false, neI, s_mapS, bindS_inl, bindS_inr, Bool.and_true, Bool.true_and, Bool.and_false, Bool.false_and, s_isNoneS, s_isNoneN, s_ref, s_adv, s_ldf, s_ld, s_ldM, s_st, s_stM, s_bs, s_bn, s_pp, bump_blk, bump_next, put_next, splice_z, splice_zz, splice_s, s_decT, s_decF, s_eqT, s_eqF, s_i64, s_u64, s_u8, Int.toNat_natCast, Nat.zero_add, s_room, s_chkT, s_rdSl, s_wrSl, s_ldN, s_ldNM, s_ldNf, List.drop_zero, List.take_succ_cons, List.take_zero, List.take_nil, List.take_length, Nat.mul_one, List.flatten_cons, List.flatten_nil, List.append_nil, List.nil_append, List.cons_append]
        exact Ok_some.2 ⟨by simp, next fun hh => absurd hh c0⟩
    · rintro s ⟨rfl, hq⟩
      simp -implicitDefEqProofs (disch := (first | omega | rfl | assumption | (simp only [put_next, bump_next, kill_next, List.length_cons, List.length_nil, List.mem_cons, List.not_mem_nil, or_false, not_false_eq_true]; first | omega | assumption))) only [law08_few_L1, Nat.reduceAdd, Nat.reduceMul, Nat.reduceLT, s_beq, List.length_cons, List.length_nil, List.getD_cons_zero, List.getD_cons_succ, List.getElem?_cons_zero, List.getElem?_cons_succ, Option.bind_some, Option.bind_assoc, s_bindN, asI_i, asB_b, asS_s, asP_p, asPS_p, asSl_sl, s_agg, s_tup, s_fn, joinB, joinI, joinR, beq_true, beq_false, Bool.not_true, Bool.not_false, Bool.not_not, cond_true, cond_false, neI, s_mapS, bindS_inl, bindS_inr, Bool.and_true, Bool.true_and, Bool.and_false, Bool.false_and, s_isNoneS, s_isNoneN, s_ref, s_adv, s_ldf, s_ld, s_ldM, s_st, s_stM, s_bs, s_bn, s_pp, bump_blk, bump_next, put_next, splice_z, splice_zz, splice_s, s_decT, s_decF, s_eqT, s_eqF, s_i64, s_u64, s_u8, Int.toNat_natCast, Nat.zero_add, s_room, s_chkT, s_rdSl, s_wrSl, s_ldN, s_ldNM, s_ldNf, List.drop_zero, List.take_succ_cons, List.take_zero, List.take_nil, List.take_length, Nat.mul_one, List.flatten_cons, List.flatten_nil, List.append_nil, List.nil_append, List.cons_append]
      rw [List.take_length] at hq
      exact Ok_some.2 (.inl ⟨rfl, hq⟩)
  · rintro s (⟨e, hq⟩ | e)
    · cases e
      simp -implicitDefEqProofs (disch := (first | omega | rfl | assumption | (simp only [put_next, bump_next, kill_next, List.length_cons, List.length_nil, List.mem_cons, List.not_mem_nil, or_false, not_false_eq_true]; first | omega | assumption))) only [Nat.reduceAdd, Nat.reduceMul, Nat.reduceLT, s_beq, List.length_cons, List.length_nil, List.getD_cons_zero, List.getD_cons_succ, List.getElem?_cons_zero, List.getElem?_cons_succ, Option.bind_some, Option.bind_assoc, s_bindN, asI_i, asB_b, asS_s, asP_p, asPS_p, asSl_sl, s_agg, s_tup, s_fn, joinB, joinI, joinR, beq_true, beq_false, Bool.not_true, Bool.not_false, Bool.not_not, cond_true, cond_false, neI, s_mapS, bindS_inl, bindS_inr, Bool.and_true, Bool.true_and, Bool.and_false, Bool.false_and, s_isNoneS, s_isNoneN, s_ref, s_adv, s_ldf, s_ld, s_ldM, s_st, s_stM, s_bs, s_bn, s_pp, bump_blk, bump_next, put_next, splice_z, splice_zz, splice_s, s_decT, s_decF, s_eqT, s_eqF, s_i64, s_u64, s_u8, Int.toNat_natCast, Nat.zero_add, s_room, s_chkT, s_rdSl, s_wrSl, s_ldN, s_ldNM, s_ldNf, List.drop_zero, List.take_succ_cons, List.take_zero, List.take_nil, List.take_length, Nat.mul_one, List.flatten_cons, List.flatten_nil, List.append_nil, List.nil_append, List.cons_append]
      exact Ok_some.2 ⟨true, rfl, fun _ => ⟨by omega, hq⟩⟩
    · cases e
  · rintro r (⟨e, hq⟩ | e)
    · cases e
    · cases e
      exact ⟨false, rfl, fun e => by cases e⟩

/-- the word is there still -/
def Holds (M : MemS) (k : Nat) (w : Int) : Prop := ∃ ws, M.sp[0]? = some (true, ws) ∧ ws[k]? = some w
theorem holds_open {M : MemS} {k : Nat} {w n : Int} (h : Holds M k w) : Holds (M.opnR n).1 k w ∧ (M.opnR n).1.met.r = M.met.r ∧ (M.opnR n).1.met.w = M.met.w := by
  unfold MemS.opnR
  repeat' split
  all_goals first | exact ⟨h, rfl, rfl⟩ | skip
  obtain ⟨ws, h1, h2⟩ := h
  refine ⟨⟨ws, ?_, h2⟩, rfl, rfl⟩
  have hf := ff_free M.sp
  simp only [MemS.opn]
  rw [putAt_get hf.le, if_neg fun e => by have := hf.here _ (by rw [← e]; exact h1); cases this]
  exact h1
theorem holds_set {sp : Sps} {k i : Nat} {w : Int} {x : Bool × List Int} (h : ∃ ws, sp[0]? = some (true, ws) ∧ ws[k]? = some w) (hi : i ≠ 0 ∨ ∃ ws, x = (true, ws) ∧ ws[k]? = some w) : ∃ ws, (sp.set i x)[0]? = some (true, ws) ∧ ws[k]? = some w := by
  obtain ⟨ws, h1, h2⟩ := h
  rw [List.getElem?_set]
  by_cases e : i = 0
  · subst e
    obtain ⟨ws', rfl, h3⟩ := hi.resolve_left (fun hh => hh rfl)
    have := (List.getElem?_eq_some_iff.1 h1).1
    exact ⟨ws', by simp [this], h3⟩
  · exact ⟨ws, by rw [if_neg e]; exact h1, h2⟩
theorem holds_close {M : MemS} {k : Nat} {w id : Int} (h : Holds M k w) (hid : id ≠ 0) : Holds (M.closeR id).1 k w ∧ (M.closeR id).1.met.r = M.met.r ∧ (M.closeR id).1.met.w = M.met.w := by
  unfold MemS.closeR
  split
  · exact ⟨h, rfl, rfl⟩
  · rename_i v hv
    have := (wordsOf_some hv).1
    exact ⟨holds_set h (.inl (by omega)), rfl, rfl⟩
theorem holds_grow {M : MemS} {k : Nat} {w id n : Int} (h : Holds M k w) : Holds (M.growR id n).1 k w ∧ (M.growR id n).1.met.r = M.met.r ∧ (M.growR id n).1.met.w = M.met.w := by
  unfold MemS.growR
  split
  · exact ⟨h, rfl, rfl⟩
  · rename_i v hv
    obtain ⟨h0, hv⟩ := wordsOf_some hv
    repeat' split
    all_goals first | exact ⟨h, rfl, rfl⟩ | skip
    refine ⟨holds_set h ?_, rfl, rfl⟩
    by_cases e : id.toNat = 0
    · obtain ⟨ws, h1, h2⟩ := h
      rw [e, h1] at hv; cases hv
      have := (List.getElem?_eq_some_iff.1 h2).1
      exact .inr ⟨_, rfl, by rw [List.getElem?_append_left this]; exact h2⟩
    · exact .inl e
theorem holds_write {M : MemS} {k : Nat} {w id b x : Int} (h : Holds M k w) (hne : id ≠ 0 ∨ b ≠ k) : Holds (M.writeR id b x).1 k w ∧ (M.writeR id b x).1.met.r = M.met.r ∧ (M.writeR id b x).1.met.w = M.met.w + (if (M.writeR id b x).2 = 0 then 1 else 0) := by
  unfold MemS.writeR
  by_cases hz : wrongR M.sp id b 1 = 0
  · rw [if_pos hz]
    obtain ⟨v, hv, h1, h2, h3⟩ := wrong_0 hz
    obtain ⟨h0, hv'⟩ := wordsOf_some hv
    refine ⟨holds_set h ?_, rfl, by simp [MemS.put, MemS.wr]⟩
    by_cases e : id.toNat = 0
    · obtain ⟨ws, g1, g2⟩ := h
      rw [e, g1] at hv'; cases hv'
      refine .inr ⟨_, rfl, ?_⟩
      rw [hv, Option.getD_some, List.getElem?_set, if_neg (by omega)]; exact g2
    · exact .inl e
  · rw [if_neg hz]
    exact ⟨h, rfl, by simp [hz]⟩
theorem holds_zero {M : MemS} {k : Nat} {w id b n : Int} (h : Holds M k w) (hid : id ≠ 0) : Holds (M.zeroR id b n).1 k w ∧ (M.zeroR id b n).1.met.r = M.met.r ∧ (M.zeroR id b n).1.met.w = M.met.w + (if (M.zeroR id b n).2 = 0 then n else 0) := by
  unfold MemS.zeroR
  by_cases hz : wrongR M.sp id b n = 0
  · rw [if_pos hz]
    obtain ⟨v, hv, h1, h2, h3⟩ := wrong_0 hz
    obtain ⟨h0, hv'⟩ := wordsOf_some hv
    exact ⟨holds_set h (.inl (by omega)), rfl, by simp [MemS.put, MemS.wr]⟩
  · rw [if_neg hz]
    exact ⟨h, rfl, by simp [hz]⟩
theorem zero_small {M : MemS} (hM : M.ok) {id b n : Int} (h : (M.zeroR id b n).2 = 0) : 0 ≤ n ∧ n ≤ 4194304 := by
  unfold MemS.zeroR at h
  by_cases hz : wrongR M.sp id b n = 0
  · obtain ⟨v, hv, h1, h2, h3⟩ := wrong_0 hz
    have := hM.len (wordsOf_some hv).2
    omega
  · rw [if_neg hz] at h; exact absurd h hz
theorem holds_copy {M : MemS} {k : Nat} {w fr b to de n : Int} (h : Holds M k w) (hid : to ≠ 0) :
    Holds (M.copyR fr b to de n).1 k w ∧ (M.copyR fr b to de n).1.met.r = M.met.r + (if (M.copyR fr b to de n).2 = 0 then n else 0) ∧ (M.copyR fr b to de n).1.met.w = M.met.w + (if (M.copyR fr b to de n).2 = 0 then n else 0) := by
  unfold MemS.copyR
  by_cases c1 : wrongR M.sp fr b n = 10 ∨ wrongR M.sp to de n = 10
  · rw [if_pos c1]; exact ⟨h, by simp, by simp⟩
  · rw [if_neg c1]
    by_cases c2 : wrongR M.sp fr b n ≠ 0 ∨ wrongR M.sp to de n ≠ 0
    · rw [if_pos c2]; exact ⟨h, by simp, by simp⟩
    · rw [if_neg c2]
      obtain ⟨v, hv, k1, k2, k3⟩ := wrong_0 (show wrongR M.sp to de n = 0 by omega)
      have := (wordsOf_some hv).1
      exact ⟨holds_set h (.inl (by omega)), by simp [MemS.put, MemS.wr, MemS.rd], by simp [MemS.put, MemS.wr, MemS.rd]⟩
theorem copy_small {M : MemS} (hM : M.ok) {fr b to de n : Int} (h : (M.copyR fr b to de n).2 = 0) : 0 ≤ n ∧ n ≤ 4194304 := by
  unfold MemS.copyR at h
  split at h
  · cases h
  · split at h
    · cases h
    · obtain ⟨v, hv, h1, h2, h3⟩ := wrong_0 (show wrongR M.sp fr b n = 0 by omega)
      have := hM.len (wordsOf_some hv).2
      omega

structure HAt (σ5 : AH O) (mb : Nat) (F5 : List Nat) (M : MemS) (k : Nat) (w want : Int) : Prop where
  m1 : MemAt σ5 mb F5 M
  m2 : M.ok
  m3 : Holds M k w
  m4 : M.met.r + M.met.w = want
  m5 : 0 ≤ M.met.r
  m6 : 0 ≤ M.met.w
/-- one call of the loop -/
abbrev HGoal (σ5 : AH O) (mb : Nat) (k : Nat) (w want : Int) (sa : SA) (n j : Nat) : Prop :=
  Ok (law08_MemHolds_L1 (sa, n) mem_Mem__Open (some (.n mb, 0)) ((0 : Nat) : Int) mem_Mem__Close mem_Mem__Grow (k : Int) mem_Mem__Write mem_Mem__Zero mem_Mem__Copy ([.i .u64 want, .i .i64 (j : Int)], σ5)) fun r =>
    ∃ (want' : Int) (σ6 : AH O) (F6 : List Nat) (M' : MemS), r = .inl ([.i .u64 want', .i .i64 ((j : Int) + 1)], σ6) ∧ HAt σ6 mb F6 M' k w want' ∧ want' ≤ want + 8388608
section
variable {σ5 : AH O} {mb : Nat} {F5 : List Nat} {M : MemS} {k : Nat} {w want : Int} {n j : Nat} {o : MOp} {bb : Bid} {oo : Nat} (h : HAt σ5 mb F5 M k w want) (hw0 : want ≤ 1 + 60 * 8388608) (hj : j < n) (hn : n ≤ 60) (hr : o.rng)
  (q0 : ∀ (O : Type) (σ : AH O), σ.ld bb (oo + j * 7) = some (.i .i64 o.kind)) (q1 : ∀ (O : Type) (σ : AH O), σ.ld bb (oo + j * 7 + 1) = some (.i .i64 o.a)) (q2 : ∀ (O : Type) (σ : AH O), σ.ld bb (oo + j * 7 + 1 + 1) = some (.i .i64 o.b))
  (q3 : ∀ (O : Type) (σ : AH O), σ.ld bb (oo + j * 7 + 1 + 1 + 1) = some (.i .i64 o.c)) (q4 : ∀ (O : Type) (σ : AH O), σ.ld bb (oo + j * 7 + 1 + 1 + 1 + 1) = some (.i .i64 o.d)) (q5 : ∀ (O : Type) (σ : AH O), σ.ld bb (oo + j * 7 + 1 + 1 + 1 + 1 + 1) = some (.i .i64 o.n))
  (q6 : ∀ (O : Type) (σ : AH O), σ.ld bb (oo + j * 7 + 1 + 1 + 1 + 1 + 1 + 1) = some (.i .u64 o.w))
include h hw0 hj hn hr q0 q1 q2 q3 q4 q5 q6

theorem holds_k0 (hk : o.kind = 0) : HGoal σ5 mb k w want (.loc bb oo 7) n j := by
  unfold HGoal
  obtain ⟨m1, m2, m3, m4, m5, m6⟩ := h
  have hcalm : M.calm := ⟨by omega, by omega⟩
  have e0 : Ext σ5 ((σ5.bump 1).put σ5.next (.cells true T_law08_Op o.cells)) := (ext_of (by simp only [put_next, bump_next, kill_next]; omega) (fun b hb => by simp -implicitDefEqProofs (disch := (first | omega | rfl | assumption | (simp only [put_next, bump_next, kill_next, List.length_cons, List.length_nil, List.mem_cons, List.not_mem_nil, or_false, not_false_eq_true]; first | omega | assumption))) only [s_bn, s_kn, bump_blk, s_ext]))
  have m1' := m1.ext e0
  have hlb : σ5.next ∉ F5 := fun hm => by have := m1.lt _ hm; omega
  have jn : decide ((j : Int) < (n : Int)) = true := decide_eq_true (by omega)
  have w1 : IntKind.i64.wrap ((j : Int) + 1) = (j : Int) + 1 := i64_id (by omega) (by omega)
  have ha := hr.a
  have hb := hr.b
  have hd := hr.d
  unfold i64r at ha hb hd
  clear hr hj hn
  have b0 : ((o.kind : Int) == 0) = true := by simp [hk]
  simp -implicitDefEqProofs only [law08_MemHolds_L1, q0, q1, q2, q3, q4, q5, q6, jn, w1, b0, Nat.reduceAdd, Nat.reduceMul, Nat.reduceLT, s_beq, List.length_cons, List.length_nil, List.getD_cons_zero, List.getD_cons_succ, List.getElem?_cons_zero, List.getElem?_cons_succ, Option.bind_some, Option.bind_assoc, s_bindN, asI_i, asB_b, asS_s, asP_p, asPS_p, asSl_sl, s_agg, s_tup, s_fn, joinB, joinI, joinR, beq_true, beq_false, Bool.not_true, Bool.not_false, Bool.not_not, cond_true, cond_false, neI, s_mapS, bindS_inl, bindS_inr, Bool.and_true, Bool.true_and, Bool.and_false, Bool.false_and, s_isNoneS, s_isNoneN, s_ref, s_adv, s_ldf, s_ld, s_ldM, s_st, s_stM, s_bs, s_pp, bump_blk, bump_next, put_next, splice_z, splice_zz, splice_s, Int.toNat_natCast, Nat.zero_add, s_chkT, s_rdSl, s_wrSl, s_ldN, s_ldNM, s_ldNf, List.drop_zero, List.take_succ_cons, List.take_zero, List.take_nil, List.take_length, Nat.mul_one, List.flatten_cons, List.flatten_nil, List.append_nil, List.nil_append, List.cons_append, s_bleD, Nat.reduceLeDiff, decide_true, decide_false]; try simp -implicitDefEqProofs (disch := (first | omega | rfl | assumption | (simp only [put_next, bump_next, kill_next, List.length_cons, List.length_nil, List.mem_cons, List.not_mem_nil, or_false, not_false_eq_true]; first | omega | assumption))) only [Nat.reduceAdd, Nat.reduceMul, Nat.reduceLT, s_beq, List.length_cons, List.length_nil, List.getD_cons_zero, List.getD_cons_succ, List.getElem?_cons_zero, List.getElem?_cons_succ, Option.bind_some, Option.bind_assoc, s_bindN, asI_i, asB_b, asS_s, asP_p, asPS_p, asSl_sl, s_agg, s_tup, s_fn, joinB, joinI, joinR, beq_true, beq_false, Bool.not_true, Bool.not_false, Bool.not_not, cond_true, cond_false, neI, s_mapS, bindS_inl, bindS_inr, Bool.and_true, Bool.true_and, Bool.and_false, Bool.false_and, s_isNoneS, s_isNoneN, s_ref, s_adv, s_ldf, s_ld, s_ldM, s_st, s_stM, s_bs, s_bn, s_pp, bump_blk, bump_next, put_next, splice_z, splice_zz, splice_s, s_decT, s_decF, s_eqT, s_eqF, s_i64, s_u64, s_u8, Int.toNat_natCast, Nat.zero_add, s_room, s_chkT, s_rdSl, s_wrSl, s_ldN, s_ldNM, s_ldNf, List.drop_zero, List.take_succ_cons, List.take_zero, List.take_nil, List.take_length, Nat.mul_one, List.flatten_cons, List.flatten_nil, List.append_nil, List.nil_append, List.cons_append]
  refine Ok.step (openT (n := o.n) m1' m2 hcalm) fun r ⟨p1, p2⟩ => ?_
  obtain ⟨q, σ6⟩ := r
  simp only at p1 p2
  subst p1
  obtain ⟨⟨F6, p3, _⟩, _, p5⟩ := p2
  obtain ⟨z1, z2, z3⟩ := holds_open (n := o.n) m3
  simp -implicitDefEqProofs (disch := (first | omega | rfl | assumption | (simp only [put_next, bump_next, kill_next, List.length_cons, List.length_nil, List.mem_cons, List.not_mem_nil, or_false, not_false_eq_true]; first | omega | assumption))) only [Nat.reduceAdd, Nat.reduceMul, Nat.reduceLT, s_beq, List.length_cons, List.length_nil, List.getD_cons_zero, List.getD_cons_succ, List.getElem?_cons_zero, List.getElem?_cons_succ, Option.bind_some, Option.bind_assoc, s_bindN, asI_i, asB_b, asS_s, asP_p, asPS_p, asSl_sl, s_agg, s_tup, s_fn, joinB, joinI, joinR, beq_true, beq_false, Bool.not_true, Bool.not_false, Bool.not_not, cond_true, cond_false, neI, s_mapS, bindS_inl, bindS_inr, Bool.and_true, Bool.true_and, Bool.and_false, Bool.false_and, s_isNoneS, s_isNoneN, s_ref, s_adv, s_ldf, s_ld, s_ldM, s_st, s_stM, s_bs, s_bn, s_pp, bump_blk, bump_next, put_next, splice_z, splice_zz, splice_s, s_decT, s_decF, s_eqT, s_eqF, s_i64, s_u64, s_u8, Int.toNat_natCast, Nat.zero_add, s_room, s_chkT, s_rdSl, s_wrSl, s_ldN, s_ldNM, s_ldNf, List.drop_zero, List.take_succ_cons, List.take_zero, List.take_nil, List.take_length, Nat.mul_one, List.flatten_cons, List.flatten_nil, List.append_nil, List.nil_append, List.cons_append]
  exact Ok_some.2 ⟨_, _, F6, _, rfl, ⟨p3, p5, z1, by omega, by omega, by omega⟩, by omega⟩
theorem holds_k1 (hk : o.kind = 1) : HGoal σ5 mb k w want (.loc bb oo 7) n j := by
  unfold HGoal
  obtain ⟨m1, m2, m3, m4, m5, m6⟩ := h
  have hcalm : M.calm := ⟨by omega, by omega⟩
  have e0 : Ext σ5 ((σ5.bump 1).put σ5.next (.cells true T_law08_Op o.cells)) := (ext_of (by simp only [put_next, bump_next, kill_next]; omega) (fun b hb => by simp -implicitDefEqProofs (disch := (first | omega | rfl | assumption | (simp only [put_next, bump_next, kill_next, List.length_cons, List.length_nil, List.mem_cons, List.not_mem_nil, or_false, not_false_eq_true]; first | omega | assumption))) only [s_bn, s_kn, bump_blk, s_ext]))
  have m1' := m1.ext e0
  have hlb : σ5.next ∉ F5 := fun hm => by have := m1.lt _ hm; omega
  have jn : decide ((j : Int) < (n : Int)) = true := decide_eq_true (by omega)
  have w1 : IntKind.i64.wrap ((j : Int) + 1) = (j : Int) + 1 := i64_id (by omega) (by omega)
  have ha := hr.a
  have hb := hr.b
  have hd := hr.d
  unfold i64r at ha hb hd
  clear hr hj hn
  have b0 : ((o.kind : Int) == 0) = false := by simp [hk]
  have b1 : ((o.kind : Int) == 1) = true := by simp [hk]
  by_cases ca : o.a = 0
  · simp -implicitDefEqProofs only [law08_MemHolds_L1, q0, q1, q2, q3, q4, q5, q6, jn, w1, b0, b1, Nat.reduceAdd, Nat.reduceMul, Nat.reduceLT, s_beq, List.length_cons, List.length_nil, List.getD_cons_zero, List.getD_cons_succ, List.getElem?_cons_zero, List.getElem?_cons_succ, Option.bind_some, Option.bind_assoc, s_bindN, asI_i, asB_b, asS_s, asP_p, asPS_p, asSl_sl, s_agg, s_tup, s_fn, joinB, joinI, joinR, beq_true, beq_false, Bool.not_true, Bool.not_false, Bool.not_not, cond_true, cond_false, neI, s_mapS, bindS_inl, bindS_inr, Bool.and_true, Bool.true_and, Bool.and_false, Bool.false_and, s_isNoneS, s_isNoneN, s_ref, s_adv, s_ldf, s_ld, s_ldM, s_st, s_stM, s_bs, s_pp, bump_blk, bump_next, put_next, splice_z, splice_zz, splice_s, Int.toNat_natCast, Nat.zero_add, s_chkT, s_rdSl, s_wrSl, s_ldN, s_ldNM, s_ldNf, List.drop_zero, List.take_succ_cons, List.take_zero, List.take_nil, List.take_length, Nat.mul_one, List.flatten_cons, List.flatten_nil, List.append_nil, List.nil_append, List.cons_append, s_bleD, Nat.reduceLeDiff, decide_true, decide_false]; try simp -implicitDefEqProofs (disch := (first | omega | rfl | assumption | (simp only [put_next, bump_next, kill_next, List.length_cons, List.length_nil, List.mem_cons, List.not_mem_nil, or_false, not_false_eq_true]; first | omega | assumption))) only [Nat.reduceAdd, Nat.reduceMul, Nat.reduceLT, s_beq, List.length_cons, List.length_nil, List.getD_cons_zero, List.getD_cons_succ, List.getElem?_cons_zero, List.getElem?_cons_succ, Option.bind_some, Option.bind_assoc, s_bindN, asI_i, asB_b, asS_s, asP_p, asPS_p, asSl_sl, s_agg, s_tup, s_fn, joinB, joinI, joinR, beq_true, beq_false, Bool.not_true, Bool.not_false, Bool.not_not, cond_true, cond_false, neI, s_mapS, bindS_inl, bindS_inr, Bool.and_true, Bool.true_and, Bool.and_false, Bool.false_and, s_isNoneS, s_isNoneN, s_ref, s_adv, s_ldf, s_ld, s_ldM, s_st, s_stM, s_bs, s_bn, s_pp, bump_blk, bump_next, put_next, splice_z, splice_zz, splice_s, s_decT, s_decF, s_eqT, s_eqF, s_i64, s_u64, s_u8, Int.toNat_natCast, Nat.zero_add, s_room, s_chkT, s_rdSl, s_wrSl, s_ldN, s_ldNM, s_ldNf, List.drop_zero, List.take_succ_cons, List.take_zero, List.take_nil, List.take_length, Nat.mul_one, List.flatten_cons, List.flatten_nil, List.append_nil, List.nil_append, List.cons_append]
    exact Ok_some.2 ⟨_, _, F5, M, rfl, ⟨m1', m2, m3, m4, m5, m6⟩, by omega⟩
  · simp -implicitDefEqProofs only [law08_MemHolds_L1, q0, q1, q2, q3, q4, q5, q6, jn, w1, b0, b1, Nat.reduceAdd, Nat.reduceMul, Nat.reduceLT, s_beq, List.length_cons, List.length_nil, List.getD_cons_zero, List.getD_cons_succ, List.getElem?_cons_zero, List.getElem?_cons_succ, Option.bind_some, Option.bind_assoc, s_bindN, asI_i, asB_b, asS_s, asP_p, asPS_p, asSl_sl, s_agg, s_tup, s_fn, joinB, joinI, joinR, beq_true, beq_false, Bool.not_true, Bool.not_false, Bool.not_not, cond_true, cond_false, neI, s_mapS, bindS_inl, bindS_inr, Bool.and_true, Bool.true_and, Bool.and_false, Bool.false_and, s_isNoneS, s_isNoneN, s_ref, s_adv, s_ldf, s_ld, s_ldM, s_st, s_stM, s_bs, s_pp, bump_blk, bump_next, put_next, splice_z, splice_zz, splice_s, Int.toNat_natCast, Nat.zero_add, s_chkT, s_rdSl, s_wrSl, s_ldN, s_ldNM, s_ldNf, List.drop_zero, List.take_succ_cons, List.take_zero, List.take_nil, List.take_length, Nat.mul_one, List.flatten_cons, List.flatten_nil, List.append_nil, List.nil_append, List.cons_append, s_bleD, Nat.reduceLeDiff, decide_true, decide_false]; try simp -implicitDefEqProofs (disch := (first | omega | rfl | assumption | (simp only [put_next, bump_next, kill_next, List.length_cons, List.length_nil, List.mem_cons, List.not_mem_nil, or_false, not_false_eq_true]; first | omega | assumption))) only [Nat.reduceAdd, Nat.reduceMul, Nat.reduceLT, s_beq, List.length_cons, List.length_nil, List.getD_cons_zero, List.getD_cons_succ, List.getElem?_cons_zero, List.getElem?_cons_succ, Option.bind_some, Option.bind_assoc, s_bindN, asI_i, asB_b, asS_s, asP_p, asPS_p, asSl_sl, s_agg, s_tup, s_fn, joinB, joinI, joinR, beq_true, beq_false, Bool.not_true, Bool.not_false, Bool.not_not, cond_true, cond_false, neI, s_mapS, bindS_inl, bindS_inr, Bool.and_true, Bool.true_and, Bool.and_false, Bool.false_and, s_isNoneS, s_isNoneN, s_ref, s_adv, s_ldf, s_ld, s_ldM, s_st, s_stM, s_bs, s_bn, s_pp, bump_blk, bump_next, put_next, splice_z, splice_zz, splice_s, s_decT, s_decF, s_eqT, s_eqF, s_i64, s_u64, s_u8, Int.toNat_natCast, Nat.zero_add, s_room, s_chkT, s_rdSl, s_wrSl, s_ldN, s_ldNM, s_ldNf, List.drop_zero, List.take_succ_cons, List.take_zero, List.take_nil, List.take_length, Nat.mul_one, List.flatten_cons, List.flatten_nil, List.append_nil, List.nil_append, List.cons_append]
    refine Ok.step (closeT (id := o.a) m1' m2 hcalm ha.2) fun r ⟨p1, p2⟩ => ?_
    obtain ⟨q, σ6⟩ := r
    simp only at p1 p2
    subst p1
    obtain ⟨⟨F6, p3, _⟩, _, p5⟩ := p2
    obtain ⟨z1, z2, z3⟩ := holds_close (id := o.a) m3 ca
    simp -implicitDefEqProofs (disch := (first | omega | rfl | assumption | (simp only [put_next, bump_next, kill_next, List.length_cons, List.length_nil, List.mem_cons, List.not_mem_nil, or_false, not_false_eq_true]; first | omega | assumption))) only [Nat.reduceAdd, Nat.reduceMul, Nat.reduceLT, s_beq, List.length_cons, List.length_nil, List.getD_cons_zero, List.getD_cons_succ, List.getElem?_cons_zero, List.getElem?_cons_succ, Option.bind_some, Option.bind_assoc, s_bindN, asI_i, asB_b, asS_s, asP_p, asPS_p, asSl_sl, s_agg, s_tup, s_fn, joinB, joinI, joinR, beq_true, beq_false, Bool.not_true, Bool.not_false, Bool.not_not, cond_true, cond_false, neI, s_mapS, bindS_inl, bindS_inr, Bool.and_true, Bool.true_and, Bool.and_false, Bool.false_and, s_isNoneS, s_isNoneN, s_ref, s_adv, s_ldf, s_ld, s_ldM, s_st, s_stM, s_bs, s_bn, s_pp, bump_blk, bump_next, put_next, splice_z, splice_zz, splice_s, s_decT, s_decF, s_eqT, s_eqF, s_i64, s_u64, s_u8, Int.toNat_natCast, Nat.zero_add, s_room, s_chkT, s_rdSl, s_wrSl, s_ldN, s_ldNM, s_ldNf, List.drop_zero, List.take_succ_cons, List.take_zero, List.take_nil, List.take_length, Nat.mul_one, List.flatten_cons, List.flatten_nil, List.append_nil, List.nil_append, List.cons_append]
    exact Ok_some.2 ⟨_, _, F6, _, rfl, ⟨p3, p5, z1, by omega, by omega, by omega⟩, by omega⟩
theorem holds_k2 (hk : o.kind = 2) : HGoal σ5 mb k w want (.loc bb oo 7) n j := by
  unfold HGoal
  obtain ⟨m1, m2, m3, m4, m5, m6⟩ := h
  have hcalm : M.calm := ⟨by omega, by omega⟩
  have e0 : Ext σ5 ((σ5.bump 1).put σ5.next (.cells true T_law08_Op o.cells)) := (ext_of (by simp only [put_next, bump_next, kill_next]; omega) (fun b hb => by simp -implicitDefEqProofs (disch := (first | omega | rfl | assumption | (simp only [put_next, bump_next, kill_next, List.length_cons, List.length_nil, List.mem_cons, List.not_mem_nil, or_false, not_false_eq_true]; first | omega | assumption))) only [s_bn, s_kn, bump_blk, s_ext]))
  have m1' := m1.ext e0
  have hlb : σ5.next ∉ F5 := fun hm => by have := m1.lt _ hm; omega
  have jn : decide ((j : Int) < (n : Int)) = true := decide_eq_true (by omega)
  have w1 : IntKind.i64.wrap ((j : Int) + 1) = (j : Int) + 1 := i64_id (by omega) (by omega)
  have ha := hr.a
  have hb := hr.b
  have hd := hr.d
  unfold i64r at ha hb hd
  clear hr hj hn
  have b0 : ((o.kind : Int) == 0) = false := by simp [hk]
  have b1 : ((o.kind : Int) == 1) = false := by simp [hk]
  have b2 : ((o.kind : Int) == 2) = true := by simp [hk]
  simp -implicitDefEqProofs only [law08_MemHolds_L1, q0, q1, q2, q3, q4, q5, q6, jn, w1, b0, b1, b2, Nat.reduceAdd, Nat.reduceMul, Nat.reduceLT, s_beq, List.length_cons, List.length_nil, List.getD_cons_zero, List.getD_cons_succ, List.getElem?_cons_zero, List.getElem?_cons_succ, Option.bind_some, Option.bind_assoc, s_bindN, asI_i, asB_b, asS_s, asP_p, asPS_p, asSl_sl, s_agg, s_tup, s_fn, joinB, joinI, joinR, beq_true, beq_false, Bool.not_true, Bool.not_false, Bool.not_not, cond_true, cond_false, neI, s_mapS, bindS_inl, bindS_inr, Bool.and_true, Bool.true_and, Bool.and_false, Bool.false_and, s_isNoneS, s_isNoneN, s_ref, s_adv, s_ldf, s_ld, s_ldM, s_st, s_stM, s_bs, s_pp, bump_blk, bump_next, put_next, splice_z, splice_zz, splice_s, Int.toNat_natCast, Nat.zero_add, s_chkT, s_rdSl, s_wrSl, s_ldN, s_ldNM, s_ldNf, List.drop_zero, List.take_succ_cons, List.take_zero, List.take_nil, List.take_length, Nat.mul_one, List.flatten_cons, List.flatten_nil, List.append_nil, List.nil_append, List.cons_append, s_bleD, Nat.reduceLeDiff, decide_true, decide_false]; try simp -implicitDefEqProofs (disch := (first | omega | rfl | assumption | (simp only [put_next, bump_next, kill_next, List.length_cons, List.length_nil, List.mem_cons, List.not_mem_nil, or_false, not_false_eq_true]; first | omega | assumption))) only [Nat.reduceAdd, Nat.reduceMul, Nat.reduceLT, s_beq, List.length_cons, List.length_nil, List.getD_cons_zero, List.getD_cons_succ, List.getElem?_cons_zero, List.getElem?_cons_succ, Option.bind_some, Option.bind_assoc, s_bindN, asI_i, asB_b, asS_s, asP_p, asPS_p, asSl_sl, s_agg, s_tup, s_fn, joinB, joinI, joinR, beq_true, beq_false, Bool.not_true, Bool.not_false, Bool.not_not, cond_true, cond_false, neI, s_mapS, bindS_inl, bindS_inr, Bool.and_true, Bool.true_and, Bool.and_false, Bool.false_and, s_isNoneS, s_isNoneN, s_ref, s_adv, s_ldf, s_ld, s_ldM, s_st, s_stM, s_bs, s_bn, s_pp, bump_blk, bump_next, put_next, splice_z, splice_zz, splice_s, s_decT, s_decF, s_eqT, s_eqF, s_i64, s_u64, s_u8, Int.toNat_natCast, Nat.zero_add, s_room, s_chkT, s_rdSl, s_wrSl, s_ldN, s_ldNM, s_ldNf, List.drop_zero, List.take_succ_cons, List.take_zero, List.take_nil, List.take_length, Nat.mul_one, List.flatten_cons, List.flatten_nil, List.append_nil, List.nil_append, List.cons_append]
  refine Ok.step (growT (id := o.a) (n := o.n) m1' m2 hcalm) fun r ⟨p1, p2⟩ => ?_
  obtain ⟨q, σ6⟩ := r
  simp only at p1 p2
  subst p1
  obtain ⟨⟨F6, p3, _⟩, _, p5⟩ := p2
  obtain ⟨z1, z2, z3⟩ := holds_grow (id := o.a) (n := o.n) m3
  simp -implicitDefEqProofs (disch := (first | omega | rfl | assumption | (simp only [put_next, bump_next, kill_next, List.length_cons, List.length_nil, List.mem_cons, List.not_mem_nil, or_false, not_false_eq_true]; first | omega | assumption))) only [Nat.reduceAdd, Nat.reduceMul, Nat.reduceLT, s_beq, List.length_cons, List.length_nil, List.getD_cons_zero, List.getD_cons_succ, List.getElem?_cons_zero, List.getElem?_cons_succ, Option.bind_some, Option.bind_assoc, s_bindN, asI_i, asB_b, asS_s, asP_p, asPS_p, asSl_sl, s_agg, s_tup, s_fn, joinB, joinI, joinR, beq_true, beq_false, Bool.not_true, Bool.not_false, Bool.not_not, cond_true, cond_false, neI, s_mapS, bindS_inl, bindS_inr, Bool.and_true, Bool.true_and, Bool.and_false, Bool.false_and, s_isNoneS, s_isNoneN, s_ref, s_adv, s_ldf, s_ld, s_ldM, s_st, s_stM, s_bs, s_bn, s_pp, bump_blk, bump_next, put_next, splice_z, splice_zz, splice_s, s_decT, s_decF, s_eqT, s_eqF, s_i64, s_u64, s_u8, Int.toNat_natCast, Nat.zero_add, s_room, s_chkT, s_rdSl, s_wrSl, s_ldN, s_ldNM, s_ldNf, List.drop_zero, List.take_succ_cons, List.take_zero, List.take_nil, List.take_length, Nat.mul_one, List.flatten_cons, List.flatten_nil, List.append_nil, List.nil_append, List.cons_append]
  exact Ok_some.2 ⟨_, _, F6, _, rfl, ⟨p3, p5, z1, by omega, by omega, by omega⟩, by omega⟩
theorem holds_k4 (hk : o.kind = 4) : HGoal σ5 mb k w want (.loc bb oo 7) n j := by
  unfold HGoal
  obtain ⟨m1, m2, m3, m4, m5, m6⟩ := h
  have hcalm : M.calm := ⟨by omega, by omega⟩
  have e0 : Ext σ5 ((σ5.bump 1).put σ5.next (.cells true T_law08_Op o.cells)) := (ext_of (by simp only [put_next, bump_next, kill_next]; omega) (fun b hb => by simp -implicitDefEqProofs (disch := (first | omega | rfl | assumption | (simp only [put_next, bump_next, kill_next, List.length_cons, List.length_nil, List.mem_cons, List.not_mem_nil, or_false, not_false_eq_true]; first | omega | assumption))) only [s_bn, s_kn, bump_blk, s_ext]))
  have m1' := m1.ext e0
  have hlb : σ5.next ∉ F5 := fun hm => by have := m1.lt _ hm; omega
  have jn : decide ((j : Int) < (n : Int)) = true := decide_eq_true (by omega)
  have w1 : IntKind.i64.wrap ((j : Int) + 1) = (j : Int) + 1 := i64_id (by omega) (by omega)
  have ha := hr.a
  have hb := hr.b
  have hd := hr.d
  unfold i64r at ha hb hd
  clear hr hj hn
  have b0 : ((o.kind : Int) == 0) = false := by simp [hk]
  have b1 : ((o.kind : Int) == 1) = false := by simp [hk]
  have b2 : ((o.kind : Int) == 2) = false := by simp [hk]
  have b4 : ((o.kind : Int) == 4) = true := by simp [hk]
  by_cases ca : o.a = 0 ∧ o.b = k
  · obtain ⟨ca, cb⟩ := ca
    simp -implicitDefEqProofs only [law08_MemHolds_L1, q0, q1, q2, q3, q4, q5, q6, jn, w1, b0, b1, b2, b4, Nat.reduceAdd, Nat.reduceMul, Nat.reduceLT, s_beq, List.length_cons, List.length_nil, List.getD_cons_zero, List.getD_cons_succ, List.getElem?_cons_zero, List.getElem?_cons_succ, Option.bind_some, Option.bind_assoc, s_bindN, asI_i, asB_b, asS_s, asP_p, asPS_p, asSl_sl, s_agg, s_tup, s_fn, joinB, joinI, joinR, beq_true, beq_false, Bool.not_true, Bool.not_false, Bool.not_not, cond_true, cond_false, neI, s_mapS, bindS_inl, bindS_inr, Bool.and_true, Bool.true_and, Bool.and_false, Bool.false_and, s_isNoneS, s_isNoneN, s_ref, s_adv, s_ldf, s_ld, s_ldM, s_st, s_stM, s_bs, s_pp, bump_blk, bump_next, put_next, splice_z, splice_zz, splice_s, Int.toNat_natCast, Nat.zero_add, s_chkT, s_rdSl, s_wrSl, s_ldN, s_ldNM, s_ldNf, List.drop_zero, List.take_succ_cons, List.take_zero, List.take_nil, List.take_length, Nat.mul_one, List.flatten_cons, List.flatten_nil, List.append_nil, List.nil_append, List.cons_append, s_bleD, Nat.reduceLeDiff, decide_true, decide_false]; try simp -implicitDefEqProofs (disch := (first | omega | rfl | assumption | (simp only [put_next, bump_next, kill_next, List.length_cons, List.length_nil, List.mem_cons, List.not_mem_nil, or_false, not_false_eq_true]; first | omega | assumption))) only [Nat.reduceAdd, Nat.reduceMul, Nat.reduceLT, s_beq, List.length_cons, List.length_nil, List.getD_cons_zero, List.getD_cons_succ, List.getElem?_cons_zero, List.getElem?_cons_succ, Option.bind_some, Option.bind_assoc, s_bindN, asI_i, asB_b, asS_s, asP_p, asPS_p, asSl_sl, s_agg, s_tup, s_fn, joinB, joinI, joinR, beq_true, beq_false, Bool.not_true, Bool.not_false, Bool.not_not, cond_true, cond_false, neI, s_mapS, bindS_inl, bindS_inr, Bool.and_true, Bool.true_and, Bool.and_false, Bool.false_and, s_isNoneS, s_isNoneN, s_ref, s_adv, s_ldf, s_ld, s_ldM, s_st, s_stM, s_bs, s_bn, s_pp, bump_blk, bump_next, put_next, splice_z, splice_zz, splice_s, s_decT, s_decF, s_eqT, s_eqF, s_i64, s_u64, s_u8, Int.toNat_natCast, Nat.zero_add, s_room, s_chkT, s_rdSl, s_wrSl, s_ldN, s_ldNM, s_ldNf, List.drop_zero, List.take_succ_cons, List.take_zero, List.take_nil, List.take_length, Nat.mul_one, List.flatten_cons, List.flatten_nil, List.append_nil, List.nil_append, List.cons_append]
    exact Ok_some.2 ⟨_, _, F5, M, rfl, ⟨m1', m2, m3, m4, m5, m6⟩, by omega⟩
  · have hcond : (bif !(!(o.a == ((0 : Nat) : Int))) then !(o.b == (k : Int)) else true) = true := by
      by_cases hh : o.a = 0
      · have : o.b ≠ k := fun e => ca ⟨hh, e⟩
        simp [hh, this]
      · simp [hh]
    simp -implicitDefEqProofs only [law08_MemHolds_L1, q0, q1, q2, q3, q4, q5, q6, jn, w1, b0, b1, b2, b4, Nat.reduceAdd, Nat.reduceMul, Nat.reduceLT, s_beq, List.length_cons, List.length_nil, List.getD_cons_zero, List.getD_cons_succ, List.getElem?_cons_zero, List.getElem?_cons_succ, Option.bind_some, Option.bind_assoc, s_bindN, asI_i, asB_b, asS_s, asP_p, asPS_p, asSl_sl, s_agg, s_tup, s_fn, joinB, joinI, joinR, beq_true, beq_false, Bool.not_true, Bool.not_false, Bool.not_not, cond_true, cond_false, neI, s_mapS, bindS_inl, bindS_inr, Bool.and_true, Bool.true_and, Bool.and_false, Bool.false_and, s_isNoneS, s_isNoneN, s_ref, s_adv, s_ldf, s_ld, s_ldM, s_st, s_stM, s_bs, s_pp, bump_blk, bump_next, put_next, splice_z, splice_zz, splice_s, Int.toNat_natCast, Nat.zero_add, s_chkT, s_rdSl, s_wrSl, s_ldN, s_ldNM, s_ldNf, List.drop_zero, List.take_succ_cons, List.take_zero, List.take_nil, List.take_length, Nat.mul_one, List.flatten_cons, List.flatten_nil, List.append_nil, List.nil_append, List.cons_append, s_bleD, Nat.reduceLeDiff, decide_true, decide_false]; try simp -implicitDefEqProofs (disch := (first | omega | rfl | assumption | (simp only [put_next, bump_next, kill_next, List.length_cons, List.length_nil, List.mem_cons, List.not_mem_nil, or_false, not_false_eq_true]; first | omega | assumption))) only [Nat.reduceAdd, Nat.reduceMul, Nat.reduceLT, s_beq, List.length_cons, List.length_nil, List.getD_cons_zero, List.getD_cons_succ, List.getElem?_cons_zero, List.getElem?_cons_succ, Option.bind_some, Option.bind_assoc, s_bindN, asI_i, asB_b, asS_s, asP_p, asPS_p, asSl_sl, s_agg, s_tup, s_fn, joinB, joinI, joinR, beq_true, beq_false, Bool.not_true, Bool.not_false, Bool.not_not, cond_true, cond_false, neI, s_mapS, bindS_inl, bindS_inr, Bool.and_true, Bool.true_and, Bool.and_false, Bool.false_and, s_isNoneS, s_isNoneN, s_ref, s_adv, s_ldf, s_ld, s_ldM, s_st, s_stM, s_bs, s_bn, s_pp, bump_blk, bump_next, put_next, splice_z, splice_zz, splice_s, s_decT, s_decF, s_eqT, s_eqF, s_i64, s_u64, s_u8, Int.toNat_natCast, Nat.zero_add, s_room, s_chkT, s_rdSl, s_wrSl, s_ldN, s_ldNM, s_ldNf, List.drop_zero, List.take_succ_cons, List.take_zero, List.take_nil, List.take_length, Nat.mul_one, List.flatten_cons, List.flatten_nil, List.append_nil, List.nil_append, List.cons_append]
    simp only [Bool.not_not] at hcond
    simp -implicitDefEqProofs (disch := (first | omega | rfl | assumption | (simp only [put_next, bump_next, kill_next, List.length_cons, List.length_nil, List.mem_cons, List.not_mem_nil, or_false, not_false_eq_true]; first | omega | assumption))) only [hcond, Nat.reduceAdd, Nat.reduceMul, Nat.reduceLT, s_beq, List.length_cons, List.length_nil, List.getD_cons_zero, List.getD_cons_succ, List.getElem?_cons_zero, List.getElem?_cons_succ, Option.bind_some, Option.bind_assoc, s_bindN, asI_i, asB_b, asS_s, asP_p, asPS_p, asSl_sl, s_agg, s_tup, s_fn, joinB, joinI, joinR, beq_true, beq_false, Bool.not_true, Bool.not_false, Bool.not_not, cond_true, cond_false, neI, s_mapS, bindS_inl, bindS_inr, Bool.and_true, Bool.true_and, Bool.and_false, Bool.false_and, s_isNoneS, s_isNoneN, s_ref, s_adv, s_ldf, s_ld, s_ldM, s_st, s_stM, s_bs, s_bn, s_pp, bump_blk, bump_next, put_next, splice_z, splice_zz, splice_s, s_decT, s_decF, s_eqT, s_eqF, s_i64, s_u64, s_u8, Int.toNat_natCast, Nat.zero_add, s_room, s_chkT, s_rdSl, s_wrSl, s_ldN, s_ldNM, s_ldNf, List.drop_zero, List.take_succ_cons, List.take_zero, List.take_nil, List.take_length, Nat.mul_one, List.flatten_cons, List.flatten_nil, List.append_nil, List.nil_append, List.cons_append]
    refine Ok.step (writeT (id := o.a) (at_ := o.b) (x := o.w) m1' m2 hcalm hb) fun r ⟨p1, p2⟩ => ?_
    obtain ⟨q, σ6⟩ := r
    simp only at p1 p2
    subst p1
    obtain ⟨⟨F6, p3, _⟩, p4, p5⟩ := p2
    obtain ⟨z1, z2, z3⟩ := holds_write (id := o.a) (b := o.b) (x := o.w) m3 (by
      by_cases hh : o.a = 0
      · exact .inr fun e => ca ⟨hh, e⟩
      · exact .inl hh)
    by_cases hz : (M.writeR o.a o.b o.w).2 = 0
    · rw [if_pos hz] at z3
      simp -implicitDefEqProofs (disch := (first | omega | rfl | assumption | (simp only [put_next, bump_next, kill_next, List.length_cons, List.length_nil, List.mem_cons, List.not_mem_nil, or_false, not_false_eq_true]; first | omega | assumption))) only [hz, Nat.reduceAdd, Nat.reduceMul, Nat.reduceLT, s_beq, List.length_cons, List.length_nil, List.getD_cons_zero, List.getD_cons_succ, List.getElem?_cons_zero, List.getElem?_cons_succ, Option.bind_some, Option.bind_assoc, s_bindN, asI_i, asB_b, asS_s, asP_p, asPS_p, asSl_sl, s_agg, s_tup, s_fn, joinB, joinI, joinR, beq_true, beq_false, Bool.not_true, Bool.not_false, Bool.not_not, cond_true, cond_false, neI, s_mapS, bindS_inl, bindS_inr, Bool.and_true, Bool.true_and, Bool.and_false, Bool.false_and, s_isNoneS, s_isNoneN, s_ref, s_adv, s_ldf, s_ld, s_ldM, s_st, s_stM, s_bs, s_bn, s_pp, bump_blk, bump_next, put_next, splice_z, splice_zz, splice_s, s_decT, s_decF, s_eqT, s_eqF, s_i64, s_u64, s_u8, Int.toNat_natCast, Nat.zero_add, s_room, s_chkT, s_rdSl, s_wrSl, s_ldN, s_ldNM, s_ldNf, List.drop_zero, List.take_succ_cons, List.take_zero, List.take_nil, List.take_length, Nat.mul_one, List.flatten_cons, List.flatten_nil, List.append_nil, List.nil_append, List.cons_append]
      exact Ok_some.2 ⟨_, _, F6, _, rfl, ⟨p3, p5, z1, by omega, by omega, by omega⟩, by omega⟩
    · rw [if_neg hz] at z3
      simp -implicitDefEqProofs (disch := (first | omega | rfl | assumption | (simp only [put_next, bump_next, kill_next, List.length_cons, List.length_nil, List.mem_cons, List.not_mem_nil, or_false, not_false_eq_true]; first | omega | assumption))) only [Nat.reduceAdd, Nat.reduceMul, Nat.reduceLT, s_beq, List.length_cons, List.length_nil, List.getD_cons_zero, List.getD_cons_succ, List.getElem?_cons_zero, List.getElem?_cons_succ, Option.bind_some, Option.bind_assoc, s_bindN, asI_i, asB_b, asS_s, asP_p, asPS_p, asSl_sl, s_agg, s_tup, s_fn, joinB, joinI, joinR, beq_true, beq_false, Bool.not_true, Bool.not_false, Bool.not_not, cond_true, cond_false, neI, s_mapS, bindS_inl, bindS_inr, Bool.and_true, Bool.true_and, Bool.and_false, Bool.false_and, s_isNoneS, s_isNoneN, s_ref, s_adv, s_ldf, s_ld, s_ldM, s_st, s_stM, s_bs, s_bn, s_pp, bump_blk, bump_next, put_next, splice_z, splice_zz, splice_s, s_decT, s_decF, s_eqT, s_eqF, s_i64, s_u64, s_u8, Int.toNat_natCast, Nat.zero_add, s_room, s_chkT, s_rdSl, s_wrSl, s_ldN, s_ldNM, s_ldNf, List.drop_zero, List.take_succ_cons, List.take_zero, List.take_nil, List.take_length, Nat.mul_one, List.flatten_cons, List.flatten_nil, List.append_nil, List.nil_append, List.cons_append]
      exact Ok_some.2 ⟨_, _, F6, _, rfl, ⟨p3, p5, z1, by omega, by omega, by omega⟩, by omega⟩
theorem holds_k5 (hk : o.kind = 5) : HGoal σ5 mb k w want (.loc bb oo 7) n j := by
  unfold HGoal
  obtain ⟨m1, m2, m3, m4, m5, m6⟩ := h
  have hcalm : M.calm := ⟨by omega, by omega⟩
  have e0 : Ext σ5 ((σ5.bump 1).put σ5.next (.cells true T_law08_Op o.cells)) := (ext_of (by simp only [put_next, bump_next, kill_next]; omega) (fun b hb => by simp -implicitDefEqProofs (disch := (first | omega | rfl | assumption | (simp only [put_next, bump_next, kill_next, List.length_cons, List.length_nil, List.mem_cons, List.not_mem_nil, or_false, not_false_eq_true]; first | omega | assumption))) only [s_bn, s_kn, bump_blk, s_ext]))
  have m1' := m1.ext e0
  have hlb : σ5.next ∉ F5 := fun hm => by have := m1.lt _ hm; omega
  have jn : decide ((j : Int) < (n : Int)) = true := decide_eq_true (by omega)
  have w1 : IntKind.i64.wrap ((j : Int) + 1) = (j : Int) + 1 := i64_id (by omega) (by omega)
  have ha := hr.a
  have hb := hr.b
  have hd := hr.d
  unfold i64r at ha hb hd
  clear hr hj hn
  have b0 : ((o.kind : Int) == 0) = false := by simp [hk]
  have b1 : ((o.kind : Int) == 1) = false := by simp [hk]
  have b2 : ((o.kind : Int) == 2) = false := by simp [hk]
  have b4 : ((o.kind : Int) == 4) = false := by simp [hk]
  have b5 : ((o.kind : Int) == 5) = true := by simp [hk]
  by_cases ca : o.a = 0
  · simp -implicitDefEqProofs only [law08_MemHolds_L1, q0, q1, q2, q3, q4, q5, q6, jn, w1, b0, b1, b2, b4, b5, Nat.reduceAdd, Nat.reduceMul, Nat.reduceLT, s_beq, List.length_cons, List.length_nil, List.getD_cons_zero, List.getD_cons_succ, List.getElem?_cons_zero, List.getElem?_cons_succ, Option.bind_some, Option.bind_assoc, s_bindN, asI_i, asB_b, asS_s, asP_p, asPS_p, asSl_sl, s_agg, s_tup, s_fn, joinB, joinI, joinR, beq_true, beq_false, Bool.not_true, Bool.not_false, Bool.not_not, cond_true, cond_false, neI, s_mapS, bindS_inl, bindS_inr, Bool.and_true, Bool.true_and, Bool.and_false, Bool.false_and, s_isNoneS, s_isNoneN, s_ref, s_adv, s_ldf, s_ld, s_ldM, s_st, s_stM, s_bs, s_pp, bump_blk, bump_next, put_next, splice_z, splice_zz, splice_s, Int.toNat_natCast, Nat.zero_add, s_chkT, s_rdSl, s_wrSl, s_ldN, s_ldNM, s_ldNf, List.drop_zero, List.take_succ_cons, List.take_zero, List.take_nil, List.take_length, Nat.mul_one, List.flatten_cons, List.flatten_nil, List.append_nil, List.nil_append, List.cons_append, s_bleD, Nat.reduceLeDiff, decide_true, decide_false]; try simp -implicitDefEqProofs (disch := (first | omega | rfl | assumption | (simp only [put_next, bump_next, kill_next, List.length_cons, List.length_nil, List.mem_cons, List.not_mem_nil, or_false, not_false_eq_true]; first | omega | assumption))) only [Nat.reduceAdd, Nat.reduceMul, Nat.reduceLT, s_beq, List.length_cons, List.length_nil, List.getD_cons_zero, List.getD_cons_succ, List.getElem?_cons_zero, List.getElem?_cons_succ, Option.bind_some, Option.bind_assoc, s_bindN, asI_i, asB_b, asS_s, asP_p, asPS_p, asSl_sl, s_agg, s_tup, s_fn, joinB, joinI, joinR, beq_true, beq_false, Bool.not_true, Bool.not_false, Bool.not_not, cond_true, cond_false, neI, s_mapS, bindS_inl, bindS_inr, Bool.and_true, Bool.true_and, Bool.and_false, Bool.false_and, s_isNoneS, s_isNoneN, s_ref, s_adv, s_ldf, s_ld, s_ldM, s_st, s_stM, s_bs, s_bn, s_pp, bump_blk, bump_next, put_next, splice_z, splice_zz, splice_s, s_decT, s_decF, s_eqT, s_eqF, s_i64, s_u64, s_u8, Int.toNat_natCast, Nat.zero_add, s_room, s_chkT, s_rdSl, s_wrSl, s_ldN, s_ldNM, s_ldNf, List.drop_zero, List.take_succ_cons, List.take_zero, List.take_nil, List.take_length, Nat.mul_one, List.flatten_cons, List.flatten_nil, List.append_nil, List.nil_append, List.cons_append]
    exact Ok_some.2 ⟨_, _, F5, M, rfl, ⟨m1', m2, m3, m4, m5, m6⟩, by omega⟩
  · simp -implicitDefEqProofs only [law08_MemHolds_L1, q0, q1, q2, q3, q4, q5, q6, jn, w1, b0, b1, b2, b4, b5, Nat.reduceAdd, Nat.reduceMul, Nat.reduceLT, s_beq, List.length_cons, List.length_nil, List.getD_cons_zero, List.getD_cons_succ, List.getElem?_cons_zero, List.getElem?_cons_succ, Option.bind_some, Option.bind_assoc, s_bindN, asI_i, asB_b, asS_s, asP_p, asPS_p, asSl_sl, s_agg, s_tup, s_fn, joinB, joinI, joinR, beq_true, beq_false, Bool.not_true, Bool.not_false, Bool.not_not, cond_true, cond_false, neI, s_mapS, bindS_inl, bindS_inr, Bool.and_true, Bool.true_and, Bool.and_false, Bool.false_and, s_isNoneS, s_isNoneN, s_ref, s_adv, s_ldf, s_ld, s_ldM, s_st, s_stM, s_bs, s_pp, bump_blk, bump_next, put_next, splice_z, splice_zz, splice_s, Int.toNat_natCast, Nat.zero_add, s_chkT, s_rdSl, s_wrSl, s_ldN, s_ldNM, s_ldNf, List.drop_zero, List.take_succ_cons, List.take_zero, List.take_nil, List.take_length, Nat.mul_one, List.flatten_cons, List.flatten_nil, List.append_nil, List.nil_append, List.cons_append, s_bleD, Nat.reduceLeDiff, decide_true, decide_false]; try simp -implicitDefEqProofs (disch := (first | omega | rfl | assumption | (simp only [put_next, bump_next, kill_next, List.length_cons, List.length_nil, List.mem_cons, List.not_mem_nil, or_false, not_false_eq_true]; first | omega | assumption))) only [Nat.reduceAdd, Nat.reduceMul, Nat.reduceLT, s_beq, List.length_cons, List.length_nil, List.getD_cons_zero, List.getD_cons_succ, List.getElem?_cons_zero, List.getElem?_cons_succ, Option.bind_some, Option.bind_assoc, s_bindN, asI_i, asB_b, asS_s, asP_p, asPS_p, asSl_sl, s_agg, s_tup, s_fn, joinB, joinI, joinR, beq_true, beq_false, Bool.not_true, Bool.not_false, Bool.not_not, cond_true, cond_false, neI, s_mapS, bindS_inl, bindS_inr, Bool.and_true, Bool.true_and, Bool.and_false, Bool.false_and, s_isNoneS, s_isNoneN, s_ref, s_adv, s_ldf, s_ld, s_ldM, s_st, s_stM, s_bs, s_bn, s_pp, bump_blk, bump_next, put_next, splice_z, splice_zz, splice_s, s_decT, s_decF, s_eqT, s_eqF, s_i64, s_u64, s_u8, Int.toNat_natCast, Nat.zero_add, s_room, s_chkT, s_rdSl, s_wrSl, s_ldN, s_ldNM, s_ldNf, List.drop_zero, List.take_succ_cons, List.take_zero, List.take_nil, List.take_length, Nat.mul_one, List.flatten_cons, List.flatten_nil, List.append_nil, List.nil_append, List.cons_append]
    refine Ok.step (zeroT (id := o.a) (at_ := o.b) (n := o.n) m1' m2 hcalm hb) fun r ⟨p1, p2⟩ => ?_
    obtain ⟨q, σ6⟩ := r
    simp only at p1 p2
    subst p1
    obtain ⟨⟨F6, p3, _⟩, p4, p5⟩ := p2
    obtain ⟨z1, z2, z3⟩ := holds_zero (id := o.a) (b := o.b) (n := o.n) m3 ca
    by_cases hz : (M.zeroR o.a o.b o.n).2 = 0
    · rw [if_pos hz] at z3
      have hsm := zero_small m2 hz
      have hl6 : σ6.blk σ5.next = _ := (p4.blk _ (by simp) hlb).trans s_bs
      simp -implicitDefEqProofs (disch := (first | omega | rfl | assumption | (simp only [put_next, bump_next, kill_next, List.length_cons, List.length_nil, List.mem_cons, List.not_mem_nil, or_false, not_false_eq_true]; first | omega | assumption))) only [hz, hl6, MOp.cells, Nat.reduceAdd, Nat.reduceMul, Nat.reduceLT, s_beq, List.length_cons, List.length_nil, List.getD_cons_zero, List.getD_cons_succ, List.getElem?_cons_zero, List.getElem?_cons_succ, Option.bind_some, Option.bind_assoc, s_bindN, asI_i, asB_b, asS_s, asP_p, asPS_p, asSl_sl, s_agg, s_tup, s_fn, joinB, joinI, joinR, beq_true, beq_false, Bool.not_true, Bool.not_false, Bool.not_not, cond_true, cond_false, neI, s_mapS, bindS_inl, bindS_inr, Bool.and_true, Bool.true_and, Bool.and_false, Bool.false_and, s_isNoneS, s_isNoneN, s_ref, s_adv, s_ldf, s_ld, s_ldM, s_st, s_stM, s_bs, s_bn, s_pp, bump_blk, bump_next, put_next, splice_z, splice_zz, splice_s, s_decT, s_decF, s_eqT, s_eqF, s_i64, s_u64, s_u8, Int.toNat_natCast, Nat.zero_add, s_room, s_chkT, s_rdSl, s_wrSl, s_ldN, s_ldNM, s_ldNf, List.drop_zero, List.take_succ_cons, List.take_zero, List.take_nil, List.take_length, Nat.mul_one, List.flatten_cons, List.flatten_nil, List.append_nil, List.nil_append, List.cons_append]
      exact Ok_some.2 ⟨_, _, F6, _, rfl, ⟨p3, p5, z1, by omega, by omega, by omega⟩, by omega⟩
    · rw [if_neg hz] at z3
      simp -implicitDefEqProofs (disch := (first | omega | rfl | assumption | (simp only [put_next, bump_next, kill_next, List.length_cons, List.length_nil, List.mem_cons, List.not_mem_nil, or_false, not_false_eq_true]; first | omega | assumption))) only [Nat.reduceAdd, Nat.reduceMul, Nat.reduceLT, s_beq, List.length_cons, List.length_nil, List.getD_cons_zero, List.getD_cons_succ, List.getElem?_cons_zero, List.getElem?_cons_succ, Option.bind_some, Option.bind_assoc, s_bindN, asI_i, asB_b, asS_s, asP_p, asPS_p, asSl_sl, s_agg, s_tup, s_fn, joinB, joinI, joinR, beq_true, beq_false, Bool.not_true, Bool.not_false, Bool.not_not, cond_true, cond_false, neI, s_mapS, bindS_inl, bindS_inr, Bool.and_true, Bool.true_and, Bool.and_false, Bool.false_and, s_isNoneS, s_isNoneN, s_ref, s_adv, s_ldf, s_ld, s_ldM, s_st, s_stM, s_bs, s_bn, s_pp, bump_blk, bump_next, put_next, splice_z, splice_zz, splice_s, s_decT, s_decF, s_eqT, s_eqF, s_i64, s_u64, s_u8, Int.toNat_natCast, Nat.zero_add, s_room, s_chkT, s_rdSl, s_wrSl, s_ldN, s_ldNM, s_ldNf, List.drop_zero, List.take_succ_cons, List.take_zero, List.take_nil, List.take_length, Nat.mul_one, List.flatten_cons, List.flatten_nil, List.append_nil, List.nil_append, List.cons_append]
      exact Ok_some.2 ⟨_, _, F6, _, rfl, ⟨p3, p5, z1, by omega, by omega, by omega⟩, by omega⟩
theorem holds_k6 (hk : o.kind = 6) : HGoal σ5 mb k w want (.loc bb oo 7) n j := by
  unfold HGoal
  obtain ⟨m1, m2, m3, m4, m5, m6⟩ := h
  have hcalm : M.calm := ⟨by omega, by omega⟩
  have e0 : Ext σ5 ((σ5.bump 1).put σ5.next (.cells true T_law08_Op o.cells)) := (ext_of (by simp only [put_next, bump_next, kill_next]; omega) (fun b hb => by simp -implicitDefEqProofs (disch := (first | omega | rfl | assumption | (simp only [put_next, bump_next, kill_next, List.length_cons, List.length_nil, List.mem_cons, List.not_mem_nil, or_false, not_false_eq_true]; first | omega | assumption))) only [s_bn, s_kn, bump_blk, s_ext]))
  have m1' := m1.ext e0
  have hlb : σ5.next ∉ F5 := fun hm => by have := m1.lt _ hm; omega
  have jn : decide ((j : Int) < (n : Int)) = true := decide_eq_true (by omega)
  have w1 : IntKind.i64.wrap ((j : Int) + 1) = (j : Int) + 1 := i64_id (by omega) (by omega)
  have ha := hr.a
  have hb := hr.b
  have hd := hr.d
  unfold i64r at ha hb hd
  clear hr hj hn
  have b0 : ((o.kind : Int) == 0) = false := by simp [hk]
  have b1 : ((o.kind : Int) == 1) = false := by simp [hk]
  have b2 : ((o.kind : Int) == 2) = false := by simp [hk]
  have b4 : ((o.kind : Int) == 4) = false := by simp [hk]
  have b5 : ((o.kind : Int) == 5) = false := by simp [hk]
  have b6 : ((o.kind : Int) == 6) = true := by simp [hk]
  by_cases ca : o.c = 0
  · simp -implicitDefEqProofs only [law08_MemHolds_L1, q0, q1, q2, q3, q4, q5, q6, jn, w1, b0, b1, b2, b4, b5, b6, Nat.reduceAdd, Nat.reduceMul, Nat.reduceLT, s_beq, List.length_cons, List.length_nil, List.getD_cons_zero, List.getD_cons_succ, List.getElem?_cons_zero, List.getElem?_cons_succ, Option.bind_some, Option.bind_assoc, s_bindN, asI_i, asB_b, asS_s, asP_p, asPS_p, asSl_sl, s_agg, s_tup, s_fn, joinB, joinI, joinR, beq_true, beq_false, Bool.not_true, Bool.not_false, Bool.not_not, cond_true, cond_false, neI, s_mapS, bindS_inl, bindS_inr, Bool.and_true, Bool.true_and, Bool.and_false, Bool.false_and, s_isNoneS, s_isNoneN, s_ref, s_adv, s_ldf, s_ld, s_ldM, s_st, s_stM, s_bs, s_pp, bump_blk, bump_next, put_next, splice_z, splice_zz, splice_s, Int.toNat_natCast, Nat.zero_add, s_chkT, s_rdSl, s_wrSl, s_ldN, s_ldNM, s_ldNf, List.drop_zero, List.take_succ_cons, List.take_zero, List.take_nil, List.take_length, Nat.mul_one, List.flatten_cons, List.flatten_nil, List.append_nil, List.nil_append, List.cons_append, s_bleD, Nat.reduceLeDiff, decide_true, decide_false]; try simp -implicitDefEqProofs (disch := (first | omega | rfl | assumption | (simp only [put_next, bump_next, kill_next, List.length_cons, List.length_nil, List.mem_cons, List.not_mem_nil, or_false, not_false_eq_true]; first | omega | assumption))) only [Nat.reduceAdd, Nat.reduceMul, Nat.reduceLT, s_beq, List.length_cons, List.length_nil, List.getD_cons_zero, List.getD_cons_succ, List.getElem?_cons_zero, List.getElem?_cons_succ, Option.bind_some, Option.bind_assoc, s_bindN, asI_i, asB_b, asS_s, asP_p, asPS_p, asSl_sl, s_agg, s_tup, s_fn, joinB, joinI, joinR, beq_true, beq_false, Bool.not_true, Bool.not_false, Bool.not_not, cond_true, cond_false, neI, s_mapS, bindS_inl, bindS_inr, Bool.and_true, Bool.true_and, Bool.and_false, Bool.false_and, s_isNoneS, s_isNoneN, s_ref, s_adv, s_ldf, s_ld, s_ldM, s_st, s_stM, s_bs, s_bn, s_pp, bump_blk, bump_next, put_next, splice_z, splice_zz, splice_s, s_decT, s_decF, s_eqT, s_eqF, s_i64, s_u64, s_u8, Int.toNat_natCast, Nat.zero_add, s_room, s_chkT, s_rdSl, s_wrSl, s_ldN, s_ldNM, s_ldNf, List.drop_zero, List.take_succ_cons, List.take_zero, List.take_nil, List.take_length, Nat.mul_one, List.flatten_cons, List.flatten_nil, List.append_nil, List.nil_append, List.cons_append]
    exact Ok_some.2 ⟨_, _, F5, M, rfl, ⟨m1', m2, m3, m4, m5, m6⟩, by omega⟩
  · simp -implicitDefEqProofs only [law08_MemHolds_L1, q0, q1, q2, q3, q4, q5, q6, jn, w1, b0, b1, b2, b4, b5, b6, Nat.reduceAdd, Nat.reduceMul, Nat.reduceLT, s_beq, List.length_cons, List.length_nil, List.getD_cons_zero, List.getD_cons_succ, List.getElem?_cons_zero, List.getElem?_cons_succ, Option.bind_some, Option.bind_assoc, s_bindN, asI_i, asB_b, asS_s, asP_p, asPS_p, asSl_sl, s_agg, s_tup, s_fn, joinB, joinI, joinR, beq_true, beq_false, Bool.not_true, Bool.not_false, Bool.not_not, cond_true, cond_false, neI, s_mapS, bindS_inl, bindS_inr, Bool.and_true, Bool.true_and, Bool.and_false, Bool.false_and, s_isNoneS, s_isNoneN, s_ref, s_adv, s_ldf, s_ld, s_ldM, s_st, s_stM, s_bs, s_pp, bump_blk, bump_next, put_next, splice_z, splice_zz, splice_s, Int.toNat_natCast, Nat.zero_add, s_chkT, s_rdSl, s_wrSl, s_ldN, s_ldNM, s_ldNf, List.drop_zero, List.take_succ_cons, List.take_zero, List.take_nil, List.take_length, Nat.mul_one, List.flatten_cons, List.flatten_nil, List.append_nil, List.nil_append, List.cons_append, s_bleD, Nat.reduceLeDiff, decide_true, decide_false]; try simp -implicitDefEqProofs (disch := (first | omega | rfl | assumption | (simp only [put_next, bump_next, kill_next, List.length_cons, List.length_nil, List.mem_cons, List.not_mem_nil, or_false, not_false_eq_true]; first | omega | assumption))) only [Nat.reduceAdd, Nat.reduceMul, Nat.reduceLT, s_beq, List.length_cons, List.length_nil, List.getD_cons_zero, List.getD_cons_succ, List.getElem?_cons_zero, List.getElem?_cons_succ, Option.bind_some, Option.bind_assoc, s_bindN, asI_i, asB_b, asS_s, asP_p, asPS_p, asSl_sl, s_agg, s_tup, s_fn, joinB, joinI, joinR, beq_true, beq_false, Bool.not_true, Bool.not_false, Bool.not_not, cond_true, cond_false, neI, s_mapS, bindS_inl, bindS_inr, Bool.and_true, Bool.true_and, Bool.and_false, Bool.false_and, s_isNoneS, s_isNoneN, s_ref, s_adv, s_ldf, s_ld, s_ldM, s_st, s_stM, s_bs, s_bn, s_pp, bump_blk, bump_next, put_next, splice_z, splice_zz, splice_s, s_decT, s_decF, s_eqT, s_eqF, s_i64, s_u64, s_u8, Int.toNat_natCast, Nat.zero_add, s_room, s_chkT, s_rdSl, s_wrSl, s_ldN, s_ldNM, s_ldNf, List.drop_zero, List.take_succ_cons, List.take_zero, List.take_nil, List.take_length, Nat.mul_one, List.flatten_cons, List.flatten_nil, List.append_nil, List.nil_append, List.cons_append]
    refine Ok.step (copyT (fr := o.a) (at_ := o.b) (to := o.c) (de := o.d) (n := o.n) m1' m2 hcalm hb hd) fun r ⟨p1, p2⟩ => ?_
    obtain ⟨q, σ6⟩ := r
    simp only at p1 p2
    subst p1
    obtain ⟨⟨F6, p3, _⟩, p4, p5⟩ := p2
    obtain ⟨z1, z2, z3⟩ := holds_copy (fr := o.a) (b := o.b) (to := o.c) (de := o.d) (n := o.n) m3 ca
    by_cases hz : (M.copyR o.a o.b o.c o.d o.n).2 = 0
    · rw [if_pos hz] at z2 z3
      have hsm := copy_small m2 hz
      have hl6 : σ6.blk σ5.next = _ := (p4.blk _ (by simp) hlb).trans s_bs
      simp -implicitDefEqProofs (disch := (first | omega | rfl | assumption | (simp only [put_next, bump_next, kill_next, List.length_cons, List.length_nil, List.mem_cons, List.not_mem_nil, or_false, not_false_eq_true]; first | omega | assumption))) only [hz, hl6, MOp.cells, Nat.reduceAdd, Nat.reduceMul, Nat.reduceLT, s_beq, List.length_cons, List.length_nil, List.getD_cons_zero, List.getD_cons_succ, List.getElem?_cons_zero, List.getElem?_cons_succ, Option.bind_some, Option.bind_assoc, s_bindN, asI_i, asB_b, asS_s, asP_p, asPS_p, asSl_sl, s_agg, s_tup, s_fn, joinB, joinI, joinR, beq_true, beq_false, Bool.not_true, Bool.not_false, Bool.not_not, cond_true, cond_false, neI, s_mapS, bindS_inl, bindS_inr, Bool.and_true, Bool.true_and, Bool.and_false, Bool.false_and, s_isNoneS, s_isNoneN, s_ref, s_adv, s_ldf, s_ld, s_ldM, s_st, s_stM, s_bs, s_bn, s_pp, bump_blk, bump_next, put_next, splice_z, splice_zz, splice_s, s_decT, s_decF, s_eqT, s_eqF, s_i64, s_u64, s_u8, Int.toNat_natCast, Nat.zero_add, s_room, s_chkT, s_rdSl, s_wrSl, s_ldN, s_ldNM, s_ldNf, List.drop_zero, List.take_succ_cons, List.take_zero, List.take_nil, List.take_length, Nat.mul_one, List.flatten_cons, List.flatten_nil, List.append_nil, List.nil_append, List.cons_append]
      exact Ok_some.2 ⟨_, _, F6, _, rfl, ⟨p3, p5, z1, by omega, by omega, by omega⟩, by omega⟩
    · rw [if_neg hz] at z2 z3
      simp -implicitDefEqProofs (disch := (first | omega | rfl | assumption | (simp only [put_next, bump_next, kill_next, List.length_cons, List.length_nil, List.mem_cons, List.not_mem_nil, or_false, not_false_eq_true]; first | omega | assumption))) only [Nat.reduceAdd, Nat.reduceMul, Nat.reduceLT, s_beq, List.length_cons, List.length_nil, List.getD_cons_zero, List.getD_cons_succ, List.getElem?_cons_zero, List.getElem?_cons_succ, Option.bind_some, Option.bind_assoc, s_bindN, asI_i, asB_b, asS_s, asP_p, asPS_p, asSl_sl, s_agg, s_tup, s_fn, joinB, joinI, joinR, beq_true, beq_false, Bool.not_true, Bool.not_false, Bool.not_not, cond_true, cond_false, neI, s_mapS, bindS_inl, bindS_inr, Bool.and_true, Bool.true_and, Bool.and_false, Bool.false_and, s_isNoneS, s_isNoneN, s_ref, s_adv, s_ldf, s_ld, s_ldM, s_st, s_stM, s_bs, s_bn, s_pp, bump_blk, bump_next, put_next, splice_z, splice_zz, splice_s, s_decT, s_decF, s_eqT, s_eqF, s_i64, s_u64, s_u8, Int.toNat_natCast, Nat.zero_add, s_room, s_chkT, s_rdSl, s_wrSl, s_ldN, s_ldNM, s_ldNf, List.drop_zero, List.take_succ_cons, List.take_zero, List.take_nil, List.take_length, Nat.mul_one, List.flatten_cons, List.flatten_nil, List.append_nil, List.nil_append, List.cons_append]
      exact Ok_some.2 ⟨_, _, F6, _, rfl, ⟨p3, p5, z1, by omega, by omega, by omega⟩, by omega⟩
theorem holds_kx (n0 : o.kind ≠ 0) (n1 : o.kind ≠ 1) (n2 : o.kind ≠ 2) (n4 : o.kind ≠ 4) (n5 : o.kind ≠ 5) (n6 : o.kind ≠ 6) : HGoal σ5 mb k w want (.loc bb oo 7) n j := by
  unfold HGoal
  obtain ⟨m1, m2, m3, m4, m5, m6⟩ := h
  have hcalm : M.calm := ⟨by omega, by omega⟩
  have e0 : Ext σ5 ((σ5.bump 1).put σ5.next (.cells true T_law08_Op o.cells)) := (ext_of (by simp only [put_next, bump_next, kill_next]; omega) (fun b hb => by simp -implicitDefEqProofs (disch := (first | omega | rfl | assumption | (simp only [put_next, bump_next, kill_next, List.length_cons, List.length_nil, List.mem_cons, List.not_mem_nil, or_false, not_false_eq_true]; first | omega | assumption))) only [s_bn, s_kn, bump_blk, s_ext]))
  have m1' := m1.ext e0
  have hlb : σ5.next ∉ F5 := fun hm => by have := m1.lt _ hm; omega
  have jn : decide ((j : Int) < (n : Int)) = true := decide_eq_true (by omega)
  have w1 : IntKind.i64.wrap ((j : Int) + 1) = (j : Int) + 1 := i64_id (by omega) (by omega)
  have ha := hr.a
  have hb := hr.b
  have hd := hr.d
  unfold i64r at ha hb hd
  clear hr hj hn
  have b0 : ((o.kind : Int) == 0) = false := by simp [n0]
  have b1 : ((o.kind : Int) == 1) = false := by simp [n1]
  have b2 : ((o.kind : Int) == 2) = false := by simp [n2]
  have b4 : ((o.kind : Int) == 4) = false := by simp [n4]
  have b5 : ((o.kind : Int) == 5) = false := by simp [n5]
  have b6 : ((o.kind : Int) == 6) = false := by simp [n6]
  simp -implicitDefEqProofs only [law08_MemHolds_L1, q0, q1, q2, q3, q4, q5, q6, jn, w1, b0, b1, b2, b4, b5, b6, Nat.reduceAdd, Nat.reduceMul, Nat.reduceLT, s_beq, List.length_cons, List.length_nil, List.getD_cons_zero, List.getD_cons_succ, List.getElem?_cons_zero, List.getElem?_cons_succ, Option.bind_some, Option.bind_assoc, s_bindN, asI_i, asB_b, asS_s, asP_p, asPS_p, asSl_sl, s_agg, s_tup, s_fn, joinB, joinI, joinR, beq_true, beq_false, Bool.not_true, Bool.not_false, Bool.not_not, cond_true, cond_false, neI, s_mapS, bindS_inl, bindS_inr, Bool.and_true, Bool.true_and, Bool.and_false, Bool.false_and, s_isNoneS, s_isNoneN, s_ref, s_adv, s_ldf, s_ld, s_ldM, s_st, s_stM, s_bs, s_pp, bump_blk, bump_next, put_next, splice_z, splice_zz, splice_s, Int.toNat_natCast, Nat.zero_add, s_chkT, s_rdSl, s_wrSl, s_ldN, s_ldNM, s_ldNf, List.drop_zero, List.take_succ_cons, List.take_zero, List.take_nil, List.take_length, Nat.mul_one, List.flatten_cons, List.flatten_nil, List.append_nil, List.nil_append, List.cons_append, s_bleD, Nat.reduceLeDiff, decide_true, decide_false]; try simp -implicitDefEqProofs (disch := (first | omega | rfl | assumption | (simp only [put_next, bump_next, kill_next, List.length_cons, List.length_nil, List.mem_cons, List.not_mem_nil, or_false, not_false_eq_true]; first | omega | assumption))) only [Nat.reduceAdd, Nat.reduceMul, Nat.reduceLT, s_beq, List.length_cons, List.length_nil, List.getD_cons_zero, List.getD_cons_succ, List.getElem?_cons_zero, List.getElem?_cons_succ, Option.bind_some, Option.bind_assoc, s_bindN, asI_i, asB_b, asS_s, asP_p, asPS_p, asSl_sl, s_agg, s_tup, s_fn, joinB, joinI, joinR, beq_true, beq_false, Bool.not_true, Bool.not_false, Bool.not_not, cond_true, cond_false, neI, s_mapS, bindS_inl, bindS_inr, Bool.and_true, Bool.true_and, Bool.and_false, Bool.false_and, s_isNoneS, s_isNoneN, s_ref, s_adv, s_ldf, s_ld, s_ldM, s_st, s_stM, s_bs, s_bn, s_pp, bump_blk, bump_next, put_next, splice_z, splice_zz, splice_s, s_decT, s_decF, s_eqT, s_eqF, s_i64, s_u64, s_u8, Int.toNat_natCast, Nat.zero_add, s_room, s_chkT, s_rdSl, s_wrSl, s_ldN, s_ldNM, s_ldNf, List.drop_zero, List.take_succ_cons, List.take_zero, List.take_nil, List.take_length, Nat.mul_one, List.flatten_cons, List.flatten_nil, List.append_nil, List.nil_append, List.cons_append]
  exact Ok_some.2 ⟨_, _, F5, M, rfl, ⟨m1', m2, m3, m4, m5, m6⟩, by omega⟩
end

theorem memHolds_ok {σ : AH O} {n1 n2 w : Int} {sa : SA} {ops : List MOp} (h1 : 0 ≤ n1 ∧ n1 < 256) (h2 : 0 ≤ n2 ∧ n2 < 256) (hw : 0 ≤ w ∧ w < 18446744073709551616) (ho : Ops sa ops) :
    Ok (law08_MemHolds [.agg [.i .u8 n1, .i .u8 n2], .i .u64 w, .sl sa ops.length] σ) fun r => r.1 = .b true := by
  simp -implicitDefEqProofs (disch := (first | omega | rfl | assumption | (simp only [put_next, bump_next, kill_next, List.length_cons, List.length_nil, List.mem_cons, List.not_mem_nil, or_false, not_false_eq_true]; first | omega | assumption))) only [law08_MemHolds, law08_MemHolds_c, Nat.reduceAdd, Nat.reduceMul, Nat.reduceLT, s_beq, List.length_cons, List.length_nil, List.getD_cons_zero, List.getD_cons_succ, List.getElem?_cons_zero, List.getElem?_cons_succ, Option.bind_some, Option.bind_assoc, s_bindN, asI_i, asB_b, asS_s, asP_p, asPS_p, asSl_sl, s_agg, s_tup, s_fn, joinB, joinI, joinR, beq_true, beq_false, Bool.not_true, Bool.not_false, Bool.not_not, cond_true, cond_false, neI, s_mapS, bindS_inl, bindS_inr, Bool.and_true, Bool.true_and, Bool.and_false, Bool.false_and, s_isNoneS, s_isNoneN, s_ref, s_adv, s_ldf, s_ld, s_ldM, s_st, s_stM, s_bs, s_bn, s_pp, bump_blk, bump_next, put_next, splice_z, splice_zz, splice_s, s_decT, s_decF, s_eqT, s_eqF, s_i64, s_u64, s_u8, Int.toNat_natCast, Nat.zero_add, s_room, s_chkT, s_rdSl, s_wrSl, s_ldN, s_ldNM, s_ldNf, List.drop_zero, List.take_succ_cons, List.take_zero, List.take_nil, List.take_length, Nat.mul_one, List.flatten_cons, List.flatten_nil, List.append_nil, List.nil_append, List.cons_append]
  generalize hσ0 : (σ.bump 1).put σ.next (.cells true _ [.i .u8 n1, .i .u8 n2]) = σ0
  have hb0 : ∃ el, σ0.blk σ.next = some (.cells true el [.i .u8 n1, .i .u8 n2]) := by rw [← hσ0]; exact ⟨_, s_bs⟩
  have hn0 : σ.next < σ0.next := by rw [← hσ0]; simp
  clear hσ0
  obtain ⟨el0, hb0⟩ := hb0
  generalize σ.next = lb at *
  refine Ok.step awake_ok fun r ⟨g1, g2⟩ => ?_
  obtain ⟨q, σ1⟩ := r
  simp only at g1 g2
  subst g1
  simp -implicitDefEqProofs (disch := (first | omega | rfl | assumption | (simp only [put_next, bump_next, kill_next, List.length_cons, List.length_nil, List.mem_cons, List.not_mem_nil, or_false, not_false_eq_true]; first | omega | assumption))) only [Nat.reduceAdd, Nat.reduceMul, Nat.reduceLT, s_beq, List.length_cons, List.length_nil, List.getD_cons_zero, List.getD_cons_succ, List.getElem?_cons_zero, List.getElem?_cons_succ, Option.bind_some, Option.bind_assoc, s_bindN, asI_i, asB_b, asS_s, asP_p, asPS_p, asSl_sl, s_agg, s_tup, s_fn, joinB, joinI, joinR, beq_true, beq_false, Bool.not_true, Bool.not_false, Bool.not_not, cond_true, cond_false, neI, s_mapS, bindS_inl, bindS_inr, Bool.and_true, Bool.true_and, Bool.and_false, Bool.false_and, s_isNoneS, s_isNoneN, s_ref, s_adv, s_ldf, s_ld, s_ldM, s_st, s_stM, s_bs, s_bn, s_pp, bump_blk, bump_next, put_next, splice_z, splice_zz, splice_s, s_decT, s_decF, s_eqT, s_eqF, s_i64, s_u64, s_u8, Int.toNat_natCast, Nat.zero_add, s_room, s_chkT, s_rdSl, s_wrSl, s_ldN, s_ldNM, s_ldNf, List.drop_zero, List.take_succ_cons, List.take_zero, List.take_nil, List.take_length, Nat.mul_one, List.flatten_cons, List.flatten_nil, List.append_nil, List.nil_append, List.cons_append]
  refine Ok.step (few_ok ho) fun r ⟨b, g3, g4⟩ => ?_
  subst g3
  cases b with
  | false =>
    simp -implicitDefEqProofs (disch := (first | omega | rfl | assumption | (simp only [put_next, bump_next, kill_next, List.length_cons, List.length_nil, List.mem_cons, List.not_mem_nil, or_false, not_false_eq_true]; first | omega | assumption))) only [Nat.reduceAdd, Nat.reduceMul, Nat.reduceLT, s_beq, List.length_cons, List.length_nil, List.getD_cons_zero, List.getD_cons_succ, List.getElem?_cons_zero, List.getElem?_cons_succ, Option.bind_some, Option.bind_assoc, s_bindN, asI_i, asB_b, asS_s, asP_p, asPS_p, asSl_sl, s_agg, s_tup, s_fn, joinB, joinI, joinR, beq_true, beq_false, Bool.not_true, Bool.not_false, Bool.not_not, cond_true, cond_false, neI, s_mapS, bindS_inl, bindS_inr, Bool.and_true, Bool.true_and, Bool.and_false, Bool.false_and, s_isNoneS, s_isNoneN, s_ref, s_adv, s_ldf, s_ld, s_ldM, s_st, s_stM, s_bs, s_bn, s_pp, bump_blk, bump_next, put_next, splice_z, splice_zz, splice_s, s_decT, s_decF, s_eqT, s_eqF, s_i64, s_u64, s_u8, Int.toNat_natCast, Nat.zero_add, s_room, s_chkT, s_rdSl, s_wrSl, s_ldN, s_ldNM, s_ldNf, List.drop_zero, List.take_succ_cons, List.take_zero, List.take_nil, List.take_length, Nat.mul_one, List.flatten_cons, List.flatten_nil, List.append_nil, List.nil_append, List.cons_append]
    exact Ok_some.2 rfl
  | true =>
  obtain ⟨hlen, hfew⟩ := g4 rfl
  simp -implicitDefEqProofs (disch := (first | omega | rfl | assumption | (simp only [put_next, bump_next, kill_next, List.length_cons, List.length_nil, List.mem_cons, List.not_mem_nil, or_false, not_false_eq_true]; first | omega | assumption))) only [Nat.reduceAdd, Nat.reduceMul, Nat.reduceLT, s_beq, List.length_cons, List.length_nil, List.getD_cons_zero, List.getD_cons_succ, List.getElem?_cons_zero, List.getElem?_cons_succ, Option.bind_some, Option.bind_assoc, s_bindN, asI_i, asB_b, asS_s, asP_p, asPS_p, asSl_sl, s_agg, s_tup, s_fn, joinB, joinI, joinR, beq_true, beq_false, Bool.not_true, Bool.not_false, Bool.not_not, cond_true, cond_false, neI, s_mapS, bindS_inl, bindS_inr, Bool.and_true, Bool.true_and, Bool.and_false, Bool.false_and, s_isNoneS, s_isNoneN, s_ref, s_adv, s_ldf, s_ld, s_ldM, s_st, s_stM, s_bs, s_bn, s_pp, bump_blk, bump_next, put_next, splice_z, splice_zz, splice_s, s_decT, s_decF, s_eqT, s_eqF, s_i64, s_u64, s_u8, Int.toNat_natCast, Nat.zero_add, s_room, s_chkT, s_rdSl, s_wrSl, s_ldN, s_ldNM, s_ldNf, List.drop_zero, List.take_succ_cons, List.take_zero, List.take_nil, List.take_length, Nat.mul_one, List.flatten_cons, List.flatten_nil, List.append_nil, List.nil_append, List.cons_append]
  refine Ok.step memNew_ok fun r ⟨F, g1, g5, g6, g7⟩ => ?_
  obtain ⟨q, σ2⟩ := r
  simp only at g1 g5 g6
  subst g1
  generalize σ1.next = mb at g5
  have hn1 := g2.next
  have hn2 := g6.next
  have hb2 : σ2.blk lb = _ := ((g2.trans g6).blk lb hn0).trans hb0
  have hlbF : lb ∉ F := fun hm => by have := g7 lb hm; omega
  simp -implicitDefEqProofs (disch := (first | omega | rfl | assumption | (simp only [put_next, bump_next, kill_next, List.length_cons, List.length_nil, List.mem_cons, List.not_mem_nil, or_false, not_false_eq_true]; first | omega | assumption))) only [hb2, Nat.reduceAdd, Nat.reduceMul, Nat.reduceLT, s_beq, List.length_cons, List.length_nil, List.getD_cons_zero, List.getD_cons_succ, List.getElem?_cons_zero, List.getElem?_cons_succ, Option.bind_some, Option.bind_assoc, s_bindN, asI_i, asB_b, asS_s, asP_p, asPS_p, asSl_sl, s_agg, s_tup, s_fn, joinB, joinI, joinR, beq_true, beq_false, Bool.not_true, Bool.not_false, Bool.not_not, cond_true, cond_false, neI, s_mapS, bindS_inl, bindS_inr, Bool.and_true, Bool.true_and, Bool.and_false, Bool.false_and, s_isNoneS, s_isNoneN, s_ref, s_adv, s_ldf, s_ld, s_ldM, s_st, s_stM, s_bs, s_bn, s_pp, bump_blk, bump_next, put_next, splice_z, splice_zz, splice_s, s_decT, s_decF, s_eqT, s_eqF, s_i64, s_u64, s_u8, Int.toNat_natCast, Nat.zero_add, s_room, s_chkT, s_rdSl, s_wrSl, s_ldN, s_ldNM, s_ldNf, List.drop_zero, List.take_succ_cons, List.take_zero, List.take_nil, List.take_length, Nat.mul_one, List.flatten_cons, List.flatten_nil, List.append_nil, List.nil_append, List.cons_append]
  refine Ok.step (open_ok (n := 1 + n1) g5 MemS.new_ok (by omega) (by omega) (by decide)) fun r ⟨i, hf, g8, F3, g9, g10, g11⟩ => ?_
  obtain ⟨q, σ3⟩ := r
  simp only at g8 g9 g10
  subst g8
  obtain rfl := free_nil hf
  have k1 := MemS.opn_ok MemS.new_ok hf (n := 1 + n1) (by omega) (by omega) (by decide)
  have hb3 : σ3.blk lb = _ := (g10.blk lb (by omega) hlbF).trans hb2
  have hmod : Int.tmod n2 (1 + n1) = ((n2.toNat % (1 + n1).toNat : Nat) : Int) := by
    rw [Int.tmod_eq_emod_of_nonneg h2.1, Int.natCast_emod, Int.toNat_of_nonneg h2.1, Int.toNat_of_nonneg (by omega)]
  have hklt : n2.toNat % (1 + n1).toNat < (1 + n1).toNat := Nat.mod_lt _ (by omega)
  generalize n2.toNat % (1 + n1).toNat = k at hmod hklt
  have hz : ((1 + n1 : Int) == 0) = false := by simp; omega
  simp -implicitDefEqProofs (disch := (first | omega | rfl | assumption | (simp only [put_next, bump_next, kill_next, List.length_cons, List.length_nil, List.mem_cons, List.not_mem_nil, or_false, not_false_eq_true]; first | omega | assumption))) only [hb3, hmod, hz, Nat.reduceAdd, Nat.reduceMul, Nat.reduceLT, s_beq, List.length_cons, List.length_nil, List.getD_cons_zero, List.getD_cons_succ, List.getElem?_cons_zero, List.getElem?_cons_succ, Option.bind_some, Option.bind_assoc, s_bindN, asI_i, asB_b, asS_s, asP_p, asPS_p, asSl_sl, s_agg, s_tup, s_fn, joinB, joinI, joinR, beq_true, beq_false, Bool.not_true, Bool.not_false, Bool.not_not, cond_true, cond_false, neI, s_mapS, bindS_inl, bindS_inr, Bool.and_true, Bool.true_and, Bool.and_false, Bool.false_and, s_isNoneS, s_isNoneN, s_ref, s_adv, s_ldf, s_ld, s_ldM, s_st, s_stM, s_bs, s_bn, s_pp, bump_blk, bump_next, put_next, splice_z, splice_zz, splice_s, s_decT, s_decF, s_eqT, s_eqF, s_i64, s_u64, s_u8, Int.toNat_natCast, Nat.zero_add, s_room, s_chkT, s_rdSl, s_wrSl, s_ldN, s_ldNM, s_ldNf, List.drop_zero, List.take_succ_cons, List.take_zero, List.take_nil, List.take_length, Nat.mul_one, List.flatten_cons, List.flatten_nil, List.append_nil, List.nil_append, List.cons_append]
  refine Ok.step (write_ok (x := w) (at_ := (k : Int)) (w := List.replicate (1 + n1).toNat 0) g9 k1 (by omega) rfl (by omega) (by simp; omega)) fun r ⟨g12, g13, g14⟩ => ?_
  obtain ⟨q, σ4⟩ := r
  simp only at g12 g13 g14
  subst g12
  have k2 := MemS.put_ok (MemS.wr_ok k1 (n := 1) (by omega) (by show (0 : Int) + 1 < _; decide)) (i := ((0 : Nat) : Int).toNat) (w := List.replicate (1 + n1).toNat 0) (w' := (List.replicate (1 + n1).toNat 0).set (k : Int).toNat w) rfl (by simp)
  simp -implicitDefEqProofs (disch := (first | omega | rfl | assumption | (simp only [put_next, bump_next, kill_next, List.length_cons, List.length_nil, List.mem_cons, List.not_mem_nil, or_false, not_false_eq_true]; first | omega | assumption))) only [Nat.reduceAdd, Nat.reduceMul, Nat.reduceLT, s_beq, List.length_cons, List.length_nil, List.getD_cons_zero, List.getD_cons_succ, List.getElem?_cons_zero, List.getElem?_cons_succ, Option.bind_some, Option.bind_assoc, s_bindN, asI_i, asB_b, asS_s, asP_p, asPS_p, asSl_sl, s_agg, s_tup, s_fn, joinB, joinI, joinR, beq_true, beq_false, Bool.not_true, Bool.not_false, Bool.not_not, cond_true, cond_false, neI, s_mapS, bindS_inl, bindS_inr, Bool.and_true, Bool.true_and, Bool.and_false, Bool.false_and, s_isNoneS, s_isNoneN, s_ref, s_adv, s_ldf, s_ld, s_ldM, s_st, s_stM, s_bs, s_bn, s_pp, bump_blk, bump_next, put_next, splice_z, splice_zz, splice_s, s_decT, s_decF, s_eqT, s_eqF, s_i64, s_u64, s_u8, Int.toNat_natCast, Nat.zero_add, s_room, s_chkT, s_rdSl, s_wrSl, s_ldN, s_ldNM, s_ldNf, List.drop_zero, List.take_succ_cons, List.take_zero, List.take_nil, List.take_length, Nat.mul_one, List.flatten_cons, List.flatten_nil, List.append_nil, List.nil_append, List.cons_append]
  have hH : Holds (((MemS.new.opn 0 (1 + n1)).wr 1).put ((0 : Nat) : Int).toNat ((List.replicate (1 + n1).toNat 0).set (k : Int).toNat w)) k w := ⟨_, rfl, by rw [Int.toNat_natCast, List.getElem?_set, if_pos rfl, if_pos (by simp; omega)]⟩
  -- the calls
  refine Ok.step (Q := fun r => ∃ (want : Int) (σ5 : AH O) (F5 : List Nat) (M : MemS), r = ([.i .u64 want], σ5) ∧ MemAt σ5 mb F5 M ∧ M.ok ∧ Holds M k w ∧ M.met.r + M.met.w = want ∧ 0 ≤ M.met.r ∧ 0 ≤ M.met.w ∧ want ≤ 1 + ops.length * 8388608) ?_ ?_
  · refine Ok.count ops.length (fun j s => ∃ (want : Int) (σ5 : AH O) (F5 : List Nat) (M : MemS), s = ([.i .u64 want, .i .i64 (j : Int)], σ5) ∧ MemAt σ5 mb F5 M ∧ M.ok ∧ Holds M k w ∧ M.met.r + M.met.w = want ∧ 0 ≤ M.met.r ∧ 0 ≤ M.met.w ∧ want ≤ 1 + j * 8388608) ?_ ?_ ⟨1, σ4, F3, _, rfl, g13, k2, hH, rfl, Int.le_refl 0, by show (0 : Int) ≤ 0 + 1; decide, by omega⟩
    · rintro j s hj ⟨want, σ5, F5, M, rfl, m1, m2, m3, m4, m5, m6, m7⟩
      have hx := List.getElem?_eq_getElem hj
      generalize ops[j] = o at hx
      have hr := ho.rng o (List.mem_of_getElem? hx)
      obtain ⟨bb, oo, rfl, q0, q1, q2, q3, q4, q5, q6, q7⟩ := ho.at hx
      have hh : HAt σ5 mb F5 M k w want := ⟨m1, m2, m3, m4, m5, m6⟩
      have hw0 : want ≤ 1 + 60 * 8388608 := by omega
      have step : HGoal σ5 mb k w want (.loc bb oo 7) ops.length j := by
        by_cases c0 : o.kind = 0
        · exact holds_k0 hh hw0 hj hlen hr q0 q1 q2 q3 q4 q5 q6 c0
        by_cases c1 : o.kind = 1
        · exact holds_k1 hh hw0 hj hlen hr q0 q1 q2 q3 q4 q5 q6 c1
        by_cases c2 : o.kind = 2
        · exact holds_k2 hh hw0 hj hlen hr q0 q1 q2 q3 q4 q5 q6 c2
        by_cases c4 : o.kind = 4
        · exact holds_k4 hh hw0 hj hlen hr q0 q1 q2 q3 q4 q5 q6 c4
        by_cases c5 : o.kind = 5
        · exact holds_k5 hh hw0 hj hlen hr q0 q1 q2 q3 q4 q5 q6 c5
        by_cases c6 : o.kind = 6
        · exact holds_k6 hh hw0 hj hlen hr q0 q1 q2 q3 q4 q5 q6 c6
        · exact holds_kx hh hw0 hj hlen hr q0 q1 q2 q3 q4 q5 q6 c0 c1 c2 c4 c5 c6
      refine step.mono fun r ⟨want', σ6, F6, M', e, ⟨a1, a2, a3, a4, a5, a6⟩, a7⟩ => ?_
      subst e
      exact ⟨want', σ6, F6, M', by simp, a1, a2, a3, a4, a5, a6, by omega⟩
    · rintro s ⟨want, σ5, F5, M, rfl, m⟩
      simp -implicitDefEqProofs (disch := (first | omega | rfl | assumption | (simp only [put_next, bump_next, kill_next, List.length_cons, List.length_nil, List.mem_cons, List.not_mem_nil, or_false, not_false_eq_true]; first | omega | assumption))) only [law08_MemHolds_L1, Nat.reduceAdd, Nat.reduceMul, Nat.reduceLT, s_beq, List.length_cons, List.length_nil, List.getD_cons_zero, List.getD_cons_succ, List.getElem?_cons_zero, List.getElem?_cons_succ, Option.bind_some, Option.bind_assoc, s_bindN, asI_i, asB_b, asS_s, asP_p, asPS_p, asSl_sl, s_agg, s_tup, s_fn, joinB, joinI, joinR, beq_true, beq_false, Bool.not_true, Bool.not_false, Bool.not_not, cond_true, cond_false, neI, s_mapS, bindS_inl, bindS_inr, Bool.and_true, Bool.true_and, Bool.and_false, Bool.false_and, s_isNoneS, s_isNoneN, s_ref, s_adv, s_ldf, s_ld, s_ldM, s_st, s_stM, s_bs, s_bn, s_pp, bump_blk, bump_next, put_next, splice_z, splice_zz, splice_s, s_decT, s_decF, s_eqT, s_eqF, s_i64, s_u64, s_u8, Int.toNat_natCast, Nat.zero_add, s_room, s_chkT, s_rdSl, s_wrSl, s_ldN, s_ldNM, s_ldNf, List.drop_zero, List.take_succ_cons, List.take_zero, List.take_nil, List.take_length, Nat.mul_one, List.flatten_cons, List.flatten_nil, List.append_nil, List.nil_append, List.cons_append]
      exact Ok_some.2 ⟨want, σ5, F5, M, rfl, m⟩
  rintro _ ⟨want, σ5, F5, M, rfl, m1, m2, ⟨ws, m3, m3'⟩, m4, m5, m6, m7⟩
  simp -implicitDefEqProofs (disch := (first | omega | rfl | assumption | (simp only [put_next, bump_next, kill_next, List.length_cons, List.length_nil, List.mem_cons, List.not_mem_nil, or_false, not_false_eq_true]; first | omega | assumption))) only [Nat.reduceAdd, Nat.reduceMul, Nat.reduceLT, s_beq, List.length_cons, List.length_nil, List.getD_cons_zero, List.getD_cons_succ, List.getElem?_cons_zero, List.getElem?_cons_succ, Option.bind_some, Option.bind_assoc, s_bindN, asI_i, asB_b, asS_s, asP_p, asPS_p, asSl_sl, s_agg, s_tup, s_fn, joinB, joinI, joinR, beq_true, beq_false, Bool.not_true, Bool.not_false, Bool.not_not, cond_true, cond_false, neI, s_mapS, bindS_inl, bindS_inr, Bool.and_true, Bool.true_and, Bool.and_false, Bool.false_and, s_isNoneS, s_isNoneN, s_ref, s_adv, s_ldf, s_ld, s_ldM, s_st, s_stM, s_bs, s_bn, s_pp, bump_blk, bump_next, put_next, splice_z, splice_zz, splice_s, s_decT, s_decF, s_eqT, s_eqF, s_i64, s_u64, s_u8, Int.toNat_natCast, Nat.zero_add, s_room, s_chkT, s_rdSl, s_wrSl, s_ldN, s_ldNM, s_ldNf, List.drop_zero, List.take_succ_cons, List.take_zero, List.take_nil, List.take_length, Nat.mul_one, List.flatten_cons, List.flatten_nil, List.append_nil, List.nil_append, List.cons_append]
  have hkl := (List.getElem?_eq_some_iff.1 m3').1
  refine Ok.step (read_ok (id := ((0 : Nat) : Int)) (at_ := (k : Int)) (w := ws) (x := w) m1 m2 (by omega) m3 (by omega) (by rw [Int.toNat_natCast]; exact m3')) fun r ⟨p1, p2, p3⟩ => ?_
  obtain ⟨q, σ6⟩ := r
  simp only at p1 p2 p3
  subst p1
  have k4 := MemS.rd_ok m2 (n := 1) (by omega) (by omega)
  obtain ⟨tb, el, rest, hm, hmet⟩ := p2.meter
  simp -implicitDefEqProofs (disch := (first | omega | rfl | assumption | (simp only [put_next, bump_next, kill_next, List.length_cons, List.length_nil, List.mem_cons, List.not_mem_nil, or_false, not_false_eq_true]; first | omega | assumption))) only [hm, Nat.reduceAdd, Nat.reduceMul, Nat.reduceLT, s_beq, List.length_cons, List.length_nil, List.getD_cons_zero, List.getD_cons_succ, List.getElem?_cons_zero, List.getElem?_cons_succ, Option.bind_some, Option.bind_assoc, s_bindN, asI_i, asB_b, asS_s, asP_p, asPS_p, asSl_sl, s_agg, s_tup, s_fn, joinB, joinI, joinR, beq_true, beq_false, Bool.not_true, Bool.not_false, Bool.not_not, cond_true, cond_false, neI, s_mapS, bindS_inl, bindS_inr, Bool.and_true, Bool.true_and, Bool.and_false, Bool.false_and, s_isNoneS, s_isNoneN, s_ref, s_adv, s_ldf, s_ld, s_ldM, s_st, s_stM, s_bs, s_bn, s_pp, bump_blk, bump_next, put_next, splice_z, splice_zz, splice_s, s_decT, s_decF, s_eqT, s_eqF, s_i64, s_u64, s_u8, Int.toNat_natCast, Nat.zero_add, s_room, s_chkT, s_rdSl, s_wrSl, s_ldN, s_ldNM, s_ldNf, List.drop_zero, List.take_succ_cons, List.take_zero, List.take_nil, List.take_length, Nat.mul_one, List.flatten_cons, List.flatten_nil, List.append_nil, List.nil_append, List.cons_append]
  refine Ok.step (steps_ok hmet k4.met) fun r ⟨p4, p5⟩ => ?_
  obtain ⟨q, σ7⟩ := r
  simp only at p4 p5
  subst p4
  have e1 : (M.rd 1).met.r + (M.rd 1).met.w = want + 1 := by simp only [MemS.rd]; omega
  simp -implicitDefEqProofs (disch := (first | omega | rfl | assumption | (simp only [put_next, bump_next, kill_next, List.length_cons, List.length_nil, List.mem_cons, List.not_mem_nil, or_false, not_false_eq_true]; first | omega | assumption))) only [wcs, e1, Nat.reduceAdd, Nat.reduceMul, Nat.reduceLT, s_beq, List.length_cons, List.length_nil, List.getD_cons_zero, List.getD_cons_succ, List.getElem?_cons_zero, List.getElem?_cons_succ, Option.bind_some, Option.bind_assoc, s_bindN, asI_i, asB_b, asS_s, asP_p, asPS_p, asSl_sl, s_agg, s_tup, s_fn, joinB, joinI, joinR, beq_true, beq_false, Bool.not_true, Bool.not_false, Bool.not_not, cond_true, cond_false, neI, s_mapS, bindS_inl, bindS_inr, Bool.and_true, Bool.true_and, Bool.and_false, Bool.false_and, s_isNoneS, s_isNoneN, s_ref, s_adv, s_ldf, s_ld, s_ldM, s_st, s_stM, s_bs, s_bn, s_pp, bump_blk, bump_next, put_next, splice_z, splice_zz, splice_s, s_decT, s_decF, s_eqT, s_eqF, s_i64, s_u64, s_u8, Int.toNat_natCast, Nat.zero_add, s_room, s_chkT, s_rdSl, s_wrSl, s_ldN, s_ldNM, s_ldNf, List.drop_zero, List.take_succ_cons, List.take_zero, List.take_nil, List.take_length, Nat.mul_one, List.flatten_cons, List.flatten_nil, List.append_nil, List.nil_append, List.cons_append]
  exact Ok_some.2 rfl
end Go.Abs.Try
