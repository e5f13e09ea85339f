/-
  The document's answer for layer 8, as it is run: each call. No conditions.
-/
import Derived.Test.YtjfblnpolgoojaaR8b
set_option linter.unusedVariables false
set_option linter.unusedSimpArgs false
set_option linter.constructorNameAsVariable false
set_option linter.unusedSimpArgs false
set_option linter.unusedVariables false
set_option maxHeartbeats 2000000
namespace Go.Abs.Try
open Go Go.Abs
variable {O : Type}

/-- a state of the document's, and the memory's -/
structure RM (a : SA) (L : List RSp) (M : MemS) : Prop where
  imm : RImm a L
  sp : L.map RSp.v = M.sp
  ok : M.ok
theorem RM.len {a : SA} {L : List RSp} {M : MemS} (h : RM a L M) : L.length = M.sp.length := by rw [← h.sp]; simp
theorem RM.few {a : SA} {L : List RSp} {M : MemS} (h : RM a L M) : L.length ≤ 262144 := by rw [h.len]; exact h.ok.few
theorem RM.size {a : SA} {L : List RSp} {M : MemS} (h : RM a L M) : ∀ s ∈ L, s.ws.length ≤ 4194304 := fun s hs => h.ok.size s.v (by rw [← h.sp]; exact List.mem_map.2 ⟨s, hs, rfl⟩)
/-- what a call of the document's gives -/
abbrev RGives (σ : AH O) (M' : MemS) (vs : List AV) (r : AV × AH O) : Prop := (∃ a' L', r.1 = .tup (rst a' L'.length M'.met :: vs) ∧ RImm a' L' ∧ L'.map RSp.v = M'.sp) ∧ Ext σ r.2
abbrev RQ (M' : MemS) (vs : List AV) (v : AV) : Prop := ∃ a' L', v = .tup (rst a' L'.length M'.met :: vs) ∧ RImm a' L' ∧ L'.map RSp.v = M'.sp

/-- two boxes for states -/
structure Boxes (σ σ1 : AH O) (a : SA) (n : Nat) (m : Met) : Prop where
  b : σ1.blk σ.next = some (.cells true T_haymowref08_State (.sl a n :: m.cells))
  c : ∃ cs, cs.length = 7 ∧ σ1.blk (σ.next + 1) = some (.cells true T_haymowref08_State cs)
  e : Ext σ σ1
  n : σ.next + 2 ≤ σ1.next
theorem Boxes.ext {σ σ1 σ2 : AH O} {a : SA} {n : Nat} {m : Met} (h : Boxes σ σ1 a n m) (he : Ext σ1 σ2) : Boxes σ σ2 a n m := by
  have := h.n
  have := he.next
  obtain ⟨cs, g1, g2⟩ := h.c
  exact ⟨(he.blk _ (by omega)).trans h.b, ⟨cs, g1, (he.blk _ (by omega)).trans g2⟩, h.e.trans he, by omega⟩
theorem boxes_new {σ : AH O} {a : SA} {n : Nat} {m : Met} : Boxes σ (((σ.bump 2).put σ.next (.cells true T_haymowref08_State (.sl a n :: m.cells))).put (σ.next + 1) (.cells true T_haymowref08_State [.sl .nil 0, .i .u64 0, .i .u64 0, .i .u64 0, .i .u64 0, .i .i64 0, .i .i64 0])) a n m :=
  ⟨by rw [s_bn (by omega), s_bs], ⟨_, rfl, s_bs⟩, (ext_of (by simp only [put_next, bump_next, kill_next]; omega) (fun b hb => by simp -implicitDefEqProofs (disch := (first | omega | rfl | assumption | (simp only [put_next, bump_next, kill_next, List.length_cons, List.length_nil, List.mem_cons, List.not_mem_nil, or_false, not_false_eq_true]; first | omega | assumption))) only [s_bn, s_kn, bump_blk, s_ext])), by simp⟩
theorem seven {cs : List AV} (h : cs.length = 7) : ∃ x0 x1 x2 x3 x4 x5 x6, cs = [x0, x1, x2, x3, x4, x5, x6] := by
  match cs, h with
  | [x0, x1, x2, x3, x4, x5, x6], _ => exact ⟨_, _, _, _, _, _, _, rfl⟩
/-- the copy's blocks are new -/
theorem ROwn.box {σ σ2 σ' : AH O} {base : Nat} {a : SA} {L : List RSp} (h : ROwn σ2 base a L) (hb : σ.next + 2 ≤ base) (hn : σ2.next ≤ σ'.next) (hk : ∀ b, σ.next + 2 ≤ b → σ'.blk b = σ2.blk b) : ROwn σ' base a L :=
  h.of hn fun b hb' => hk b (by have := (h.lt b hb').1; omega)

theorem rclose_T {σ : AH O} {a : SA} {L : List RSp} {M : MemS} (h : RM a L M) {id : Int} : Ok (haymowref08_Close [rst a L.length M.met, .i .i64 id] σ) (RGives σ (M.closeR id).1 [.i .i64 (M.closeR id).2]) := by
  unfold haymowref08_Close
  refine frz_ok (Q := RQ (M.closeR id).1 [.i .i64 (M.closeR id).2]) ?_
  have B := boxes_new (σ := σ) (a := a) (n := L.length) (m := M.met)
  simp only [Met.cells] at B
  generalize hσ1 : ((σ.bump 2).put σ.next (.cells true T_haymowref08_State _)).put (σ.next + 1) (.cells true T_haymowref08_State _) = σ1 at B
  simp (config := { maxSteps := 2000000 }) -implicitDefEqProofs (disch := (first | omega | rfl | assumption | (simp only [put_next, bump_next, kill_next, List.length_cons, List.length_nil, List.mem_cons, List.not_mem_nil, or_false, not_false_eq_true]; first | omega | assumption))) only [haymowref08_Close_c, rst, Met.cells, hσ1, Nat.reduceAdd, Nat.reduceMul, Nat.reduceLT, Int.reduceToNat, Int.reduceAdd, Int.reduceSub, Int.reduceMul, s_beq, List.length_cons, List.length_nil, List.getD_cons_zero, List.getD_cons_succ, List.getElem?_cons_zero, List.getElem?_cons_succ, Option.bind_some, Option.bind_assoc, s_bindN, asI_i, asB_b, asS_s, asP_p, asPS_p, asSl_sl, s_agg, s_tup, s_fn, joinB, joinI, joinR, beq_true, beq_false, Bool.not_true, Bool.not_false, Bool.not_not, cond_true, cond_false, neI, s_mapS, bindS_inl, bindS_inr, Bool.and_true, Bool.true_and, Bool.and_false, Bool.false_and, s_isNoneS, s_isNoneN, s_ref, s_adv, s_ldf, s_ld, s_ldM, s_st, s_stM, s_bs, s_bn, s_pp, bump_blk, bump_next, put_next, splice_z, splice_zz, splice_s, s_decT, s_decF, s_eqT, s_eqF, s_i64, s_u64, s_u8, Int.toNat_natCast, Nat.zero_add, s_room, s_chkT, s_rdSl, s_wrSl, s_ldN, s_ldNM, s_ldNf, List.drop_zero, List.take_succ_cons, List.take_zero, List.take_nil, List.take_length, Nat.mul_one, List.flatten_cons, List.flatten_nil, List.append_nil, List.nil_append, List.cons_append]
  clear hσ1
  refine Ok.step (ris_ok (m := M.met) (id := id) h.imm) fun r ⟨g1, g2⟩ => ?_
  obtain ⟨q, σ2⟩ := r
  simp only at g1 g2
  subst g1
  have B2 := B.ext g2
  obtain ⟨cs, hc, c2⟩ := B2.c
  obtain ⟨x0, x1, x2, x3, x4, x5, x6, rfl⟩ := seven hc
  have b2 := B2.b
  have n2 := B2.n
  rw [h.sp]
  unfold MemS.closeR
  cases hw : wordsOf M.sp id with
  | none =>
    simp (config := { maxSteps := 2000000 }) -implicitDefEqProofs (disch := (first | omega | rfl | assumption | (simp only [put_next, bump_next, kill_next, List.length_cons, List.length_nil, List.mem_cons, List.not_mem_nil, or_false, not_false_eq_true]; first | omega | assumption))) only [Option.isSome_none, b2, c2, Met.cells, Nat.reduceAdd, Nat.reduceMul, Nat.reduceLT, Int.reduceToNat, Int.reduceAdd, Int.reduceSub, Int.reduceMul, s_beq, List.length_cons, List.length_nil, List.getD_cons_zero, List.getD_cons_succ, List.getElem?_cons_zero, List.getElem?_cons_succ, Option.bind_some, Option.bind_assoc, s_bindN, asI_i, asB_b, asS_s, asP_p, asPS_p, asSl_sl, s_agg, s_tup, s_fn, joinB, joinI, joinR, beq_true, beq_false, Bool.not_true, Bool.not_false, Bool.not_not, cond_true, cond_false, neI, s_mapS, bindS_inl, bindS_inr, Bool.and_true, Bool.true_and, Bool.and_false, Bool.false_and, s_isNoneS, s_isNoneN, s_ref, s_adv, s_ldf, s_ld, s_ldM, s_st, s_stM, s_bs, s_bn, s_pp, bump_blk, bump_next, put_next, splice_z, splice_zz, splice_s, s_decT, s_decF, s_eqT, s_eqF, s_i64, s_u64, s_u8, Int.toNat_natCast, Nat.zero_add, s_room, s_chkT, s_rdSl, s_wrSl, s_ldN, s_ldNM, s_ldNf, List.drop_zero, List.take_succ_cons, List.take_zero, List.take_nil, List.take_length, Nat.mul_one, List.flatten_cons, List.flatten_nil, List.append_nil, List.nil_append, List.cons_append]
    refine Ok_some.2 (fin0 (m := M.met) h.imm rfl ?_ ⟨a, L, rfl, h.imm, h.sp⟩)
    have E := B2.e
    exact (ext_of (by simp only [put_next, bump_next, kill_next]; omega) (fun b hb => by simp -implicitDefEqProofs (disch := (first | omega | rfl | assumption | (simp only [put_next, bump_next, kill_next, List.length_cons, List.length_nil, List.mem_cons, List.not_mem_nil, or_false, not_false_eq_true]; first | omega | assumption))) only [s_bn, s_kn, bump_blk, s_ext]))
  | some w =>
    simp (config := { maxSteps := 2000000 }) -implicitDefEqProofs (disch := (first | omega | rfl | assumption | (simp only [put_next, bump_next, kill_next, List.length_cons, List.length_nil, List.mem_cons, List.not_mem_nil, or_false, not_false_eq_true]; first | omega | assumption))) only [Option.isSome_some, b2, c2, Met.cells, Nat.reduceAdd, Nat.reduceMul, Nat.reduceLT, Int.reduceToNat, Int.reduceAdd, Int.reduceSub, Int.reduceMul, s_beq, List.length_cons, List.length_nil, List.getD_cons_zero, List.getD_cons_succ, List.getElem?_cons_zero, List.getElem?_cons_succ, Option.bind_some, Option.bind_assoc, s_bindN, asI_i, asB_b, asS_s, asP_p, asPS_p, asSl_sl, s_agg, s_tup, s_fn, joinB, joinI, joinR, beq_true, beq_false, Bool.not_true, Bool.not_false, Bool.not_not, cond_true, cond_false, neI, s_mapS, bindS_inl, bindS_inr, Bool.and_true, Bool.true_and, Bool.and_false, Bool.false_and, s_isNoneS, s_isNoneN, s_ref, s_adv, s_ldf, s_ld, s_ldM, s_st, s_stM, s_bs, s_bn, s_pp, bump_blk, bump_next, put_next, splice_z, splice_zz, splice_s, s_decT, s_decF, s_eqT, s_eqF, s_i64, s_u64, s_u8, Int.toNat_natCast, Nat.zero_add, s_room, s_chkT, s_rdSl, s_wrSl, s_ldN, s_ldNM, s_ldNf, List.drop_zero, List.take_succ_cons, List.take_zero, List.take_nil, List.take_length, Nat.mul_one, List.flatten_cons, List.flatten_nil, List.append_nil, List.nil_append, List.cons_append]
    refine Ok.step (copied_ok (m := M.met) h.imm h.few h.size) fun r ⟨a', L', k1, k2, k3, k4, k5⟩ => ?_
    obtain ⟨q, σ3⟩ := r
    simp only at k1 k2 k5
    subst k1
    have B3 := B2.ext k5
    obtain ⟨cs, hc, c3⟩ := B3.c
    obtain ⟨x0, x1, x2, x3, x4, x5, x6, rfl⟩ := seven hc
    have b3 := B3.b
    have n3 := B3.n
    rw [← h.sp, ← k3] at hw
    obtain ⟨h0, s, hs, ho, rfl⟩ := getR hw
    have hw' : M.sp[id.toNat]? = some (true, s.ws) := by rw [← h.sp, ← k3, List.getElem?_map, hs, Option.map_some, RSp.v, ho]
    have hlt := (List.getElem?_eq_some_iff.1 hs).1
    have hlen := h.ok.len hw'
    have hheld : (s.ws.length : Int) ≤ M.met.held := by
      rw [h.ok.held]
      have : s.ws.length ∈ M.sp.map fun s => s.2.length := List.mem_map.2 ⟨_, List.mem_of_getElem? hw', rfl⟩
      have := le_sum this
      omega
    have hheld2 := h.ok.met.held
    have hfew := h.few
    obtain ⟨k, rfl, q1, q2, q3, q4, q5⟩ := k2.at hs
    have kge := (k2.nb k (by simp [SA.bk])).1
    simp (config := { maxSteps := 2000000 }) -implicitDefEqProofs (disch := (first | omega | rfl | assumption | (simp only [put_next, bump_next, kill_next, List.length_cons, List.length_nil, List.mem_cons, List.not_mem_nil, or_false, not_false_eq_true]; first | omega | assumption))) only [rst, b3, c3, q1, q4, Met.cells, Nat.reduceAdd, Nat.reduceMul, Nat.reduceLT, Int.reduceToNat, Int.reduceAdd, Int.reduceSub, Int.reduceMul, s_beq, List.length_cons, List.length_nil, List.getD_cons_zero, List.getD_cons_succ, List.getElem?_cons_zero, List.getElem?_cons_succ, Option.bind_some, Option.bind_assoc, s_bindN, asI_i, asB_b, asS_s, asP_p, asPS_p, asSl_sl, s_agg, s_tup, s_fn, joinB, joinI, joinR, beq_true, beq_false, Bool.not_true, Bool.not_false, Bool.not_not, cond_true, cond_false, neI, s_mapS, bindS_inl, bindS_inr, Bool.and_true, Bool.true_and, Bool.and_false, Bool.false_and, s_isNoneS, s_isNoneN, s_ref, s_adv, s_ldf, s_ld, s_ldM, s_st, s_stM, s_bs, s_bn, s_pp, bump_blk, bump_next, put_next, splice_z, splice_zz, splice_s, s_decT, s_decF, s_eqT, s_eqF, s_i64, s_u64, s_u8, Int.toNat_natCast, Nat.zero_add, s_room, s_chkT, s_rdSl, s_wrSl, s_ldN, s_ldNM, s_ldNf, List.drop_zero, List.take_succ_cons, List.take_zero, List.take_nil, List.take_length, Nat.mul_one, List.flatten_cons, List.flatten_nil, List.append_nil, List.nil_append, List.cons_append]
    generalize hσ4 : σ3.put σ.next (.cells true T_haymowref08_State _) = σ4
    have b4 : σ4.blk σ.next = some (.cells true T_haymowref08_State (.sl (.loc (.n k) 0 2) L.length :: M.met.cells)) := by rw [← hσ4, s_bs]; rfl
    have k4' : ∀ b, b ≠ σ.next → σ4.blk b = σ3.blk b := fun b hb => by rw [← hσ4, s_bn hb]
    have n4 : σ4.next = σ3.next := by rw [← hσ4]; rfl
    clear hσ4
    refine Ok.step (r7_free (m := M.met) (n := s.ws.length) hheld2.1 hheld2.2 (by omega) hheld) fun r ⟨p1, p2⟩ => ?_
    obtain ⟨q, σ5⟩ := r
    simp only at p1 p2
    subst p1
    have n5 := p2.next
    have b5 := (p2.blk σ.next (by omega)).trans b4
    have c5 := (p2.blk (σ.next + 1) (by omega)).trans ((k4' _ (by omega)).trans c3)
    have q5' := (p2.blk k (by omega)).trans ((k4' _ (by omega)).trans q1)
    have hl2 := fm_len RSp.len L'
    have hsp : splice (L'.flatMap RSp.cells) (id.toNat * 2) [.b false, .sl .nil 0] = (L'.set id.toNat ⟨.nil, false, []⟩).flatMap RSp.cells := by
      have := fm_splice RSp.len L' id.toNat 0 [.b false, .sl .nil 0] s ⟨.nil, false, []⟩ hs (by simp) (by simp [splice, RSp.cells])
      simpa using this
    simp (config := { maxSteps := 2000000 }) -implicitDefEqProofs (disch := (first | omega | rfl | assumption | (simp only [put_next, bump_next, kill_next, List.length_cons, List.length_nil, List.mem_cons, List.not_mem_nil, or_false, not_false_eq_true]; first | omega | assumption))) only [Met.cells, b5, c5, q5', hl2, hsp, Nat.reduceAdd, Nat.reduceMul, Nat.reduceLT, Int.reduceToNat, Int.reduceAdd, Int.reduceSub, Int.reduceMul, s_beq, List.length_cons, List.length_nil, List.getD_cons_zero, List.getD_cons_succ, List.getElem?_cons_zero, List.getElem?_cons_succ, Option.bind_some, Option.bind_assoc, s_bindN, asI_i, asB_b, asS_s, asP_p, asPS_p, asSl_sl, s_agg, s_tup, s_fn, joinB, joinI, joinR, beq_true, beq_false, Bool.not_true, Bool.not_false, Bool.not_not, cond_true, cond_false, neI, s_mapS, bindS_inl, bindS_inr, Bool.and_true, Bool.true_and, Bool.and_false, Bool.false_and, s_isNoneS, s_isNoneN, s_ref, s_adv, s_ldf, s_ld, s_ldM, s_st, s_stM, s_bs, s_bn, s_pp, bump_blk, bump_next, put_next, splice_z, splice_zz, splice_s, s_decT, s_decF, s_eqT, s_eqF, s_i64, s_u64, s_u8, Int.toNat_natCast, Nat.zero_add, s_room, s_chkT, s_rdSl, s_wrSl, s_ldN, s_ldNM, s_ldNf, List.drop_zero, List.take_succ_cons, List.take_zero, List.take_nil, List.take_length, Nat.mul_one, List.flatten_cons, List.flatten_nil, List.append_nil, List.nil_append, List.cons_append]
    have O5 : ROwn σ5 σ2.next (.loc (.n k) 0 2) L' := (k2.of (σ' := σ4) (by omega) fun b hb => k4' b (by have := (k2.lt b hb).1; omega)).ext p2
    have Ofin := O5.repl (σ' := σ5.put k (.cells true T_haymowref08_Space ((L'.set id.toNat ⟨.nil, false, []⟩).flatMap RSp.cells))) hs (s' := ⟨.nil, false, []⟩) rfl (Nat.le_refl _) (fun b hb _ => s_bn fun e => (O5.nb k (by simp [SA.bk])).2 (e ▸ hb)) s_bs ⟨0, OwnS.nil _ _ _⟩ (by simp [SA.bk])
    have E := B3.e
    have E5 : Ext σ σ5 := ⟨by have := E.next; omega, fun b hb => (p2.blk b (by omega)).trans ((k4' b (by omega)).trans (E.blk b hb))⟩
    have hlen' : L.length = (L'.set id.toNat ⟨.nil, false, []⟩).length := by rw [List.length_set, k4]
    rw [hlen']
    refine Ok_some.2 (fin3 (m := M.met.free s.ws.length) (L := L'.set id.toNat ⟨.nil, false, []⟩) (base := σ2.next) ?_ rfl (by omega) ?_ fun a'' L'' z1 z2 => ⟨a'', L'', rfl, z1, ?_⟩)
    · refine Ofin.of (by simp) fun b hb => ?_
      have := (Ofin.lt b hb).1
      by_cases hbk : b = k
      · subst hbk; simp -implicitDefEqProofs (disch := omega) only [s_bn, s_bs, s_kn, bump_blk]
      · simp -implicitDefEqProofs (disch := omega) only [s_bn, s_bs, s_kn, bump_blk]
    · refine ext_of (by simp only [put_next]; exact E5.next) fun b hb => ?_
      simp -implicitDefEqProofs (disch := omega) only [s_bn, s_bs, s_kn, bump_blk]
      exact E5.blk b hb
    · rw [z2, List.map_set, k3, h.sp]; rfl
end Go.Abs.Try
