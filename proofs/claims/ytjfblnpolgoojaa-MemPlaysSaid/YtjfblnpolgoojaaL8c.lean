/-
  The statement MemPlays: one call on both sides. No conditions.
-/
import Derived.Test.YtjfblnpolgoojaaL8b
import Derived.Test.YtjfblnpolgoojaaR8d
import Derived.Test.YtjfblnpolgoojaaR8g
import Derived.Test.YtjfblnpolgoojaaR8h
set_option linter.unusedVariables false
set_option linter.unusedSimpArgs false
set_option linter.constructorNameAsVariable false
set_option linter.unusedSimpArgs false
set_option linter.unusedVariables false
set_option maxHeartbeats 8000000
set_option maxRecDepth 100000
namespace Go.Abs.Try
open Go Go.Abs
variable {O : Type}

structure Boxes3 (σ σ1 : AH O) (a : SA) (n : Nat) (m : Met) (o : MOp) : Prop where
  b : σ1.blk σ.next = some (.cells true T_haymowref08_State (.sl a n :: m.cells))
  o : σ1.blk (σ.next + 1) = some (.cells true T_law08_Op o.cells)
  c : ∃ cs, cs.length = 7 ∧ σ1.blk (σ.next + 1 + 1) = some (.cells true T_haymowref08_State cs)
  n : σ.next + 3 ≤ σ1.next
theorem Boxes3.chg {σ σ1 σ2 : AH O} {a : SA} {n : Nat} {m : Met} {o : MOp} {F : List Nat} (h : Boxes3 σ σ1 a n m o) (hF : ∀ b ∈ F, b < σ.next) (he : Chg F σ1 σ2) : Boxes3 σ σ2 a n m o := by
  have := h.n
  have := he.next
  obtain ⟨cs, g1, g2⟩ := h.c
  exact ⟨(he.blk _ (by omega) fun hm => by have := hF _ hm; omega).trans h.b, (he.blk _ (by omega) fun hm => by have := hF _ hm; omega).trans h.o, ⟨cs, g1, (he.blk _ (by omega) fun hm => by have := hF _ hm; omega).trans g2⟩, by omega⟩
theorem boxes3_new {σ : AH O} {a : SA} {n : Nat} {m : Met} {o : MOp} : Boxes3 σ ((((σ.bump 3).put σ.next (.cells true T_haymowref08_State (.sl a n :: m.cells))).put (σ.next + 1) (.cells true T_law08_Op o.cells)).put (σ.next + 1 + 1) (.cells true T_haymowref08_State [.sl .nil 0, .i .u64 0, .i .u64 0, .i .u64 0, .i .u64 0, .i .i64 0, .i .i64 0])) a n m o :=
  ⟨by rw [s_bn (by omega), s_bn (by omega), s_bs], by rw [s_bn (by omega), s_bs], ⟨_, rfl, s_bs⟩, by simp⟩
theorem ext3_new {σ : AH O} {x y z : Blk O} : Ext σ ((((σ.bump 3).put σ.next x).put (σ.next + 1) y).put (σ.next + 1 + 1) z) := (ext_of (by simp only [put_next, bump_next, kill_next]; omega) (fun b hb => by simp -implicitDefEqProofs (disch := (first | omega | rfl | assumption | (simp only [put_next, bump_next, kill_next, List.length_cons, List.length_nil, List.mem_cons, List.not_mem_nil, or_false, not_false_eq_true]; first | omega | assumption))) only [s_bn, s_kn, bump_blk, s_ext]))
/-- back from a call, with its boxes -/
theorem Behind.fin {σ σ1 σ2 σ4 : AH O} {mb : Nat} {F : List Nat} {M' : MemS} (hF : ∀ b ∈ F, b < σ.next) (e0 : Ext σ σ1) (n1 : σ.next + 3 ≤ σ1.next) (hB : Behind σ1 mb F M' σ2) (hn : σ2.next ≤ σ4.next)
    (hk : ∀ b, b < σ2.next → (b ≠ σ.next ∧ b ≠ σ.next + 1 ∧ b ≠ σ.next + 1 + 1) → σ4.blk b = σ2.blk b) : Behind σ mb F M' σ4 := by
  obtain ⟨⟨F', m1, m2⟩, m3, m4⟩ := hB
  have := e0.next
  have := m3.next
  have c4 : Chg [σ.next, σ.next + 1, σ.next + 1 + 1] σ2 σ4 := ⟨hn, fun b hb hm => hk b hb (by simpa using hm)⟩
  refine ⟨⟨F', m1.chg c4 fun b hb hm => ?_, fun b hb => ?_⟩, ⟨by omega, fun b hb hm => ?_⟩, m4⟩
  · simp only [List.mem_cons, List.not_mem_nil, or_false] at hm
    rcases m2 b hb with g | g
    · have := hF b g; omega
    · omega
  · rcases m2 b hb with g | g
    · exact .inl g
    · exact .inr (by omega)
  · rw [hk b (by omega) (by omega), m3.blk b (by omega) hm]; exact e0.blk b hb

theorem small_opn {M : MemS} {n : Int} : (M.opnR n).1.met.r = M.met.r ∧ (M.opnR n).1.met.w = M.met.w := by
  unfold MemS.opnR
  repeat' split
  all_goals exact ⟨rfl, rfl⟩
theorem small_close {M : MemS} {id : Int} : (M.closeR id).1.met.r = M.met.r ∧ (M.closeR id).1.met.w = M.met.w := by
  unfold MemS.closeR
  split
  all_goals exact ⟨rfl, rfl⟩
theorem small_grow {M : MemS} {id n : Int} : (M.growR id n).1.met.r = M.met.r ∧ (M.growR id n).1.met.w = M.met.w := by
  unfold MemS.growR
  repeat' split
  all_goals exact ⟨rfl, rfl⟩
theorem small_read {M : MemS} {id b : Int} : (M.readR id b).1.met.r ≤ M.met.r + 4194304 ∧ (M.readR id b).1.met.w = M.met.w := by
  unfold MemS.readR
  split
  · exact ⟨by simp only [MemS.rd]; omega, rfl⟩
  · exact ⟨by simp only []; omega, rfl⟩
theorem small_write {M : MemS} {id b x : Int} : (M.writeR id b x).1.met.r = M.met.r ∧ (M.writeR id b x).1.met.w ≤ M.met.w + 4194304 := by
  unfold MemS.writeR
  split
  · exact ⟨rfl, by simp only [MemS.put, MemS.wr]; omega⟩
  · exact ⟨rfl, by simp only []; omega⟩
theorem small_zero {M : MemS} (hM : M.ok) {id b n : Int} : (M.zeroR id b n).1.met.r = M.met.r ∧ (M.zeroR id b n).1.met.w ≤ M.met.w + 4194304 := by
  have hz := zero_small hM (id := id) (b := b) (n := n)
  revert hz
  unfold MemS.zeroR
  split
  · intro hz; have := hz rfl; exact ⟨rfl, by simp only [MemS.put, MemS.wr]; omega⟩
  · intro _; exact ⟨rfl, by simp only []; omega⟩
theorem small_copy {M : MemS} (hM : M.ok) {fr b to de n : Int} : (M.copyR fr b to de n).1.met.r ≤ M.met.r + 4194304 ∧ (M.copyR fr b to de n).1.met.w ≤ M.met.w + 4194304 := by
  have hz := copy_small hM (fr := fr) (b := b) (to := to) (de := de) (n := n)
  revert hz
  unfold MemS.copyR
  split
  · intro _; exact ⟨by simp only []; omega, by simp only []; omega⟩
  · split
    · intro _; exact ⟨by simp only []; omega, by simp only []; omega⟩
    · intro hz; have := hz rfl; exact ⟨by simp only [MemS.put, MemS.wr, MemS.rd]; omega, by simp only [MemS.put, MemS.wr, MemS.rd]; omega⟩

/-- what one call leaves -/
structure DoQ (σ : AH O) (mb : Nat) (F : List Nat) (M : MemS) (r : AV × AH O) : Prop where
  ex : ∃ M' a' L', r.1 = .tup [rst a' L'.length M'.met, .b true] ∧ RM a' L' M' ∧ Behind σ mb F M' r.2 ∧ M'.met.r ≤ M.met.r + 4194304 ∧ M'.met.w ≤ M.met.w + 4194304
abbrev DoGoal (σ : AH O) (mb : Nat) (F : List Nat) (M : MemS) (a : SA) (n : Nat) (o : MOp) : Prop :=
  Ok (law08_do [.p (some (.n mb, 0)), rst a n M.met, .agg o.cells] σ) (DoQ σ mb F M)
section
variable {σ : AH O} {mb : Nat} {F : List Nat} {M : MemS} {a : SA} {L : List RSp} {o : MOp} (h : MemAt σ mb F M) (hM : M.ok) (hc : M.calm) (hR : RM a L M) (hr : o.rng)
include h hM hc hR hr

theorem do_0 (hk : o.kind = 0) : DoGoal σ mb F M a L.length o := by
  unfold DoGoal
  have B := boxes3_new (σ := σ) (a := a) (n := L.length) (m := M.met) (o := o)
  have hF := h.lt
  have e0 : Ext σ _ := ext3_new (σ := σ) (x := .cells true T_haymowref08_State (.sl a L.length :: M.met.cells)) (y := .cells true T_law08_Op o.cells) (z := .cells true T_haymowref08_State [.sl .nil 0, .i .u64 0, .i .u64 0, .i .u64 0, .i .u64 0, .i .i64 0, .i .i64 0])
  simp only [Met.cells, MOp.cells] at B e0
  have b0 : ((o.kind : Int) == 0) = true := by simp [hk]
  have ha := hr.a
  have hb := hr.b
  have hd := hr.d
  have hn := hr.n
  unfold i64r at ha hb hd hn
  clear hr hk
  generalize hσ1 : (((σ.bump 3).put σ.next (.cells true T_haymowref08_State _)).put (σ.next + 1) (.cells true T_law08_Op _)).put (σ.next + 1 + 1) (.cells true T_haymowref08_State _) = σ1 at B e0
  have bo := B.o
  simp only [MOp.cells] at bo
  simp (config := { maxSteps := 2000000 }) -implicitDefEqProofs (disch := (first | omega | rfl | assumption | (simp only [put_next, bump_next, kill_next, List.length_cons, List.length_nil, List.mem_cons, List.not_mem_nil, or_false, not_false_eq_true]; first | omega | assumption))) only [law08_do, law08_do_c, rst, Met.cells, MOp.cells, hσ1, bo, b0, Nat.reduceAdd, Nat.reduceMul, Nat.reduceLT, Int.reduceToNat, Int.reduceAdd, Int.reduceSub, Int.reduceMul, s_beq, List.length_cons, List.length_nil, List.getD_cons_zero, List.getD_cons_succ, List.getElem?_cons_zero, List.getElem?_cons_succ, Option.bind_some, Option.bind_assoc, s_bindN, asI_i, asB_b, asS_s, asP_p, asPS_p, asSl_sl, s_agg, s_tup, s_fn, joinB, joinI, joinR, beq_true, beq_false, Bool.not_true, Bool.not_false, Bool.not_not, cond_true, cond_false, neI, s_mapS, bindS_inl, bindS_inr, Bool.and_true, Bool.true_and, Bool.and_false, Bool.false_and, s_isNoneS, s_isNoneN, s_ref, s_adv, s_ldf, s_ld, s_ldM, s_st, s_stM, s_bs, s_bn, s_pp, bump_blk, bump_next, put_next, splice_z, splice_zz, splice_s, s_decT, s_decF, s_eqT, s_eqF, s_i64, s_u64, s_u8, Int.toNat_natCast, Nat.zero_add, s_room, s_chkT, s_rdSl, s_wrSl, s_ldN, s_ldNM, s_ldNf, List.drop_zero, List.take_succ_cons, List.take_zero, List.take_nil, List.take_length, Nat.mul_one, List.flatten_cons, List.flatten_nil, List.append_nil, List.nil_append, List.cons_append]
  clear hσ1
  refine Ok.step (openT (n := o.n) (h.ext e0) hM hc) fun r ⟨p1, p2⟩ => ?_
  obtain ⟨q, σ2⟩ := r
  simp only at p1 p2
  subst p1
  have B2 := B.chg hF p2.chg
  have bb := B2.b
  have bo := B2.o
  simp only [MOp.cells, Met.cells] at bo bb
  simp (config := { maxSteps := 2000000 }) -implicitDefEqProofs (disch := (first | omega | rfl | assumption | (simp only [put_next, bump_next, kill_next, List.length_cons, List.length_nil, List.mem_cons, List.not_mem_nil, or_false, not_false_eq_true]; first | omega | assumption))) only [bb, bo, Nat.reduceAdd, Nat.reduceMul, Nat.reduceLT, Int.reduceToNat, Int.reduceAdd, Int.reduceSub, Int.reduceMul, s_beq, List.length_cons, List.length_nil, List.getD_cons_zero, List.getD_cons_succ, List.getElem?_cons_zero, List.getElem?_cons_succ, Option.bind_some, Option.bind_assoc, s_bindN, asI_i, asB_b, asS_s, asP_p, asPS_p, asSl_sl, s_agg, s_tup, s_fn, joinB, joinI, joinR, beq_true, beq_false, Bool.not_true, Bool.not_false, Bool.not_not, cond_true, cond_false, neI, s_mapS, bindS_inl, bindS_inr, Bool.and_true, Bool.true_and, Bool.and_false, Bool.false_and, s_isNoneS, s_isNoneN, s_ref, s_adv, s_ldf, s_ld, s_ldM, s_st, s_stM, s_bs, s_bn, s_pp, bump_blk, bump_next, put_next, splice_z, splice_zz, splice_s, s_decT, s_decF, s_eqT, s_eqF, s_i64, s_u64, s_u8, Int.toNat_natCast, Nat.zero_add, s_room, s_chkT, s_rdSl, s_wrSl, s_ldN, s_ldNM, s_ldNf, List.drop_zero, List.take_succ_cons, List.take_zero, List.take_nil, List.take_length, Nat.mul_one, List.flatten_cons, List.flatten_nil, List.append_nil, List.nil_append, List.cons_append]
  refine Ok.step (ropen_T (n := o.n) hR) fun r ⟨⟨a', L', k1, k2, k3⟩, k4⟩ => ?_
  obtain ⟨q, σ3⟩ := r
  simp only at k1 k4
  subst k1
  have B3 := B2.chg (F := []) (by simp) k4.chg
  have n3 := B3.n
  have kn := k4.next
  have c3 := B3.b
  obtain ⟨cs, hc', cc⟩ := B3.c
  obtain ⟨x0, x1, x2, x3, x4, x5, x6, rfl⟩ := seven hc'
  simp only [Met.cells] at c3
  simp (config := { maxSteps := 2000000 }) -implicitDefEqProofs (disch := (first | omega | rfl | assumption | (simp only [put_next, bump_next, kill_next, List.length_cons, List.length_nil, List.mem_cons, List.not_mem_nil, or_false, not_false_eq_true]; first | omega | assumption))) only [rst, Met.cells, c3, cc, beq_self_eq_true, Nat.reduceAdd, Nat.reduceMul, Nat.reduceLT, Int.reduceToNat, Int.reduceAdd, Int.reduceSub, Int.reduceMul, s_beq, List.length_cons, List.length_nil, List.getD_cons_zero, List.getD_cons_succ, List.getElem?_cons_zero, List.getElem?_cons_succ, Option.bind_some, Option.bind_assoc, s_bindN, asI_i, asB_b, asS_s, asP_p, asPS_p, asSl_sl, s_agg, s_tup, s_fn, joinB, joinI, joinR, beq_true, beq_false, Bool.not_true, Bool.not_false, Bool.not_not, cond_true, cond_false, neI, s_mapS, bindS_inl, bindS_inr, Bool.and_true, Bool.true_and, Bool.and_false, Bool.false_and, s_isNoneS, s_isNoneN, s_ref, s_adv, s_ldf, s_ld, s_ldM, s_st, s_stM, s_bs, s_bn, s_pp, bump_blk, bump_next, put_next, splice_z, splice_zz, splice_s, s_decT, s_decF, s_eqT, s_eqF, s_i64, s_u64, s_u8, Int.toNat_natCast, Nat.zero_add, s_room, s_chkT, s_rdSl, s_wrSl, s_ldN, s_ldNM, s_ldNf, List.drop_zero, List.take_succ_cons, List.take_zero, List.take_nil, List.take_length, Nat.mul_one, List.flatten_cons, List.flatten_nil, List.append_nil, List.nil_append, List.cons_append]
  refine Ok_some.2 ⟨(M.opnR o.n).1, a', L', rfl, ⟨k2, k3, p2.ok⟩, p2.fin hF e0 B.n (by simp only [put_next]; exact kn) fun b hb hne => ?_, ?_⟩
  · simp only []
    rw [s_bn hne.2.2, s_bn hne.1]; exact k4.blk b hb
  · have := small_opn (M := M) (n := o.n)
    omega

theorem do_1 (hk : o.kind = 1) : DoGoal σ mb F M a L.length o := by
  unfold DoGoal
  have B := boxes3_new (σ := σ) (a := a) (n := L.length) (m := M.met) (o := o)
  have hF := h.lt
  have e0 : Ext σ _ := ext3_new (σ := σ) (x := .cells true T_haymowref08_State (.sl a L.length :: M.met.cells)) (y := .cells true T_law08_Op o.cells) (z := .cells true T_haymowref08_State [.sl .nil 0, .i .u64 0, .i .u64 0, .i .u64 0, .i .u64 0, .i .i64 0, .i .i64 0])
  simp only [Met.cells, MOp.cells] at B e0
  have b0 : ((o.kind : Int) == 0) = false := by simp [hk]
  have b1 : ((o.kind : Int) == 1) = true := by simp [hk]
  have ha := hr.a
  have hb := hr.b
  have hd := hr.d
  have hn := hr.n
  unfold i64r at ha hb hd hn
  clear hr hk
  generalize hσ1 : (((σ.bump 3).put σ.next (.cells true T_haymowref08_State _)).put (σ.next + 1) (.cells true T_law08_Op _)).put (σ.next + 1 + 1) (.cells true T_haymowref08_State _) = σ1 at B e0
  have bo := B.o
  simp only [MOp.cells] at bo
  simp (config := { maxSteps := 2000000 }) -implicitDefEqProofs (disch := (first | omega | rfl | assumption | (simp only [put_next, bump_next, kill_next, List.length_cons, List.length_nil, List.mem_cons, List.not_mem_nil, or_false, not_false_eq_true]; first | omega | assumption))) only [law08_do, law08_do_c, rst, Met.cells, MOp.cells, hσ1, bo, b0, b1, Nat.reduceAdd, Nat.reduceMul, Nat.reduceLT, Int.reduceToNat, Int.reduceAdd, Int.reduceSub, Int.reduceMul, s_beq, List.length_cons, List.length_nil, List.getD_cons_zero, List.getD_cons_succ, List.getElem?_cons_zero, List.getElem?_cons_succ, Option.bind_some, Option.bind_assoc, s_bindN, asI_i, asB_b, asS_s, asP_p, asPS_p, asSl_sl, s_agg, s_tup, s_fn, joinB, joinI, joinR, beq_true, beq_false, Bool.not_true, Bool.not_false, Bool.not_not, cond_true, cond_false, neI, s_mapS, bindS_inl, bindS_inr, Bool.and_true, Bool.true_and, Bool.and_false, Bool.false_and, s_isNoneS, s_isNoneN, s_ref, s_adv, s_ldf, s_ld, s_ldM, s_st, s_stM, s_bs, s_bn, s_pp, bump_blk, bump_next, put_next, splice_z, splice_zz, splice_s, s_decT, s_decF, s_eqT, s_eqF, s_i64, s_u64, s_u8, Int.toNat_natCast, Nat.zero_add, s_room, s_chkT, s_rdSl, s_wrSl, s_ldN, s_ldNM, s_ldNf, List.drop_zero, List.take_succ_cons, List.take_zero, List.take_nil, List.take_length, Nat.mul_one, List.flatten_cons, List.flatten_nil, List.append_nil, List.nil_append, List.cons_append]
  clear hσ1
  refine Ok.step (closeT (id := o.a) (h.ext e0) hM hc ha.2) fun r ⟨p1, p2⟩ => ?_
  obtain ⟨q, σ2⟩ := r
  simp only at p1 p2
  subst p1
  have B2 := B.chg hF p2.chg
  have bb := B2.b
  have bo := B2.o
  simp only [MOp.cells, Met.cells] at bo bb
  simp (config := { maxSteps := 2000000 }) -implicitDefEqProofs (disch := (first | omega | rfl | assumption | (simp only [put_next, bump_next, kill_next, List.length_cons, List.length_nil, List.mem_cons, List.not_mem_nil, or_false, not_false_eq_true]; first | omega | assumption))) only [bb, bo, Nat.reduceAdd, Nat.reduceMul, Nat.reduceLT, Int.reduceToNat, Int.reduceAdd, Int.reduceSub, Int.reduceMul, s_beq, List.length_cons, List.length_nil, List.getD_cons_zero, List.getD_cons_succ, List.getElem?_cons_zero, List.getElem?_cons_succ, Option.bind_some, Option.bind_assoc, s_bindN, asI_i, asB_b, asS_s, asP_p, asPS_p, asSl_sl, s_agg, s_tup, s_fn, joinB, joinI, joinR, beq_true, beq_false, Bool.not_true, Bool.not_false, Bool.not_not, cond_true, cond_false, neI, s_mapS, bindS_inl, bindS_inr, Bool.and_true, Bool.true_and, Bool.and_false, Bool.false_and, s_isNoneS, s_isNoneN, s_ref, s_adv, s_ldf, s_ld, s_ldM, s_st, s_stM, s_bs, s_bn, s_pp, bump_blk, bump_next, put_next, splice_z, splice_zz, splice_s, s_decT, s_decF, s_eqT, s_eqF, s_i64, s_u64, s_u8, Int.toNat_natCast, Nat.zero_add, s_room, s_chkT, s_rdSl, s_wrSl, s_ldN, s_ldNM, s_ldNf, List.drop_zero, List.take_succ_cons, List.take_zero, List.take_nil, List.take_length, Nat.mul_one, List.flatten_cons, List.flatten_nil, List.append_nil, List.nil_append, List.cons_append]
  refine Ok.step (rclose_T (id := o.a) hR) fun r ⟨⟨a', L', k1, k2, k3⟩, k4⟩ => ?_
  obtain ⟨q, σ3⟩ := r
  simp only at k1 k4
  subst k1
  have B3 := B2.chg (F := []) (by simp) k4.chg
  have n3 := B3.n
  have kn := k4.next
  have c3 := B3.b
  obtain ⟨cs, hc', cc⟩ := B3.c
  obtain ⟨x0, x1, x2, x3, x4, x5, x6, rfl⟩ := seven hc'
  simp only [Met.cells] at c3
  simp (config := { maxSteps := 2000000 }) -implicitDefEqProofs (disch := (first | omega | rfl | assumption | (simp only [put_next, bump_next, kill_next, List.length_cons, List.length_nil, List.mem_cons, List.not_mem_nil, or_false, not_false_eq_true]; first | omega | assumption))) only [rst, Met.cells, c3, cc, beq_self_eq_true, Nat.reduceAdd, Nat.reduceMul, Nat.reduceLT, Int.reduceToNat, Int.reduceAdd, Int.reduceSub, Int.reduceMul, s_beq, List.length_cons, List.length_nil, List.getD_cons_zero, List.getD_cons_succ, List.getElem?_cons_zero, List.getElem?_cons_succ, Option.bind_some, Option.bind_assoc, s_bindN, asI_i, asB_b, asS_s, asP_p, asPS_p, asSl_sl, s_agg, s_tup, s_fn, joinB, joinI, joinR, beq_true, beq_false, Bool.not_true, Bool.not_false, Bool.not_not, cond_true, cond_false, neI, s_mapS, bindS_inl, bindS_inr, Bool.and_true, Bool.true_and, Bool.and_false, Bool.false_and, s_isNoneS, s_isNoneN, s_ref, s_adv, s_ldf, s_ld, s_ldM, s_st, s_stM, s_bs, s_bn, s_pp, bump_blk, bump_next, put_next, splice_z, splice_zz, splice_s, s_decT, s_decF, s_eqT, s_eqF, s_i64, s_u64, s_u8, Int.toNat_natCast, Nat.zero_add, s_room, s_chkT, s_rdSl, s_wrSl, s_ldN, s_ldNM, s_ldNf, List.drop_zero, List.take_succ_cons, List.take_zero, List.take_nil, List.take_length, Nat.mul_one, List.flatten_cons, List.flatten_nil, List.append_nil, List.nil_append, List.cons_append]
  refine Ok_some.2 ⟨(M.closeR o.a).1, a', L', rfl, ⟨k2, k3, p2.ok⟩, p2.fin hF e0 B.n (by simp only [put_next]; exact kn) fun b hb hne => ?_, ?_⟩
  · simp only []
    rw [s_bn hne.2.2, s_bn hne.1]; exact k4.blk b hb
  · have := small_close (M := M) (id := o.a)
    omega

theorem do_2 (hk : o.kind = 2) : DoGoal σ mb F M a L.length o := by
  unfold DoGoal
  have B := boxes3_new (σ := σ) (a := a) (n := L.length) (m := M.met) (o := o)
  have hF := h.lt
  have e0 : Ext σ _ := ext3_new (σ := σ) (x := .cells true T_haymowref08_State (.sl a L.length :: M.met.cells)) (y := .cells true T_law08_Op o.cells) (z := .cells true T_haymowref08_State [.sl .nil 0, .i .u64 0, .i .u64 0, .i .u64 0, .i .u64 0, .i .i64 0, .i .i64 0])
  simp only [Met.cells, MOp.cells] at B e0
  have b0 : ((o.kind : Int) == 0) = false := by simp [hk]
  have b1 : ((o.kind : Int) == 1) = false := by simp [hk]
  have b2 : ((o.kind : Int) == 2) = true := by simp [hk]
  have ha := hr.a
  have hb := hr.b
  have hd := hr.d
  have hn := hr.n
  unfold i64r at ha hb hd hn
  clear hr hk
  generalize hσ1 : (((σ.bump 3).put σ.next (.cells true T_haymowref08_State _)).put (σ.next + 1) (.cells true T_law08_Op _)).put (σ.next + 1 + 1) (.cells true T_haymowref08_State _) = σ1 at B e0
  have bo := B.o
  simp only [MOp.cells] at bo
  simp (config := { maxSteps := 2000000 }) -implicitDefEqProofs (disch := (first | omega | rfl | assumption | (simp only [put_next, bump_next, kill_next, List.length_cons, List.length_nil, List.mem_cons, List.not_mem_nil, or_false, not_false_eq_true]; first | omega | assumption))) only [law08_do, law08_do_c, rst, Met.cells, MOp.cells, hσ1, bo, b0, b1, b2, Nat.reduceAdd, Nat.reduceMul, Nat.reduceLT, Int.reduceToNat, Int.reduceAdd, Int.reduceSub, Int.reduceMul, s_beq, List.length_cons, List.length_nil, List.getD_cons_zero, List.getD_cons_succ, List.getElem?_cons_zero, List.getElem?_cons_succ, Option.bind_some, Option.bind_assoc, s_bindN, asI_i, asB_b, asS_s, asP_p, asPS_p, asSl_sl, s_agg, s_tup, s_fn, joinB, joinI, joinR, beq_true, beq_false, Bool.not_true, Bool.not_false, Bool.not_not, cond_true, cond_false, neI, s_mapS, bindS_inl, bindS_inr, Bool.and_true, Bool.true_and, Bool.and_false, Bool.false_and, s_isNoneS, s_isNoneN, s_ref, s_adv, s_ldf, s_ld, s_ldM, s_st, s_stM, s_bs, s_bn, s_pp, bump_blk, bump_next, put_next, splice_z, splice_zz, splice_s, s_decT, s_decF, s_eqT, s_eqF, s_i64, s_u64, s_u8, Int.toNat_natCast, Nat.zero_add, s_room, s_chkT, s_rdSl, s_wrSl, s_ldN, s_ldNM, s_ldNf, List.drop_zero, List.take_succ_cons, List.take_zero, List.take_nil, List.take_length, Nat.mul_one, List.flatten_cons, List.flatten_nil, List.append_nil, List.nil_append, List.cons_append]
  clear hσ1
  refine Ok.step (growT (id := o.a) (n := o.n) (h.ext e0) hM hc) fun r ⟨p1, p2⟩ => ?_
  obtain ⟨q, σ2⟩ := r
  simp only at p1 p2
  subst p1
  have B2 := B.chg hF p2.chg
  have bb := B2.b
  have bo := B2.o
  simp only [MOp.cells, Met.cells] at bo bb
  simp (config := { maxSteps := 2000000 }) -implicitDefEqProofs (disch := (first | omega | rfl | assumption | (simp only [put_next, bump_next, kill_next, List.length_cons, List.length_nil, List.mem_cons, List.not_mem_nil, or_false, not_false_eq_true]; first | omega | assumption))) only [bb, bo, Nat.reduceAdd, Nat.reduceMul, Nat.reduceLT, Int.reduceToNat, Int.reduceAdd, Int.reduceSub, Int.reduceMul, s_beq, List.length_cons, List.length_nil, List.getD_cons_zero, List.getD_cons_succ, List.getElem?_cons_zero, List.getElem?_cons_succ, Option.bind_some, Option.bind_assoc, s_bindN, asI_i, asB_b, asS_s, asP_p, asPS_p, asSl_sl, s_agg, s_tup, s_fn, joinB, joinI, joinR, beq_true, beq_false, Bool.not_true, Bool.not_false, Bool.not_not, cond_true, cond_false, neI, s_mapS, bindS_inl, bindS_inr, Bool.and_true, Bool.true_and, Bool.and_false, Bool.false_and, s_isNoneS, s_isNoneN, s_ref, s_adv, s_ldf, s_ld, s_ldM, s_st, s_stM, s_bs, s_bn, s_pp, bump_blk, bump_next, put_next, splice_z, splice_zz, splice_s, s_decT, s_decF, s_eqT, s_eqF, s_i64, s_u64, s_u8, Int.toNat_natCast, Nat.zero_add, s_room, s_chkT, s_rdSl, s_wrSl, s_ldN, s_ldNM, s_ldNf, List.drop_zero, List.take_succ_cons, List.take_zero, List.take_nil, List.take_length, Nat.mul_one, List.flatten_cons, List.flatten_nil, List.append_nil, List.nil_append, List.cons_append]
  refine Ok.step (rgrow_T (id := o.a) (n := o.n) hR) fun r ⟨⟨a', L', k1, k2, k3⟩, k4⟩ => ?_
  obtain ⟨q, σ3⟩ := r
  simp only at k1 k4
  subst k1
  have B3 := B2.chg (F := []) (by simp) k4.chg
  have n3 := B3.n
  have kn := k4.next
  have c3 := B3.b
  obtain ⟨cs, hc', cc⟩ := B3.c
  obtain ⟨x0, x1, x2, x3, x4, x5, x6, rfl⟩ := seven hc'
  simp only [Met.cells] at c3
  simp (config := { maxSteps := 2000000 }) -implicitDefEqProofs (disch := (first | omega | rfl | assumption | (simp only [put_next, bump_next, kill_next, List.length_cons, List.length_nil, List.mem_cons, List.not_mem_nil, or_false, not_false_eq_true]; first | omega | assumption))) only [rst, Met.cells, c3, cc, beq_self_eq_true, Nat.reduceAdd, Nat.reduceMul, Nat.reduceLT, Int.reduceToNat, Int.reduceAdd, Int.reduceSub, Int.reduceMul, s_beq, List.length_cons, List.length_nil, List.getD_cons_zero, List.getD_cons_succ, List.getElem?_cons_zero, List.getElem?_cons_succ, Option.bind_some, Option.bind_assoc, s_bindN, asI_i, asB_b, asS_s, asP_p, asPS_p, asSl_sl, s_agg, s_tup, s_fn, joinB, joinI, joinR, beq_true, beq_false, Bool.not_true, Bool.not_false, Bool.not_not, cond_true, cond_false, neI, s_mapS, bindS_inl, bindS_inr, Bool.and_true, Bool.true_and, Bool.and_false, Bool.false_and, s_isNoneS, s_isNoneN, s_ref, s_adv, s_ldf, s_ld, s_ldM, s_st, s_stM, s_bs, s_bn, s_pp, bump_blk, bump_next, put_next, splice_z, splice_zz, splice_s, s_decT, s_decF, s_eqT, s_eqF, s_i64, s_u64, s_u8, Int.toNat_natCast, Nat.zero_add, s_room, s_chkT, s_rdSl, s_wrSl, s_ldN, s_ldNM, s_ldNf, List.drop_zero, List.take_succ_cons, List.take_zero, List.take_nil, List.take_length, Nat.mul_one, List.flatten_cons, List.flatten_nil, List.append_nil, List.nil_append, List.cons_append]
  refine Ok_some.2 ⟨(M.growR o.a o.n).1, a', L', rfl, ⟨k2, k3, p2.ok⟩, p2.fin hF e0 B.n (by simp only [put_next]; exact kn) fun b hb hne => ?_, ?_⟩
  · simp only []
    rw [s_bn hne.2.2, s_bn hne.1]; exact k4.blk b hb
  · have := small_grow (M := M) (id := o.a) (n := o.n)
    omega

theorem do_3 (hk : o.kind = 3) : DoGoal σ mb F M a L.length o := by
  unfold DoGoal
  have B := boxes3_new (σ := σ) (a := a) (n := L.length) (m := M.met) (o := o)
  have hF := h.lt
  have e0 : Ext σ _ := ext3_new (σ := σ) (x := .cells true T_haymowref08_State (.sl a L.length :: M.met.cells)) (y := .cells true T_law08_Op o.cells) (z := .cells true T_haymowref08_State [.sl .nil 0, .i .u64 0, .i .u64 0, .i .u64 0, .i .u64 0, .i .i64 0, .i .i64 0])
  simp only [Met.cells, MOp.cells] at B e0
  have b0 : ((o.kind : Int) == 0) = false := by simp [hk]
  have b1 : ((o.kind : Int) == 1) = false := by simp [hk]
  have b2 : ((o.kind : Int) == 2) = false := by simp [hk]
  have b3 : ((o.kind : Int) == 3) = true := by simp [hk]
  have ha := hr.a
  have hb := hr.b
  have hd := hr.d
  have hn := hr.n
  unfold i64r at ha hb hd hn
  clear hr hk
  generalize hσ1 : (((σ.bump 3).put σ.next (.cells true T_haymowref08_State _)).put (σ.next + 1) (.cells true T_law08_Op _)).put (σ.next + 1 + 1) (.cells true T_haymowref08_State _) = σ1 at B e0
  have bo := B.o
  simp only [MOp.cells] at bo
  simp (config := { maxSteps := 2000000 }) -implicitDefEqProofs (disch := (first | omega | rfl | assumption | (simp only [put_next, bump_next, kill_next, List.length_cons, List.length_nil, List.mem_cons, List.not_mem_nil, or_false, not_false_eq_true]; first | omega | assumption))) only [law08_do, law08_do_c, rst, Met.cells, MOp.cells, hσ1, bo, b0, b1, b2, b3, Nat.reduceAdd, Nat.reduceMul, Nat.reduceLT, Int.reduceToNat, Int.reduceAdd, Int.reduceSub, Int.reduceMul, s_beq, List.length_cons, List.length_nil, List.getD_cons_zero, List.getD_cons_succ, List.getElem?_cons_zero, List.getElem?_cons_succ, Option.bind_some, Option.bind_assoc, s_bindN, asI_i, asB_b, asS_s, asP_p, asPS_p, asSl_sl, s_agg, s_tup, s_fn, joinB, joinI, joinR, beq_true, beq_false, Bool.not_true, Bool.not_false, Bool.not_not, cond_true, cond_false, neI, s_mapS, bindS_inl, bindS_inr, Bool.and_true, Bool.true_and, Bool.and_false, Bool.false_and, s_isNoneS, s_isNoneN, s_ref, s_adv, s_ldf, s_ld, s_ldM, s_st, s_stM, s_bs, s_bn, s_pp, bump_blk, bump_next, put_next, splice_z, splice_zz, splice_s, s_decT, s_decF, s_eqT, s_eqF, s_i64, s_u64, s_u8, Int.toNat_natCast, Nat.zero_add, s_room, s_chkT, s_rdSl, s_wrSl, s_ldN, s_ldNM, s_ldNf, List.drop_zero, List.take_succ_cons, List.take_zero, List.take_nil, List.take_length, Nat.mul_one, List.flatten_cons, List.flatten_nil, List.append_nil, List.nil_append, List.cons_append]
  clear hσ1
  refine Ok.step (readT (id := o.a) (at_ := o.b) (h.ext e0) hM hc hb) fun r ⟨p1, p2⟩ => ?_
  obtain ⟨q, σ2⟩ := r
  simp only at p1 p2
  subst p1
  have B2 := B.chg hF p2.chg
  have bb := B2.b
  have bo := B2.o
  simp only [MOp.cells, Met.cells] at bo bb
  simp (config := { maxSteps := 2000000 }) -implicitDefEqProofs (disch := (first | omega | rfl | assumption | (simp only [put_next, bump_next, kill_next, List.length_cons, List.length_nil, List.mem_cons, List.not_mem_nil, or_false, not_false_eq_true]; first | omega | assumption))) only [bb, bo, Nat.reduceAdd, Nat.reduceMul, Nat.reduceLT, Int.reduceToNat, Int.reduceAdd, Int.reduceSub, Int.reduceMul, s_beq, List.length_cons, List.length_nil, List.getD_cons_zero, List.getD_cons_succ, List.getElem?_cons_zero, List.getElem?_cons_succ, Option.bind_some, Option.bind_assoc, s_bindN, asI_i, asB_b, asS_s, asP_p, asPS_p, asSl_sl, s_agg, s_tup, s_fn, joinB, joinI, joinR, beq_true, beq_false, Bool.not_true, Bool.not_false, Bool.not_not, cond_true, cond_false, neI, s_mapS, bindS_inl, bindS_inr, Bool.and_true, Bool.true_and, Bool.and_false, Bool.false_and, s_isNoneS, s_isNoneN, s_ref, s_adv, s_ldf, s_ld, s_ldM, s_st, s_stM, s_bs, s_bn, s_pp, bump_blk, bump_next, put_next, splice_z, splice_zz, splice_s, s_decT, s_decF, s_eqT, s_eqF, s_i64, s_u64, s_u8, Int.toNat_natCast, Nat.zero_add, s_room, s_chkT, s_rdSl, s_wrSl, s_ldN, s_ldNM, s_ldNf, List.drop_zero, List.take_succ_cons, List.take_zero, List.take_nil, List.take_length, Nat.mul_one, List.flatten_cons, List.flatten_nil, List.append_nil, List.nil_append, List.cons_append]
  refine Ok.step (rread_T (id := o.a) (at_ := o.b) hR hc) fun r ⟨⟨a', L', k1, k2, k3⟩, k4⟩ => ?_
  obtain ⟨q, σ3⟩ := r
  simp only at k1 k4
  subst k1
  have B3 := B2.chg (F := []) (by simp) k4.chg
  have n3 := B3.n
  have kn := k4.next
  have c3 := B3.b
  obtain ⟨cs, hc', cc⟩ := B3.c
  obtain ⟨x0, x1, x2, x3, x4, x5, x6, rfl⟩ := seven hc'
  simp only [Met.cells] at c3
  simp (config := { maxSteps := 2000000 }) -implicitDefEqProofs (disch := (first | omega | rfl | assumption | (simp only [put_next, bump_next, kill_next, List.length_cons, List.length_nil, List.mem_cons, List.not_mem_nil, or_false, not_false_eq_true]; first | omega | assumption))) only [rst, Met.cells, c3, cc, beq_self_eq_true, Nat.reduceAdd, Nat.reduceMul, Nat.reduceLT, Int.reduceToNat, Int.reduceAdd, Int.reduceSub, Int.reduceMul, s_beq, List.length_cons, List.length_nil, List.getD_cons_zero, List.getD_cons_succ, List.getElem?_cons_zero, List.getElem?_cons_succ, Option.bind_some, Option.bind_assoc, s_bindN, asI_i, asB_b, asS_s, asP_p, asPS_p, asSl_sl, s_agg, s_tup, s_fn, joinB, joinI, joinR, beq_true, beq_false, Bool.not_true, Bool.not_false, Bool.not_not, cond_true, cond_false, neI, s_mapS, bindS_inl, bindS_inr, Bool.and_true, Bool.true_and, Bool.and_false, Bool.false_and, s_isNoneS, s_isNoneN, s_ref, s_adv, s_ldf, s_ld, s_ldM, s_st, s_stM, s_bs, s_bn, s_pp, bump_blk, bump_next, put_next, splice_z, splice_zz, splice_s, s_decT, s_decF, s_eqT, s_eqF, s_i64, s_u64, s_u8, Int.toNat_natCast, Nat.zero_add, s_room, s_chkT, s_rdSl, s_wrSl, s_ldN, s_ldNM, s_ldNf, List.drop_zero, List.take_succ_cons, List.take_zero, List.take_nil, List.take_length, Nat.mul_one, List.flatten_cons, List.flatten_nil, List.append_nil, List.nil_append, List.cons_append]
  refine Ok_some.2 ⟨(M.readR o.a o.b).1, a', L', rfl, ⟨k2, k3, p2.ok⟩, p2.fin hF e0 B.n (by simp only [put_next]; exact kn) fun b hb hne => ?_, ?_⟩
  · simp only []
    rw [s_bn hne.2.2, s_bn hne.1]; exact k4.blk b hb
  · have := small_read (M := M) (id := o.a) (b := o.b)
    omega

theorem do_4 (hk : o.kind = 4) : DoGoal σ mb F M a L.length o := by
  unfold DoGoal
  have B := boxes3_new (σ := σ) (a := a) (n := L.length) (m := M.met) (o := o)
  have hF := h.lt
  have e0 : Ext σ _ := ext3_new (σ := σ) (x := .cells true T_haymowref08_State (.sl a L.length :: M.met.cells)) (y := .cells true T_law08_Op o.cells) (z := .cells true T_haymowref08_State [.sl .nil 0, .i .u64 0, .i .u64 0, .i .u64 0, .i .u64 0, .i .i64 0, .i .i64 0])
  simp only [Met.cells, MOp.cells] at B e0
  have b0 : ((o.kind : Int) == 0) = false := by simp [hk]
  have b1 : ((o.kind : Int) == 1) = false := by simp [hk]
  have b2 : ((o.kind : Int) == 2) = false := by simp [hk]
  have b3 : ((o.kind : Int) == 3) = false := by simp [hk]
  have b4 : ((o.kind : Int) == 4) = true := by simp [hk]
  have ha := hr.a
  have hb := hr.b
  have hd := hr.d
  have hn := hr.n
  unfold i64r at ha hb hd hn
  clear hr hk
  generalize hσ1 : (((σ.bump 3).put σ.next (.cells true T_haymowref08_State _)).put (σ.next + 1) (.cells true T_law08_Op _)).put (σ.next + 1 + 1) (.cells true T_haymowref08_State _) = σ1 at B e0
  have bo := B.o
  simp only [MOp.cells] at bo
  simp (config := { maxSteps := 2000000 }) -implicitDefEqProofs (disch := (first | omega | rfl | assumption | (simp only [put_next, bump_next, kill_next, List.length_cons, List.length_nil, List.mem_cons, List.not_mem_nil, or_false, not_false_eq_true]; first | omega | assumption))) only [law08_do, law08_do_c, rst, Met.cells, MOp.cells, hσ1, bo, b0, b1, b2, b3, b4, Nat.reduceAdd, Nat.reduceMul, Nat.reduceLT, Int.reduceToNat, Int.reduceAdd, Int.reduceSub, Int.reduceMul, s_beq, List.length_cons, List.length_nil, List.getD_cons_zero, List.getD_cons_succ, List.getElem?_cons_zero, List.getElem?_cons_succ, Option.bind_some, Option.bind_assoc, s_bindN, asI_i, asB_b, asS_s, asP_p, asPS_p, asSl_sl, s_agg, s_tup, s_fn, joinB, joinI, joinR, beq_true, beq_false, Bool.not_true, Bool.not_false, Bool.not_not, cond_true, cond_false, neI, s_mapS, bindS_inl, bindS_inr, Bool.and_true, Bool.true_and, Bool.and_false, Bool.false_and, s_isNoneS, s_isNoneN, s_ref, s_adv, s_ldf, s_ld, s_ldM, s_st, s_stM, s_bs, s_bn, s_pp, bump_blk, bump_next, put_next, splice_z, splice_zz, splice_s, s_decT, s_decF, s_eqT, s_eqF, s_i64, s_u64, s_u8, Int.toNat_natCast, Nat.zero_add, s_room, s_chkT, s_rdSl, s_wrSl, s_ldN, s_ldNM, s_ldNf, List.drop_zero, List.take_succ_cons, List.take_zero, List.take_nil, List.take_length, Nat.mul_one, List.flatten_cons, List.flatten_nil, List.append_nil, List.nil_append, List.cons_append]
  clear hσ1
  refine Ok.step (writeT (id := o.a) (at_ := o.b) (x := o.w) (h.ext e0) hM hc hb) fun r ⟨p1, p2⟩ => ?_
  obtain ⟨q, σ2⟩ := r
  simp only at p1 p2
  subst p1
  have B2 := B.chg hF p2.chg
  have bb := B2.b
  have bo := B2.o
  simp only [MOp.cells, Met.cells] at bo bb
  simp (config := { maxSteps := 2000000 }) -implicitDefEqProofs (disch := (first | omega | rfl | assumption | (simp only [put_next, bump_next, kill_next, List.length_cons, List.length_nil, List.mem_cons, List.not_mem_nil, or_false, not_false_eq_true]; first | omega | assumption))) only [bb, bo, Nat.reduceAdd, Nat.reduceMul, Nat.reduceLT, Int.reduceToNat, Int.reduceAdd, Int.reduceSub, Int.reduceMul, s_beq, List.length_cons, List.length_nil, List.getD_cons_zero, List.getD_cons_succ, List.getElem?_cons_zero, List.getElem?_cons_succ, Option.bind_some, Option.bind_assoc, s_bindN, asI_i, asB_b, asS_s, asP_p, asPS_p, asSl_sl, s_agg, s_tup, s_fn, joinB, joinI, joinR, beq_true, beq_false, Bool.not_true, Bool.not_false, Bool.not_not, cond_true, cond_false, neI, s_mapS, bindS_inl, bindS_inr, Bool.and_true, Bool.true_and, Bool.and_false, Bool.false_and, s_isNoneS, s_isNoneN, s_ref, s_adv, s_ldf, s_ld, s_ldM, s_st, s_stM, s_bs, s_bn, s_pp, bump_blk, bump_next, put_next, splice_z, splice_zz, splice_s, s_decT, s_decF, s_eqT, s_eqF, s_i64, s_u64, s_u8, Int.toNat_natCast, Nat.zero_add, s_room, s_chkT, s_rdSl, s_wrSl, s_ldN, s_ldNM, s_ldNf, List.drop_zero, List.take_succ_cons, List.take_zero, List.take_nil, List.take_length, Nat.mul_one, List.flatten_cons, List.flatten_nil, List.append_nil, List.nil_append, List.cons_append]
  refine Ok.step (rwrite_T (id := o.a) (at_ := o.b) (x := o.w) hR hc) fun r ⟨⟨a', L', k1, k2, k3⟩, k4⟩ => ?_
  obtain ⟨q, σ3⟩ := r
  simp only at k1 k4
  subst k1
  have B3 := B2.chg (F := []) (by simp) k4.chg
  have n3 := B3.n
  have kn := k4.next
  have c3 := B3.b
  obtain ⟨cs, hc', cc⟩ := B3.c
  obtain ⟨x0, x1, x2, x3, x4, x5, x6, rfl⟩ := seven hc'
  simp only [Met.cells] at c3
  simp (config := { maxSteps := 2000000 }) -implicitDefEqProofs (disch := (first | omega | rfl | assumption | (simp only [put_next, bump_next, kill_next, List.length_cons, List.length_nil, List.mem_cons, List.not_mem_nil, or_false, not_false_eq_true]; first | omega | assumption))) only [rst, Met.cells, c3, cc, beq_self_eq_true, Nat.reduceAdd, Nat.reduceMul, Nat.reduceLT, Int.reduceToNat, Int.reduceAdd, Int.reduceSub, Int.reduceMul, s_beq, List.length_cons, List.length_nil, List.getD_cons_zero, List.getD_cons_succ, List.getElem?_cons_zero, List.getElem?_cons_succ, Option.bind_some, Option.bind_assoc, s_bindN, asI_i, asB_b, asS_s, asP_p, asPS_p, asSl_sl, s_agg, s_tup, s_fn, joinB, joinI, joinR, beq_true, beq_false, Bool.not_true, Bool.not_false, Bool.not_not, cond_true, cond_false, neI, s_mapS, bindS_inl, bindS_inr, Bool.and_true, Bool.true_and, Bool.and_false, Bool.false_and, s_isNoneS, s_isNoneN, s_ref, s_adv, s_ldf, s_ld, s_ldM, s_st, s_stM, s_bs, s_bn, s_pp, bump_blk, bump_next, put_next, splice_z, splice_zz, splice_s, s_decT, s_decF, s_eqT, s_eqF, s_i64, s_u64, s_u8, Int.toNat_natCast, Nat.zero_add, s_room, s_chkT, s_rdSl, s_wrSl, s_ldN, s_ldNM, s_ldNf, List.drop_zero, List.take_succ_cons, List.take_zero, List.take_nil, List.take_length, Nat.mul_one, List.flatten_cons, List.flatten_nil, List.append_nil, List.nil_append, List.cons_append]
  refine Ok_some.2 ⟨(M.writeR o.a o.b o.w).1, a', L', rfl, ⟨k2, k3, p2.ok⟩, p2.fin hF e0 B.n (by simp only [put_next]; exact kn) fun b hb hne => ?_, ?_⟩
  · simp only []
    rw [s_bn hne.2.2, s_bn hne.1]; exact k4.blk b hb
  · have := small_write (M := M) (id := o.a) (b := o.b) (x := o.w)
    omega

theorem do_5 (hk : o.kind = 5) : DoGoal σ mb F M a L.length o := by
  unfold DoGoal
  have B := boxes3_new (σ := σ) (a := a) (n := L.length) (m := M.met) (o := o)
  have hF := h.lt
  have e0 : Ext σ _ := ext3_new (σ := σ) (x := .cells true T_haymowref08_State (.sl a L.length :: M.met.cells)) (y := .cells true T_law08_Op o.cells) (z := .cells true T_haymowref08_State [.sl .nil 0, .i .u64 0, .i .u64 0, .i .u64 0, .i .u64 0, .i .i64 0, .i .i64 0])
  simp only [Met.cells, MOp.cells] at B e0
  have b0 : ((o.kind : Int) == 0) = false := by simp [hk]
  have b1 : ((o.kind : Int) == 1) = false := by simp [hk]
  have b2 : ((o.kind : Int) == 2) = false := by simp [hk]
  have b3 : ((o.kind : Int) == 3) = false := by simp [hk]
  have b4 : ((o.kind : Int) == 4) = false := by simp [hk]
  have b5 : ((o.kind : Int) == 5) = true := by simp [hk]
  have ha := hr.a
  have hb := hr.b
  have hd := hr.d
  have hn := hr.n
  unfold i64r at ha hb hd hn
  clear hr hk
  generalize hσ1 : (((σ.bump 3).put σ.next (.cells true T_haymowref08_State _)).put (σ.next + 1) (.cells true T_law08_Op _)).put (σ.next + 1 + 1) (.cells true T_haymowref08_State _) = σ1 at B e0
  have bo := B.o
  simp only [MOp.cells] at bo
  simp (config := { maxSteps := 2000000 }) -implicitDefEqProofs (disch := (first | omega | rfl | assumption | (simp only [put_next, bump_next, kill_next, List.length_cons, List.length_nil, List.mem_cons, List.not_mem_nil, or_false, not_false_eq_true]; first | omega | assumption))) only [law08_do, law08_do_c, rst, Met.cells, MOp.cells, hσ1, bo, b0, b1, b2, b3, b4, b5, Nat.reduceAdd, Nat.reduceMul, Nat.reduceLT, Int.reduceToNat, Int.reduceAdd, Int.reduceSub, Int.reduceMul, s_beq, List.length_cons, List.length_nil, List.getD_cons_zero, List.getD_cons_succ, List.getElem?_cons_zero, List.getElem?_cons_succ, Option.bind_some, Option.bind_assoc, s_bindN, asI_i, asB_b, asS_s, asP_p, asPS_p, asSl_sl, s_agg, s_tup, s_fn, joinB, joinI, joinR, beq_true, beq_false, Bool.not_true, Bool.not_false, Bool.not_not, cond_true, cond_false, neI, s_mapS, bindS_inl, bindS_inr, Bool.and_true, Bool.true_and, Bool.and_false, Bool.false_and, s_isNoneS, s_isNoneN, s_ref, s_adv, s_ldf, s_ld, s_ldM, s_st, s_stM, s_bs, s_bn, s_pp, bump_blk, bump_next, put_next, splice_z, splice_zz, splice_s, s_decT, s_decF, s_eqT, s_eqF, s_i64, s_u64, s_u8, Int.toNat_natCast, Nat.zero_add, s_room, s_chkT, s_rdSl, s_wrSl, s_ldN, s_ldNM, s_ldNf, List.drop_zero, List.take_succ_cons, List.take_zero, List.take_nil, List.take_length, Nat.mul_one, List.flatten_cons, List.flatten_nil, List.append_nil, List.nil_append, List.cons_append]
  clear hσ1
  refine Ok.step (zeroT (id := o.a) (at_ := o.b) (n := o.n) (h.ext e0) hM hc hb) fun r ⟨p1, p2⟩ => ?_
  obtain ⟨q, σ2⟩ := r
  simp only at p1 p2
  subst p1
  have B2 := B.chg hF p2.chg
  have bb := B2.b
  have bo := B2.o
  simp only [MOp.cells, Met.cells] at bo bb
  simp (config := { maxSteps := 2000000 }) -implicitDefEqProofs (disch := (first | omega | rfl | assumption | (simp only [put_next, bump_next, kill_next, List.length_cons, List.length_nil, List.mem_cons, List.not_mem_nil, or_false, not_false_eq_true]; first | omega | assumption))) only [bb, bo, Nat.reduceAdd, Nat.reduceMul, Nat.reduceLT, Int.reduceToNat, Int.reduceAdd, Int.reduceSub, Int.reduceMul, s_beq, List.length_cons, List.length_nil, List.getD_cons_zero, List.getD_cons_succ, List.getElem?_cons_zero, List.getElem?_cons_succ, Option.bind_some, Option.bind_assoc, s_bindN, asI_i, asB_b, asS_s, asP_p, asPS_p, asSl_sl, s_agg, s_tup, s_fn, joinB, joinI, joinR, beq_true, beq_false, Bool.not_true, Bool.not_false, Bool.not_not, cond_true, cond_false, neI, s_mapS, bindS_inl, bindS_inr, Bool.and_true, Bool.true_and, Bool.and_false, Bool.false_and, s_isNoneS, s_isNoneN, s_ref, s_adv, s_ldf, s_ld, s_ldM, s_st, s_stM, s_bs, s_bn, s_pp, bump_blk, bump_next, put_next, splice_z, splice_zz, splice_s, s_decT, s_decF, s_eqT, s_eqF, s_i64, s_u64, s_u8, Int.toNat_natCast, Nat.zero_add, s_room, s_chkT, s_rdSl, s_wrSl, s_ldN, s_ldNM, s_ldNf, List.drop_zero, List.take_succ_cons, List.take_zero, List.take_nil, List.take_length, Nat.mul_one, List.flatten_cons, List.flatten_nil, List.append_nil, List.nil_append, List.cons_append]
  refine Ok.step (rzero_T (id := o.a) (at_ := o.b) (n := o.n) hR hc hn) fun r ⟨⟨a', L', k1, k2, k3⟩, k4⟩ => ?_
  obtain ⟨q, σ3⟩ := r
  simp only at k1 k4
  subst k1
  have B3 := B2.chg (F := []) (by simp) k4.chg
  have n3 := B3.n
  have kn := k4.next
  have c3 := B3.b
  obtain ⟨cs, hc', cc⟩ := B3.c
  obtain ⟨x0, x1, x2, x3, x4, x5, x6, rfl⟩ := seven hc'
  simp only [Met.cells] at c3
  simp (config := { maxSteps := 2000000 }) -implicitDefEqProofs (disch := (first | omega | rfl | assumption | (simp only [put_next, bump_next, kill_next, List.length_cons, List.length_nil, List.mem_cons, List.not_mem_nil, or_false, not_false_eq_true]; first | omega | assumption))) only [rst, Met.cells, c3, cc, beq_self_eq_true, Nat.reduceAdd, Nat.reduceMul, Nat.reduceLT, Int.reduceToNat, Int.reduceAdd, Int.reduceSub, Int.reduceMul, s_beq, List.length_cons, List.length_nil, List.getD_cons_zero, List.getD_cons_succ, List.getElem?_cons_zero, List.getElem?_cons_succ, Option.bind_some, Option.bind_assoc, s_bindN, asI_i, asB_b, asS_s, asP_p, asPS_p, asSl_sl, s_agg, s_tup, s_fn, joinB, joinI, joinR, beq_true, beq_false, Bool.not_true, Bool.not_false, Bool.not_not, cond_true, cond_false, neI, s_mapS, bindS_inl, bindS_inr, Bool.and_true, Bool.true_and, Bool.and_false, Bool.false_and, s_isNoneS, s_isNoneN, s_ref, s_adv, s_ldf, s_ld, s_ldM, s_st, s_stM, s_bs, s_bn, s_pp, bump_blk, bump_next, put_next, splice_z, splice_zz, splice_s, s_decT, s_decF, s_eqT, s_eqF, s_i64, s_u64, s_u8, Int.toNat_natCast, Nat.zero_add, s_room, s_chkT, s_rdSl, s_wrSl, s_ldN, s_ldNM, s_ldNf, List.drop_zero, List.take_succ_cons, List.take_zero, List.take_nil, List.take_length, Nat.mul_one, List.flatten_cons, List.flatten_nil, List.append_nil, List.nil_append, List.cons_append]
  refine Ok_some.2 ⟨(M.zeroR o.a o.b o.n).1, a', L', rfl, ⟨k2, k3, p2.ok⟩, p2.fin hF e0 B.n (by simp only [put_next]; exact kn) fun b hb hne => ?_, ?_⟩
  · simp only []
    rw [s_bn hne.2.2, s_bn hne.1]; exact k4.blk b hb
  · have := small_zero hM (id := o.a) (b := o.b) (n := o.n)
    omega

theorem do_6 (hk : o.kind = 6) : DoGoal σ mb F M a L.length o := by
  unfold DoGoal
  have B := boxes3_new (σ := σ) (a := a) (n := L.length) (m := M.met) (o := o)
  have hF := h.lt
  have e0 : Ext σ _ := ext3_new (σ := σ) (x := .cells true T_haymowref08_State (.sl a L.length :: M.met.cells)) (y := .cells true T_law08_Op o.cells) (z := .cells true T_haymowref08_State [.sl .nil 0, .i .u64 0, .i .u64 0, .i .u64 0, .i .u64 0, .i .i64 0, .i .i64 0])
  simp only [Met.cells, MOp.cells] at B e0
  have b0 : ((o.kind : Int) == 0) = false := by simp [hk]
  have b1 : ((o.kind : Int) == 1) = false := by simp [hk]
  have b2 : ((o.kind : Int) == 2) = false := by simp [hk]
  have b3 : ((o.kind : Int) == 3) = false := by simp [hk]
  have b4 : ((o.kind : Int) == 4) = false := by simp [hk]
  have b5 : ((o.kind : Int) == 5) = false := by simp [hk]
  have b6 : ((o.kind : Int) == 6) = true := by simp [hk]
  have ha := hr.a
  have hb := hr.b
  have hd := hr.d
  have hn := hr.n
  unfold i64r at ha hb hd hn
  clear hr hk
  generalize hσ1 : (((σ.bump 3).put σ.next (.cells true T_haymowref08_State _)).put (σ.next + 1) (.cells true T_law08_Op _)).put (σ.next + 1 + 1) (.cells true T_haymowref08_State _) = σ1 at B e0
  have bo := B.o
  simp only [MOp.cells] at bo
  simp (config := { maxSteps := 2000000 }) -implicitDefEqProofs (disch := (first | omega | rfl | assumption | (simp only [put_next, bump_next, kill_next, List.length_cons, List.length_nil, List.mem_cons, List.not_mem_nil, or_false, not_false_eq_true]; first | omega | assumption))) only [law08_do, law08_do_c, rst, Met.cells, MOp.cells, hσ1, bo, b0, b1, b2, b3, b4, b5, b6, Nat.reduceAdd, Nat.reduceMul, Nat.reduceLT, Int.reduceToNat, Int.reduceAdd, Int.reduceSub, Int.reduceMul, s_beq, List.length_cons, List.length_nil, List.getD_cons_zero, List.getD_cons_succ, List.getElem?_cons_zero, List.getElem?_cons_succ, Option.bind_some, Option.bind_assoc, s_bindN, asI_i, asB_b, asS_s, asP_p, asPS_p, asSl_sl, s_agg, s_tup, s_fn, joinB, joinI, joinR, beq_true, beq_false, Bool.not_true, Bool.not_false, Bool.not_not, cond_true, cond_false, neI, s_mapS, bindS_inl, bindS_inr, Bool.and_true, Bool.true_and, Bool.and_false, Bool.false_and, s_isNoneS, s_isNoneN, s_ref, s_adv, s_ldf, s_ld, s_ldM, s_st, s_stM, s_bs, s_bn, s_pp, bump_blk, bump_next, put_next, splice_z, splice_zz, splice_s, s_decT, s_decF, s_eqT, s_eqF, s_i64, s_u64, s_u8, Int.toNat_natCast, Nat.zero_add, s_room, s_chkT, s_rdSl, s_wrSl, s_ldN, s_ldNM, s_ldNf, List.drop_zero, List.take_succ_cons, List.take_zero, List.take_nil, List.take_length, Nat.mul_one, List.flatten_cons, List.flatten_nil, List.append_nil, List.nil_append, List.cons_append]
  clear hσ1
  refine Ok.step (copyT (fr := o.a) (at_ := o.b) (to := o.c) (de := o.d) (n := o.n) (h.ext e0) hM hc hb hd) fun r ⟨p1, p2⟩ => ?_
  obtain ⟨q, σ2⟩ := r
  simp only at p1 p2
  subst p1
  have B2 := B.chg hF p2.chg
  have bb := B2.b
  have bo := B2.o
  simp only [MOp.cells, Met.cells] at bo bb
  simp (config := { maxSteps := 2000000 }) -implicitDefEqProofs (disch := (first | omega | rfl | assumption | (simp only [put_next, bump_next, kill_next, List.length_cons, List.length_nil, List.mem_cons, List.not_mem_nil, or_false, not_false_eq_true]; first | omega | assumption))) only [bb, bo, Nat.reduceAdd, Nat.reduceMul, Nat.reduceLT, Int.reduceToNat, Int.reduceAdd, Int.reduceSub, Int.reduceMul, s_beq, List.length_cons, List.length_nil, List.getD_cons_zero, List.getD_cons_succ, List.getElem?_cons_zero, List.getElem?_cons_succ, Option.bind_some, Option.bind_assoc, s_bindN, asI_i, asB_b, asS_s, asP_p, asPS_p, asSl_sl, s_agg, s_tup, s_fn, joinB, joinI, joinR, beq_true, beq_false, Bool.not_true, Bool.not_false, Bool.not_not, cond_true, cond_false, neI, s_mapS, bindS_inl, bindS_inr, Bool.and_true, Bool.true_and, Bool.and_false, Bool.false_and, s_isNoneS, s_isNoneN, s_ref, s_adv, s_ldf, s_ld, s_ldM, s_st, s_stM, s_bs, s_bn, s_pp, bump_blk, bump_next, put_next, splice_z, splice_zz, splice_s, s_decT, s_decF, s_eqT, s_eqF, s_i64, s_u64, s_u8, Int.toNat_natCast, Nat.zero_add, s_room, s_chkT, s_rdSl, s_wrSl, s_ldN, s_ldNM, s_ldNf, List.drop_zero, List.take_succ_cons, List.take_zero, List.take_nil, List.take_length, Nat.mul_one, List.flatten_cons, List.flatten_nil, List.append_nil, List.nil_append, List.cons_append]
  refine Ok.step (rcopy_T (fr := o.a) (at_ := o.b) (to := o.c) (de := o.d) (n := o.n) hR hc hn) fun r ⟨⟨a', L', k1, k2, k3⟩, k4⟩ => ?_
  obtain ⟨q, σ3⟩ := r
  simp only at k1 k4
  subst k1
  have B3 := B2.chg (F := []) (by simp) k4.chg
  have n3 := B3.n
  have kn := k4.next
  have c3 := B3.b
  obtain ⟨cs, hc', cc⟩ := B3.c
  obtain ⟨x0, x1, x2, x3, x4, x5, x6, rfl⟩ := seven hc'
  simp only [Met.cells] at c3
  simp (config := { maxSteps := 2000000 }) -implicitDefEqProofs (disch := (first | omega | rfl | assumption | (simp only [put_next, bump_next, kill_next, List.length_cons, List.length_nil, List.mem_cons, List.not_mem_nil, or_false, not_false_eq_true]; first | omega | assumption))) only [rst, Met.cells, c3, cc, beq_self_eq_true, Nat.reduceAdd, Nat.reduceMul, Nat.reduceLT, Int.reduceToNat, Int.reduceAdd, Int.reduceSub, Int.reduceMul, s_beq, List.length_cons, List.length_nil, List.getD_cons_zero, List.getD_cons_succ, List.getElem?_cons_zero, List.getElem?_cons_succ, Option.bind_some, Option.bind_assoc, s_bindN, asI_i, asB_b, asS_s, asP_p, asPS_p, asSl_sl, s_agg, s_tup, s_fn, joinB, joinI, joinR, beq_true, beq_false, Bool.not_true, Bool.not_false, Bool.not_not, cond_true, cond_false, neI, s_mapS, bindS_inl, bindS_inr, Bool.and_true, Bool.true_and, Bool.and_false, Bool.false_and, s_isNoneS, s_isNoneN, s_ref, s_adv, s_ldf, s_ld, s_ldM, s_st, s_stM, s_bs, s_bn, s_pp, bump_blk, bump_next, put_next, splice_z, splice_zz, splice_s, s_decT, s_decF, s_eqT, s_eqF, s_i64, s_u64, s_u8, Int.toNat_natCast, Nat.zero_add, s_room, s_chkT, s_rdSl, s_wrSl, s_ldN, s_ldNM, s_ldNf, List.drop_zero, List.take_succ_cons, List.take_zero, List.take_nil, List.take_length, Nat.mul_one, List.flatten_cons, List.flatten_nil, List.append_nil, List.nil_append, List.cons_append]
  refine Ok_some.2 ⟨(M.copyR o.a o.b o.c o.d o.n).1, a', L', rfl, ⟨k2, k3, p2.ok⟩, p2.fin hF e0 B.n (by simp only [put_next]; exact kn) fun b hb hne => ?_, ?_⟩
  · simp only []
    rw [s_bn hne.2.2, s_bn hne.1]; exact k4.blk b hb
  · have := small_copy hM (fr := o.a) (b := o.b) (to := o.c) (de := o.d) (n := o.n)
    omega
end
end Go.Abs.Try
