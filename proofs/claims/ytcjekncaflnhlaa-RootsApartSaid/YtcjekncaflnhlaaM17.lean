/-
  Layer 17: a stack of frames. No conditions.
-/
import Derived.Test.YtcjekncaflnhlaaM9
import Derived.Test.YtcjekncaflnhlaaS3r
set_option linter.unusedVariables false
set_option linter.unusedSimpArgs false
set_option linter.constructorNameAsVariable false
set_option linter.unusedSimpArgs false
set_option linter.unusedVariables false
set_option linter.unusedSectionVars false
set_option maxHeartbeats 4000000
namespace Go.Abs.Try
open Go Go.Abs
variable {O : Type}

/-! ### Frames, the topmost one first, and how they lie in words -/
def wds : List (List Int) → Nat
  | [] => 0
  | f :: r => wds r + (2 + f.length)
def lnk : List (List Int) → Int
  | [] => 0
  | _ :: r => (wds r : Int) + 1
def fbase : List (List Int) → Int
  | [] => 0
  | _ :: r => wds r
def fslots : List (List Int) → Int
  | [] => 0
  | f :: _ => f.length
def lay : List (List Int) → List Int
  | [] => []
  | f :: r => lay r ++ ([lnk r, (f.length : Int)] ++ f)
theorem lay_len : ∀ L, (lay L).length = wds L
  | [] => rfl
  | f :: r => by simp only [lay, wds, List.length_append, lay_len r, List.length_cons, List.length_nil]
theorem lay_at {w f : List Int} {r : List (List Int)} (h : w.take (wds (f :: r)) = lay (f :: r)) : w[wds r]? = some (lnk r) ∧ w[wds r + 1]? = some (f.length : Int) ∧ ∀ (k : Nat) (x : Int), f[k]? = some x → w[wds r + 2 + k]? = some x := by
  have key : ∀ i, i < wds (f :: r) → w[i]? = (lay (f :: r))[i]? := fun i hi => by rw [← h, List.getElem?_take, if_pos hi]
  have hl := lay_len r
  refine ⟨?_, ?_, fun k x hk => ?_⟩
  · rw [key _ (by simp only [wds]; omega)]
    simp only [lay]
    rw [List.getElem?_append_right (by omega), hl, Nat.sub_self]; rfl
  · rw [key _ (by simp only [wds]; omega)]
    simp only [lay]
    rw [List.getElem?_append_right (by omega), hl, Nat.add_sub_cancel_left]; rfl
  · have hlt := (List.getElem?_eq_some_iff.1 hk).1
    rw [key _ (by simp only [wds]; omega)]
    simp only [lay]
    rw [List.getElem?_append_right (by omega), hl, show wds r + 2 + k - wds r = k + 2 by omega]
    simpa using hk
theorem lay_push {w P z : List Int} {a : Nat} {x y : Int} (hp : w.take a = P) (hl : P.length = a) (hw : a + (2 + z.length) ≤ w.length) : (patched ((w.set a x).set (a + 1) y) (a + 2) z).take (a + (2 + z.length)) = P ++ ([x, y] ++ z) := by
  have e : w = P ++ w.drop a := by rw [← hp, List.take_append_drop]
  have hq : (w.drop a).length = w.length - a := by simp
  generalize w.drop a = q at e hq
  subst e
  match q, hq with
  | u :: v :: rest, hq =>
    have e1 : (P ++ u :: v :: rest).set a x = P ++ x :: v :: rest := by rw [List.set_append_right _ _ (by omega), hl, Nat.sub_self]; rfl
    have e2 : (P ++ x :: v :: rest).set (a + 1) y = P ++ x :: y :: rest := by rw [List.set_append_right _ _ (by omega), hl, Nat.add_sub_cancel_left]; rfl
    rw [e1, e2]
    have e3 : P ++ x :: y :: rest = (P ++ [x, y]) ++ rest := by simp
    have e4 : (P ++ [x, y]).length = a + 2 := by simp [hl]
    unfold patched
    rw [e3, List.take_left' e4]
    have e5 : P ++ [x, y] ++ z ++ ((P ++ [x, y]) ++ rest).drop (a + 2 + z.length) = (P ++ ([x, y] ++ z)) ++ ((P ++ [x, y]) ++ rest).drop (a + 2 + z.length) := by simp
    rw [e5, List.take_left']
    simp [hl]; omega
  | [], hq => simp at hw hq; omega
  | [u], hq => simp at hw hq; omega
theorem lay_set {w f : List Int} {r : List (List Int)} {k : Nat} {x : Int} (h : w.take (wds (f :: r)) = lay (f :: r)) : (w.set (wds r + 2 + k) x).take (wds (f.set k x :: r)) = lay (f.set k x :: r) := by
  have e : wds (f.set k x :: r) = wds (f :: r) := by simp [wds]
  rw [e, List.take_set, h]
  simp only [lay]
  rw [List.set_append_right _ _ (by rw [lay_len]; omega), lay_len, show wds r + 2 + k - wds r = k + 1 + 1 by omega, List.length_set]
  rfl
theorem lnk_le : ∀ r, lnk r ≤ wds r + 1
  | [] => by decide
  | f :: r => by simp only [lnk, wds]; omega
theorem lnk_nn : ∀ r, 0 ≤ lnk r
  | [] => by decide
  | f :: r => by simp only [lnk]; omega

/-- for how many words there is room, behind a call for some -/
def Rm (room need room' : Nat) : Prop := ∃ j : Nat, room' = max room 32 * 2 ^ j ∧ need ≤ room' ∧ ∀ i, i < j → max room 32 * 2 ^ i < need
structure FrmS where
  id : Int
  room : Nat
  L : List (List Int)
def FrmS.cells (S : FrmS) (mb : Nat) : List AV := [.p (some (.n mb, 0)), .i .i64 S.id, .i .i64 (S.room : Int), .i .i64 (wds S.L : Int), .i .i64 (S.L.length : Int), .i .i64 (fbase S.L), .i .i64 (fslots S.L)]
structure FrmAt (σ : AH O) (fb mb : Nat) (M : MemS) (S : FrmS) (w : List Int) (X : List Nat) : Prop where
  mi : MemIn σ mb M (fb :: X)
  b : σ.blk fb = some (.cells true T_frames_Frames (S.cells mb))
  nx : fb ∉ X
  now : wordsOf M.sp S.id = some w
  room : w.length = S.room
  pow : S.room = 0 ∨ ∃ k : Nat, S.room = 32 * 2 ^ k ∧ k ≤ 17
  pre : w.take (wds S.L) = lay S.L
  len : ∀ f ∈ S.L, f.length ≤ 256
section
variable {σ : AH O} {fb mb : Nat} {M : MemS} {S : FrmS} {w : List Int} {X : List Nat} (h : FrmAt σ fb mb M S w X)
include h
theorem FrmAt.ext {σ' : AH O} (he : Ext σ σ') : FrmAt σ' fb mb M S w X := { h with mi := h.mi.ext he, b := (he.blk _ (h.mi.lt _ List.mem_cons_self)).trans h.b }
theorem FrmAt.new {σ' : AH O} (he : Ext σ σ') {b : Nat} (h1 : σ.next ≤ b) (h2 : b < σ'.next) : FrmAt σ' fb mb M S w (b :: X) :=
  { h.ext he with mi := (h.mi.new he h1 h2).mono (fun c hc => by simp only [List.mem_cons] at hc ⊢; rcases hc with rfl | rfl | hc <;> simp_all), nx := (fun hm => (List.mem_cons.1 hm).elim (fun e => by have := h.mi.lt _ List.mem_cons_self; omega) h.nx) }
theorem FrmAt.mono {Y : List Nat} (hs : ∀ b ∈ Y, b ∈ X) : FrmAt σ fb mb M S w Y := { h with mi := h.mi.mono (fun c hc => (List.mem_cons.1 hc).elim (fun e => by rw [e]; exact List.mem_cons_self) fun hc => List.mem_cons_of_mem _ (hs c hc)), nx := fun hm => h.nx (hs _ hm) }
theorem FrmAt.lt : fb < σ.next := h.mi.lt _ List.mem_cons_self
theorem FrmAt.le : wds S.L ≤ w.length := by
  have := congrArg List.length h.pre
  rw [lay_len, List.length_take] at this; omega
theorem FrmAt.wle : w.length ≤ 4194304 := h.mi.wlen h.now
theorem fwords_ok : frames_Frames__Words [.p (some (.n fb, 0))] σ = some (.i .i64 (wds S.L : Int), σ) := by
  have hb := h.b
  simp only [FrmS.cells] at hb
  simp (config := { maxSteps := 2000000 }) -implicitDefEqProofs (disch := (first | omega | rfl | assumption | (simp only [put_next, bump_next, kill_next, List.length_cons, List.length_nil, List.mem_cons, List.not_mem_nil, or_false, not_false_eq_true]; first | omega | assumption))) only [frames_Frames__Words, frames_Frames__Words_c, hb, Nat.reduceAdd, Nat.reduceMul, Nat.reduceLT, Int.reduceToNat, Int.reduceAdd, Int.reduceSub, Int.reduceMul, s_beq, List.length_cons, List.length_nil, List.getD_cons_zero, List.getD_cons_succ, List.getElem?_cons_zero, List.getElem?_cons_succ, Option.bind_some, Option.bind_assoc, s_bindN, asI_i, asB_b, asS_s, asP_p, asPS_p, asSl_sl, s_agg, s_tup, s_fn, joinB, joinI, joinR, beq_true, beq_false, Bool.not_true, Bool.not_false, Bool.not_not, cond_true, cond_false, neI, s_mapS, bindS_inl, bindS_inr, Bool.and_true, Bool.true_and, Bool.and_false, Bool.false_and, s_isNoneS, s_isNoneN, s_ref, s_adv, s_ldf, s_ld, s_ldM, s_st, s_stM, s_bs, s_bn, s_pp, bump_blk, bump_next, put_next, splice_z, splice_zz, splice_s, s_decT, s_decF, s_eqT, s_eqF, s_i64, s_u64, s_u8, Int.toNat_natCast, Nat.zero_add, s_room, s_chkT, s_rdSl, s_wrSl, s_ldN, s_ldNM, s_ldNf, List.drop_zero, List.take_succ_cons, List.take_zero, List.take_nil, List.take_length, Nat.mul_one, List.flatten_cons, List.flatten_nil, List.append_nil, List.nil_append, List.cons_append]
end
theorem fgrow_loop {σ : AH O} {m n : Nat} (hm : 32 ≤ m ∧ m ≤ 4194304) (hn : n ≤ 4194304) : Ok (loopF (S := List AV × AH O) (T := List AV × AH O) (frames_Frames__grow_L1 (n : Int)) ([.i .i64 (m : Int)], σ)) fun r => ∃ j : Nat, r = ([.i .i64 ((m * 2 ^ j : Nat) : Int)], σ) ∧ n ≤ m * 2 ^ j ∧ ∀ i, i < j → m * 2 ^ i < n := by
  refine Ok.loop (fun k s => ∃ j : Nat, s = ([.i .i64 ((m * 2 ^ j : Nat) : Int)], σ) ∧ k = n - m * 2 ^ j ∧ ∀ i, i < j → m * 2 ^ i < n) ?_ _ _ ⟨0, by simp, rfl, fun i hi => by omega⟩
  rintro k s ⟨j, rfl, rfl, hj⟩
  have hpos : 32 ≤ m * 2 ^ j := Nat.le_trans hm.1 (Nat.le_mul_of_pos_right _ (Nat.two_pow_pos j))
  have hs : m * 2 ^ (j + 1) = m * 2 ^ j * 2 := by rw [Nat.pow_succ, Nat.mul_assoc]
  by_cases c : m * 2 ^ j < n
  · have hj' : ∀ i, i < j + 1 → m * 2 ^ i < n := fun i hi => by
      by_cases e : i = j
      · rw [e]; exact c
      · exact hj i (by omega)
    generalize hv : m * 2 ^ j = v at *
    simp (config := { maxSteps := 2000000 }) -implicitDefEqProofs (disch := (first | omega | rfl | assumption | (simp only [put_next, bump_next, kill_next, List.length_cons, List.length_nil, List.mem_cons, List.not_mem_nil, or_false, not_false_eq_true]; first | omega | assumption))) only [frames_Frames__grow_L1, Nat.reduceAdd, Nat.reduceMul, Nat.reduceLT, Int.reduceToNat, Int.reduceAdd, Int.reduceSub, Int.reduceMul, s_beq, List.length_cons, List.length_nil, List.getD_cons_zero, List.getD_cons_succ, List.getElem?_cons_zero, List.getElem?_cons_succ, Option.bind_some, Option.bind_assoc, s_bindN, asI_i, asB_b, asS_s, asP_p, asPS_p, asSl_sl, s_agg, s_tup, s_fn, joinB, joinI, joinR, beq_true, beq_false, Bool.not_true, Bool.not_false, Bool.not_not, cond_true, cond_false, neI, s_mapS, bindS_inl, bindS_inr, Bool.and_true, Bool.true_and, Bool.and_false, Bool.false_and, s_isNoneS, s_isNoneN, s_ref, s_adv, s_ldf, s_ld, s_ldM, s_st, s_stM, s_bs, s_bn, s_pp, bump_blk, bump_next, put_next, splice_z, splice_zz, splice_s, s_decT, s_decF, s_eqT, s_eqF, s_i64, s_u64, s_u8, Int.toNat_natCast, Nat.zero_add, s_room, s_chkT, s_rdSl, s_wrSl, s_ldN, s_ldNM, s_ldNf, List.drop_zero, List.take_succ_cons, List.take_zero, List.take_nil, List.take_length, Nat.mul_one, List.flatten_cons, List.flatten_nil, List.append_nil, List.nil_append, List.cons_append]
    exact Ok_some.2 ⟨n - m * 2 ^ (j + 1), by omega, j + 1, by rw [hs]; simp, rfl, hj'⟩
  · have hc : n ≤ m * 2 ^ j := by omega
    generalize hv : m * 2 ^ j = v at *
    simp (config := { maxSteps := 2000000 }) -implicitDefEqProofs (disch := (first | omega | rfl | assumption | (simp only [put_next, bump_next, kill_next, List.length_cons, List.length_nil, List.mem_cons, List.not_mem_nil, or_false, not_false_eq_true]; first | omega | assumption))) only [frames_Frames__grow_L1, Nat.reduceAdd, Nat.reduceMul, Nat.reduceLT, Int.reduceToNat, Int.reduceAdd, Int.reduceSub, Int.reduceMul, s_beq, List.length_cons, List.length_nil, List.getD_cons_zero, List.getD_cons_succ, List.getElem?_cons_zero, List.getElem?_cons_succ, Option.bind_some, Option.bind_assoc, s_bindN, asI_i, asB_b, asS_s, asP_p, asPS_p, asSl_sl, s_agg, s_tup, s_fn, joinB, joinI, joinR, beq_true, beq_false, Bool.not_true, Bool.not_false, Bool.not_not, cond_true, cond_false, neI, s_mapS, bindS_inl, bindS_inr, Bool.and_true, Bool.true_and, Bool.and_false, Bool.false_and, s_isNoneS, s_isNoneN, s_ref, s_adv, s_ldf, s_ld, s_ldM, s_st, s_stM, s_bs, s_bn, s_pp, bump_blk, bump_next, put_next, splice_z, splice_zz, splice_s, s_decT, s_decF, s_eqT, s_eqF, s_i64, s_u64, s_u8, Int.toNat_natCast, Nat.zero_add, s_room, s_chkT, s_rdSl, s_wrSl, s_ldN, s_ldNM, s_ldNf, List.drop_zero, List.take_succ_cons, List.take_zero, List.take_nil, List.take_length, Nat.mul_one, List.flatten_cons, List.flatten_nil, List.append_nil, List.nil_append, List.cons_append]
    exact Ok_some.2 ⟨j, by rw [hv], by omega, hj⟩
section
variable {σ : AH O} {fb mb : Nat} {M : MemS} {S : FrmS} {w : List Int} {X : List Nat} (h : FrmAt σ fb mb M S w X) (hc : M.calm)
include h hc
theorem fgrow_ok {n : Nat} (hn : n ≤ 4194304) : Ok (frames_Frames__grow [.p (some (.n fb, 0)), .i .i64 (n : Int)] σ) fun r => r.1 = .i .i64 0 ∧ ∃ M' room' w', FrmAt r.2 fb mb M' { S with room := room' } w' X ∧ Rm S.room n room' ∧ Wrt M M' S.id w' 0 0 ∧ Keep X σ r.2 := by
  have hb := h.b
  simp only [FrmS.cells] at hb
  have hlt := h.lt
  have hwl := h.wle
  have hroom := h.room
  have hm : (if (32 : Int) > (S.room : Int) then (32 : Int) else (S.room : Int)) = ((max S.room 32 : Nat) : Int) := by split <;> omega
  simp (config := { maxSteps := 2000000 }) -implicitDefEqProofs (disch := (first | omega | rfl | assumption | (simp only [put_next, bump_next, kill_next, List.length_cons, List.length_nil, List.mem_cons, List.not_mem_nil, or_false, not_false_eq_true]; first | omega | assumption))) only [frames_Frames__grow, frames_Frames__grow_c, hb, hm, Nat.reduceAdd, Nat.reduceMul, Nat.reduceLT, Int.reduceToNat, Int.reduceAdd, Int.reduceSub, Int.reduceMul, s_beq, List.length_cons, List.length_nil, List.getD_cons_zero, List.getD_cons_succ, List.getElem?_cons_zero, List.getElem?_cons_succ, Option.bind_some, Option.bind_assoc, s_bindN, asI_i, asB_b, asS_s, asP_p, asPS_p, asSl_sl, s_agg, s_tup, s_fn, joinB, joinI, joinR, beq_true, beq_false, Bool.not_true, Bool.not_false, Bool.not_not, cond_true, cond_false, neI, s_mapS, bindS_inl, bindS_inr, Bool.and_true, Bool.true_and, Bool.and_false, Bool.false_and, s_isNoneS, s_isNoneN, s_ref, s_adv, s_ldf, s_ld, s_ldM, s_st, s_stM, s_bs, s_bn, s_pp, bump_blk, bump_next, put_next, splice_z, splice_zz, splice_s, s_decT, s_decF, s_eqT, s_eqF, s_i64, s_u64, s_u8, Int.toNat_natCast, Nat.zero_add, s_room, s_chkT, s_rdSl, s_wrSl, s_ldN, s_ldNM, s_ldNf, List.drop_zero, List.take_succ_cons, List.take_zero, List.take_nil, List.take_length, Nat.mul_one, List.flatten_cons, List.flatten_nil, List.append_nil, List.nil_append, List.cons_append]
  refine Ok.step (fgrow_loop (m := max S.room 32) (by omega) hn) ?_
  rintro _ ⟨j, rfl, g2, g3⟩
  have hR : Rm S.room n (max S.room 32 * 2 ^ j) := ⟨j, rfl, g2, g3⟩
  have hle : max S.room 32 * 2 ^ j ≤ 4194304 ∧ max S.room 32 ≤ max S.room 32 * 2 ^ j ∧ ∃ k : Nat, max S.room 32 * 2 ^ j = 32 * 2 ^ k ∧ k ≤ 17 := by
    obtain ⟨k, hk, hk'⟩ : ∃ k : Nat, max S.room 32 = 32 * 2 ^ k ∧ k ≤ 17 := by
      rcases h.pow with e | ⟨k, e, hk⟩
      · exact ⟨0, by omega, by omega⟩
      · refine ⟨k, ?_, hk⟩
        have := Nat.two_pow_pos k
        omega
    have hkj : k + j ≤ 17 := by
      cases j with
      | zero => omega
      | succ i =>
        have h1 := g3 i (by omega)
        rw [hk, Nat.mul_assoc, ← Nat.pow_add] at h1
        have h2 : 2 ^ (k + i) < 2 ^ 17 := by omega
        have := (Nat.pow_lt_pow_iff_right (by omega : 1 < 2)).1 h2
        omega
    have e : max S.room 32 * 2 ^ j = 32 * 2 ^ (k + j) := by rw [hk, Nat.mul_assoc, ← Nat.pow_add]
    refine ⟨?_, Nat.le_mul_of_pos_right _ (Nat.two_pow_pos j), k + j, e, hkj⟩
    rw [e]
    have := Nat.pow_le_pow_right (show 0 < 2 by omega) hkj
    omega
  generalize max S.room 32 * 2 ^ j = R at *
  by_cases e : R = S.room
  · have e1 : ((R : Int) == (S.room : Int)) = true := by simp [e]
    simp (config := { maxSteps := 2000000 }) -implicitDefEqProofs (disch := (first | omega | rfl | assumption | (simp only [put_next, bump_next, kill_next, List.length_cons, List.length_nil, List.mem_cons, List.not_mem_nil, or_false, not_false_eq_true]; first | omega | assumption))) only [hb, e1, Nat.reduceAdd, Nat.reduceMul, Nat.reduceLT, Int.reduceToNat, Int.reduceAdd, Int.reduceSub, Int.reduceMul, s_beq, List.length_cons, List.length_nil, List.getD_cons_zero, List.getD_cons_succ, List.getElem?_cons_zero, List.getElem?_cons_succ, Option.bind_some, Option.bind_assoc, s_bindN, asI_i, asB_b, asS_s, asP_p, asPS_p, asSl_sl, s_agg, s_tup, s_fn, joinB, joinI, joinR, beq_true, beq_false, Bool.not_true, Bool.not_false, Bool.not_not, cond_true, cond_false, neI, s_mapS, bindS_inl, bindS_inr, Bool.and_true, Bool.true_and, Bool.and_false, Bool.false_and, s_isNoneS, s_isNoneN, s_ref, s_adv, s_ldf, s_ld, s_ldM, s_st, s_stM, s_bs, s_bn, s_pp, bump_blk, bump_next, put_next, splice_z, splice_zz, splice_s, s_decT, s_decF, s_eqT, s_eqF, s_i64, s_u64, s_u8, Int.toNat_natCast, Nat.zero_add, s_room, s_chkT, s_rdSl, s_wrSl, s_ldN, s_ldNM, s_ldNf, List.drop_zero, List.take_succ_cons, List.take_zero, List.take_nil, List.take_length, Nat.mul_one, List.flatten_cons, List.flatten_nil, List.append_nil, List.nil_append, List.cons_append]
    refine Ok_some.2 ⟨rfl, M, R, w, ?_, hR, Wrt.refl h.now, Keep.refl _ _⟩
    rw [e]; exact h
  · have e1 : ((R : Int) == (S.room : Int)) = false := by simp; omega
    simp (config := { maxSteps := 2000000 }) -implicitDefEqProofs (disch := (first | omega | rfl | assumption | (simp only [put_next, bump_next, kill_next, List.length_cons, List.length_nil, List.mem_cons, List.not_mem_nil, or_false, not_false_eq_true]; first | omega | assumption))) only [hb, e1, Nat.reduceAdd, Nat.reduceMul, Nat.reduceLT, Int.reduceToNat, Int.reduceAdd, Int.reduceSub, Int.reduceMul, s_beq, List.length_cons, List.length_nil, List.getD_cons_zero, List.getD_cons_succ, List.getElem?_cons_zero, List.getElem?_cons_succ, Option.bind_some, Option.bind_assoc, s_bindN, asI_i, asB_b, asS_s, asP_p, asPS_p, asSl_sl, s_agg, s_tup, s_fn, joinB, joinI, joinR, beq_true, beq_false, Bool.not_true, Bool.not_false, Bool.not_not, cond_true, cond_false, neI, s_mapS, bindS_inl, bindS_inr, Bool.and_true, Bool.true_and, Bool.and_false, Bool.false_and, s_isNoneS, s_isNoneN, s_ref, s_adv, s_ldf, s_ld, s_ldM, s_st, s_stM, s_bs, s_bn, s_pp, bump_blk, bump_next, put_next, splice_z, splice_zz, splice_s, s_decT, s_decF, s_eqT, s_eqF, s_i64, s_u64, s_u8, Int.toNat_natCast, Nat.zero_add, s_room, s_chkT, s_rdSl, s_wrSl, s_ldN, s_ldNM, s_ldNf, List.drop_zero, List.take_succ_cons, List.take_zero, List.take_nil, List.take_length, Nat.mul_one, List.flatten_cons, List.flatten_nil, List.append_nil, List.nil_append, List.cons_append]
    refine Ok.step (growX h.mi hc h.now (n := (R : Int)) (by omega) (by omega)) fun r ⟨p1, M', p2, p3, p4⟩ => ?_
    obtain ⟨q, σ1⟩ := r
    simp only at p1 p2 p4
    subst p1
    have hb1 : σ1.blk fb = _ := p4.head.trans hb
    have e0 : ((0 : Int) != 0) = false := rfl
    simp (config := { maxSteps := 2000000 }) -implicitDefEqProofs (disch := (first | omega | rfl | assumption | (simp only [put_next, bump_next, kill_next, List.length_cons, List.length_nil, List.mem_cons, List.not_mem_nil, or_false, not_false_eq_true]; first | omega | assumption))) only [e0, hb1, Nat.reduceAdd, Nat.reduceMul, Nat.reduceLT, Int.reduceToNat, Int.reduceAdd, Int.reduceSub, Int.reduceMul, s_beq, List.length_cons, List.length_nil, List.getD_cons_zero, List.getD_cons_succ, List.getElem?_cons_zero, List.getElem?_cons_succ, Option.bind_some, Option.bind_assoc, s_bindN, asI_i, asB_b, asS_s, asP_p, asPS_p, asSl_sl, s_agg, s_tup, s_fn, joinB, joinI, joinR, beq_true, beq_false, Bool.not_true, Bool.not_false, Bool.not_not, cond_true, cond_false, neI, s_mapS, bindS_inl, bindS_inr, Bool.and_true, Bool.true_and, Bool.and_false, Bool.false_and, s_isNoneS, s_isNoneN, s_ref, s_adv, s_ldf, s_ld, s_ldM, s_st, s_stM, s_bs, s_bn, s_pp, bump_blk, bump_next, put_next, splice_z, splice_zz, splice_s, s_decT, s_decF, s_eqT, s_eqF, s_i64, s_u64, s_u8, Int.toNat_natCast, Nat.zero_add, s_room, s_chkT, s_rdSl, s_wrSl, s_ldN, s_ldNM, s_ldNf, List.drop_zero, List.take_succ_cons, List.take_zero, List.take_nil, List.take_length, Nat.mul_one, List.flatten_cons, List.flatten_nil, List.append_nil, List.nil_append, List.cons_append]
    rw [Int.toNat_natCast] at p3
    refine Ok_some.2 ⟨rfl, M', R, _, ⟨p2.put List.mem_cons_self _, s_bs, h.nx, p3.words h.now, by simp; omega, .inr hle.2.2, ?_, h.len⟩, hR, p3, p4.tail.trans (Keep.put h.nx _)⟩
    have hle := h.le
    rw [List.take_append_of_le_length hle]; exact h.pre
end
end Go.Abs.Try
