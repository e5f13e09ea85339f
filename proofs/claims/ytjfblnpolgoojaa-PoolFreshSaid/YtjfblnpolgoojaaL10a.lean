/-
  The statement PoolFresh: what is run returns true. No conditions.
-/
import Derived.Test.YtjfblnpolgoojaaM10d
set_option linter.unusedVariables false
set_option linter.unusedSimpArgs false
set_option linter.constructorNameAsVariable false
set_option linter.unusedSimpArgs false
set_option linter.unusedVariables false
set_option linter.unusedSectionVars false
set_option maxHeartbeats 2000000
namespace Go.Abs.Try
open Go Go.Abs
variable {O : Type}

/-! ### What is known of the numbers -/
abbrev Pr := Nat × Nat
def pc (p : Pr) : List AV := [.i .i64 ((p.1 : Int) + 1), .i .i64 (p.2 : Int)]
theorem pc_len (p : Pr) : (pc p).length = 2 := rfl
structure FrI (E : List PE) (taken : Nat) (I D : List Pr) : Prop where
  inn : ∀ p ∈ I, ∃ e, E[p.1]? = some e ∧ e.tk = true ∧ e.gen = p.2
  nd : (I.map (·.1)).Nodup
  cnt : taken = I.length
  old : ∀ p ∈ D, ∃ e, E[p.1]? = some e ∧ (p.2 < e.gen ∨ (p.2 = e.gen ∧ e.tk = true))
theorem FrI.took {S S' : PoolS} {i g : Nat} {I D : List Pr} (h : FrI S.E S.taken I D) (t : Took S S' i g) : (∀ p ∈ I, p.1 ≠ i) ∧ (∀ p ∈ D, p ≠ (i, g)) ∧ FrI S'.E S'.taken (I ++ [(i, g)]) (D ++ [(i, g)]) := by
  have h1 : ∀ p ∈ I, p.1 ≠ i := fun p hp e => by
    obtain ⟨x, k1, k2, _⟩ := h.inn p hp
    rw [e] at k1
    rw [(t.was x k1).1] at k2; cases k2
  have h2 : ∀ p ∈ D, p.1 = i → p.2 < g := fun p hp e => by
    obtain ⟨x, k1, k2⟩ := h.old p hp
    rw [e] at k1
    obtain ⟨q1, q2⟩ := t.was x k1
    rcases k2 with k2 | ⟨_, k2⟩
    · omega
    · rw [q1] at k2; cases k2
  refine ⟨h1, fun p hp e => by have := h2 p hp (by rw [e]); rw [e] at this; exact Nat.lt_irrefl _ this, ⟨fun p hp => ?_, ?_, by rw [t.taken, h.cnt]; simp, fun p hp => ?_⟩⟩
  · rcases List.mem_append.1 hp with hp | hp
    · rw [t.other _ (h1 p hp)]; exact h.inn p hp
    · simp at hp; subst hp; exact ⟨_, t.now, rfl, rfl⟩
  · rw [List.map_append, List.nodup_append]
    refine ⟨h.nd, by simp, fun a ha b hb e => ?_⟩
    simp at hb
    obtain ⟨p, hp, rfl⟩ := List.mem_map.1 ha
    exact h1 p hp (e.trans hb)
  · rcases List.mem_append.1 hp with hp | hp
    · by_cases e : p.1 = i
      · rw [e]; exact ⟨_, t.now, .inl (h2 p hp e)⟩
      · rw [t.other _ e]; exact h.old p hp
    · simp at hp; subst hp; exact ⟨_, t.now, .inr ⟨rfl, rfl⟩⟩
/-- an entry has other words -/
theorem FrI.set {E : List PE} {taken : Nat} {I D : List Pr} (h : FrI E taken I D) {i : Nat} {e e' : PE} (he : E[i]? = some e) (h1 : e'.tk = e.tk) (h2 : e'.gen = e.gen) : FrI (E.set i e') taken I D := by
  have hi := (List.getElem?_eq_some_iff.1 he).1
  have key : ∀ (j : Nat) (x : PE), E[j]? = some x → ∃ y, (E.set i e')[j]? = some y ∧ y.tk = x.tk ∧ y.gen = x.gen := fun j x hx => by
    rw [List.getElem?_set]
    by_cases e : i = j
    · subst e
      rw [he] at hx; cases hx
      exact ⟨e', by simp [hi], h1, h2⟩
    · rw [if_neg e]; exact ⟨x, hx, rfl, rfl⟩
  refine ⟨fun p hp => ?_, h.nd, h.cnt, fun p hp => ?_⟩
  · obtain ⟨x, k1, k2, k3⟩ := h.inn p hp
    obtain ⟨y, m1, m2, m3⟩ := key _ x k1
    exact ⟨y, m1, m2.trans k2, m3.trans k3⟩
  · obtain ⟨x, k1, k2⟩ := h.old p hp
    obtain ⟨y, m1, m2, m3⟩ := key _ x k1
    exact ⟨y, m1, by rw [m2, m3]; exact k2⟩
theorem FrI.give {E : List PE} {taken : Nat} {I D : List Pr} (h : FrI E taken I D) {k i : Nat} {g : Nat} {ws : List Int} (hk : I[k]? = some (i, g)) : FrI (E.set i ⟨false, g + 1, ws⟩) (taken - 1) (I.take k ++ I.drop (k + 1)) D := by
  have hkl := (List.getElem?_eq_some_iff.1 hk).1
  obtain ⟨e, he, htk, hg⟩ := h.inn _ (List.mem_of_getElem? hk)
  simp only at he hg
  have hi := (List.getElem?_eq_some_iff.1 he).1
  have hI : I = I.take k ++ (i, g) :: I.drop (k + 1) := by
    have : I[k] = (i, g) := (List.getElem?_eq_some_iff.1 hk).2
    rw [← this, ← List.drop_eq_getElem_cons hkl, List.take_append_drop]
  have hnd := h.nd
  rw [hI, List.map_append, List.map_cons, List.nodup_append] at hnd
  obtain ⟨n1, n2, n3⟩ := hnd
  have hne : ∀ p ∈ I.take k ++ I.drop (k + 1), p.1 ≠ i := fun p hp e => by
    rcases List.mem_append.1 hp with hp | hp
    · exact n3 p.1 (List.mem_map.2 ⟨p, hp, rfl⟩) i (by simp) e
    · exact (List.nodup_cons.1 n2).1 (List.mem_map.2 ⟨p, hp, e⟩)
  have hsub : ∀ p ∈ I.take k ++ I.drop (k + 1), p ∈ I := fun p hp => by
    rcases List.mem_append.1 hp with hp | hp
    · exact List.mem_of_mem_take hp
    · exact List.mem_of_mem_drop hp
  refine ⟨fun p hp => ?_, ?_, ?_, fun p hp => ?_⟩
  · rw [List.getElem?_set, if_neg (fun e => hne p hp e.symm)]
    exact h.inn p (hsub p hp)
  · rw [List.map_append, List.nodup_append]
    exact ⟨n1, (List.nodup_cons.1 n2).2, fun a ha b hb => n3 a ha b (List.mem_cons_of_mem _ hb)⟩
  · rw [h.cnt, List.length_append, List.length_take, List.length_drop]; omega
  · obtain ⟨x, k1, k2⟩ := h.old p hp
    rw [List.getElem?_set]
    by_cases e1 : i = p.1
    · subst e1
      rw [he] at k1; cases k1
      exact ⟨_, by rw [if_pos rfl, if_pos hi], .inl (by show p.2 < g + 1; omega)⟩
    · rw [if_neg e1]; exact ⟨x, k1, k2⟩

/-! ### The calls -/
structure POp where
  kind : Int
  id : Int
  word : Int
  w : Int
def POp.cells (o : POp) : List AV := [.i .i64 o.kind, .i .i64 o.id, .i .i64 o.word, .i .u64 o.w]
theorem POp.len (o : POp) : o.cells.length = 4 := rfl
structure POp.rng (o : POp) : Prop where
  kind : -9223372036854775808 ≤ o.kind ∧ o.kind ≤ 9223372036854775807
  id : -9223372036854775808 ≤ o.id ∧ o.id ≤ 9223372036854775807
  word : -9223372036854775808 ≤ o.word ∧ o.word ≤ 9223372036854775807
  w : 0 ≤ o.w ∧ o.w < 18446744073709551616
theorem popsOf {sa : SA} {els : List (List AV)} (hrow : ∀ el ∈ els, ∃ ns : List Int, el = List.zipWith AV.i [.i64, .i64, .i64, .u64] ns ∧ ns.length = 4 ∧ ∀ (i : Nat) (k : IntKind) (n : Int), ([.i64, .i64, .i64, .u64] : List IntKind)[i]? = some k → ns[i]? = some n → k.min ≤ n ∧ n ≤ k.max)
    (himm : Imm 4 sa els.length els.flatten) : ∃ ops : List POp, els.length = ops.length ∧ Imm 4 sa ops.length (ops.flatMap POp.cells) ∧ ∀ o ∈ ops, o.rng := by
  have : ∃ ops : List POp, els = ops.map POp.cells ∧ ∀ o ∈ ops, o.rng := by
    clear himm
    induction els with
    | nil => exact ⟨[], rfl, by simp⟩
    | cons el els ih =>
      obtain ⟨ops, e, hr⟩ := ih fun x hx => hrow x (List.mem_cons_of_mem _ hx)
      obtain ⟨ns, rfl, hl, hn⟩ := hrow el List.mem_cons_self
      match ns, hl with
      | [a, b, c, d], _ =>
        refine ⟨⟨a, b, c, d⟩ :: ops, by rw [e]; rfl, fun o ho => ?_⟩
        rcases List.mem_cons.1 ho with rfl | ho
        · exact ⟨wf_i64 (hn 0 _ _ rfl rfl), wf_i64 (hn 1 _ _ rfl rfl), wf_i64 (hn 2 _ _ rfl rfl), wf_u64 (hn 3 _ _ rfl rfl)⟩
        · exact hr o ho
  obtain ⟨ops, rfl, hr⟩ := this
  exact ⟨ops, by simp, by simpa [List.flatMap_def] using himm, hr⟩
/-- between two calls -/
structure FrAt (σ : AH O) (pb mb : Nat) (M : MemS) (S : PoolS) (w : List Int) (ai ad : SA) (I D : List Pr) (k : Nat) : Prop where
  p : PoolAt σ pb mb M S w (SA.bk ai ++ SA.bk ad)
  words : S.words = 2
  oi : OwnS σ 23 2 ai I.length (I.flatMap pc)
  od : OwnS σ 23 2 ad D.length (D.flatMap pc)
  ap : ∀ b ∈ SA.bk ai, b ∉ SA.bk ad
  fr : FrI S.E S.taken I D
  e : S.E.length ≤ k
  room : S.room ≤ 160
  gen : ∀ x ∈ S.E, x.gen ≤ k
  dl : D.length ≤ k
  r : M.met.r ≤ 20 * k
  wm : M.met.w ≤ 20 * k

theorem fm_take {α : Type} {enc : α → List AV} {k : Nat} (hk : ∀ x, (enc x).length = k) : ∀ (l : List α) (n : Nat), (l.flatMap enc).take (n * k) = (l.take n).flatMap enc
  | [], n => by simp
  | x :: l, 0 => by simp
  | x :: l, n + 1 => by
    simp only [List.flatMap_cons, List.take_succ_cons]
    rw [Nat.succ_mul, Nat.add_comm, List.take_append, hk, List.take_of_length_le (by rw [hk]; omega), Nat.add_sub_cancel_left, fm_take hk l n]
theorem fm_drop {α : Type} {enc : α → List AV} {k : Nat} (hk : ∀ x, (enc x).length = k) : ∀ (l : List α) (n : Nat), (l.flatMap enc).drop (n * k) = (l.drop n).flatMap enc
  | [], n => by simp
  | x :: l, 0 => by simp
  | x :: l, n + 1 => by
    simp only [List.flatMap_cons, List.drop_succ_cons]
    rw [Nat.succ_mul, Nat.add_comm, List.drop_append, hk, List.drop_eq_nil_of_le (by rw [hk]; omega), Nat.add_sub_cancel_left, fm_drop hk l n, List.nil_append]
theorem tmod_rng {a n : Int} (hn : 0 < n) : -n < Int.tmod a n ∧ Int.tmod a n < n := by
  have h1 := Int.tmod_lt_of_pos a hn
  have h2 := Int.tmod_lt_of_pos (-a) hn
  rw [Int.neg_tmod] at h2
  omega
section
variable {σ : AH O} {pb mb : Nat} {M : MemS} {S : PoolS} {w : List Int} {ai ad : SA} {I D : List Pr} {k : Nat} (h : FrAt σ pb mb M S w ai ad I D k) (hk : k < 80)
include h hk
theorem FrAt.calm : M.calm := ⟨by have := h.r; omega, by have := h.wm; omega⟩
theorem FrAt.m100 : M.met.r + 100 < 85070591730234615865843651857942052864 ∧ M.met.w + 100 < 85070591730234615865843651857942052864 := by have := h.r; have := h.wm; omega
/-- one goes -/
theorem fresh_give {so : SA} {n : Nat} {x : POp} {b : Bid} {o : Nat} (hx : x.rng) (hkn : k < n) (hso : so = .loc b o 4) (ld0 : ∀ σ : AH O, σ.ld b (o + k * 4) = some (.i .i64 x.kind)) (ld1 : ∀ σ : AH O, σ.ld b (o + k * 4 + 1) = some (.i .i64 x.id)) (ld3 : ∀ σ : AH O, σ.ld b (o + k * 4 + 3) = some (.i .u64 x.w))
    (hc0 : x.kind ≠ 0) (hI : I.length ≠ 0) : Ok (law10_PoolFresh_L1 (so, n) pool_Pool__Set (some (.n pb, 0)) pool_Pool__Give pool_Pool__Take pool_Pool__Get pool_Pool__Gen ([.sl ai I.length, .sl ad D.length, .i .i64 (k : Int)], σ)) fun r =>
      ∃ σ' M' S' w' ai' I', r = .inl ([.sl ai' I'.length, .sl ad D.length, .i .i64 ((k + 1 : Nat) : Int)], σ') ∧ FrAt σ' pb mb M' S' w' ai' ad I' D (k + 1) := by
  subst hso
  have hI2 : I.length ≤ 80 := by
    have := h.fr.cnt
    have h1 := h.p.p.cnt
    have h2 := List.countP_le_length (p := fun x : PE => x.tk) (l := S.E)
    have := h.e
    omega
  obtain ⟨t1, t2⟩ := tmod_rng (a := x.id) (show (0 : Int) < I.length by omega)
  obtain ⟨K, hK, hKl⟩ : ∃ K : Nat, Int.tmod (Int.tmod x.id (I.length : Int) + (I.length : Int)) (I.length : Int) = (K : Int) ∧ K < I.length := by
    rw [Int.tmod_eq_emod_of_nonneg (by omega)]
    have g1 := Int.emod_nonneg (Int.tmod x.id (I.length : Int) + (I.length : Int)) (show (I.length : Int) ≠ 0 by omega)
    have g2 := Int.emod_lt_of_pos (Int.tmod x.id (I.length : Int) + (I.length : Int)) (show (0 : Int) < I.length by omega)
    exact ⟨_, (Int.toNat_of_nonneg g1).symm, by omega⟩
  have hp := List.getElem?_eq_getElem hKl
  generalize hpp : I[K] = p at hp
  obtain ⟨i, g⟩ := p
  obtain ⟨e, he, htk, hg⟩ := h.fr.inn _ (List.mem_of_getElem? hp)
  simp only at he hg
  have hiE := (List.getElem?_eq_some_iff.1 he).1
  have hele := h.e
  obtain ⟨kb, rfl, hkb, hkl⟩ := h.oi.loc hI
  have g0 := fm_get' pc_len (j := 0) (by omega) hp
  simp only [pc, List.getElem?_cons_zero, Nat.add_zero] at g0
  have hfl := fm_len pc_len I
  have d0 := ld0
  have i1 := decide_eq_true (show (0 : Int) ≤ (k : Int) by omega)
  have e0 : (x.kind != 0) = true := by simp [hc0]
  have hz : ((I.length : Int) == 0) = false := beq_eq_false_iff_ne.2 (by omega)
  simp (config := { maxSteps := 2000000 }) -implicitDefEqProofs (disch := (first | omega | rfl | assumption | (simp only [put_next, bump_next, kill_next, List.length_cons, List.length_nil, List.mem_cons, List.not_mem_nil, or_false, not_false_eq_true]; first | omega | assumption))) only [law10_PoolFresh_L1, ld0, ld1, ld3, e0, hz, hK, hkb, g0, Nat.reduceAdd, Nat.reduceMul, Nat.reduceLT, Int.reduceToNat, Int.reduceAdd, Int.reduceSub, Int.reduceMul, s_beq, List.length_cons, List.length_nil, List.getD_cons_zero, List.getD_cons_succ, List.getElem?_cons_zero, List.getElem?_cons_succ, Option.bind_some, Option.bind_assoc, s_bindN, asI_i, asB_b, asS_s, asP_p, asPS_p, asSl_sl, s_agg, s_tup, s_fn, joinB, joinI, joinR, beq_true, beq_false, Bool.not_true, Bool.not_false, Bool.not_not, cond_true, cond_false, neI, s_mapS, bindS_inl, bindS_inr, Bool.and_true, Bool.true_and, Bool.and_false, Bool.false_and, s_isNoneS, s_isNoneN, s_ref, s_adv, s_ldf, s_ld, s_ldM, s_st, s_stM, s_bs, s_bn, s_pp, bump_blk, bump_next, put_next, splice_z, splice_zz, splice_s, s_decT, s_decF, s_eqT, s_eqF, s_i64, s_u64, s_u8, Int.toNat_natCast, Nat.zero_add, s_room, s_chkT, s_rdSl, s_wrSl, s_ldN, s_ldNM, s_ldNf, List.drop_zero, List.take_succ_cons, List.take_zero, List.take_nil, List.take_length, Nat.mul_one, List.flatten_cons, List.flatten_nil, List.append_nil, List.nil_append, List.cons_append]
  refine Ok.bindS (Q := fun r => ∃ σ' M' S' w' ai' I', r = .inl ([.sl ai' I'.length, .sl ad D.length], σ') ∧ FrAt σ' pb mb M' S' w' ai' ad I' D (k + 1)) ?_ ?_ (fun r h => by obtain ⟨_, _, _, _, _, _, e, _⟩ := h; cases e)
  · have ps := pset_ok h.p (h.calm hk) (k := 0) (x := x.w) he htk (by rw [h.words]; decide) (h.m100 hk).1
    rw [show ((0 : Nat) : Int) = 0 from rfl] at ps
    refine Ok.step ps fun q ⟨p1, M1, w1, p2, p3, p4⟩ => ?_
    obtain ⟨q, σ1⟩ := q
    simp only at p1 p2 p4
    subst p1
    have r1 := p3.r
    have t1 := p3.w
    have hr := h.r
    have hwm := h.wm
    have hkb1 : σ1.blk kb = _ := (p4.blk kb (by simp [SA.bk])).trans hkb
    have he1 : (S.E.set i { e with ws := e.ws.set 0 x.w })[i]? = some { e with ws := e.ws.set 0 x.w } := by rw [List.getElem?_set]; simp [hiE]
    have hge := h.gen e (List.mem_of_getElem? he)
    simp (config := { maxSteps := 2000000 }) -implicitDefEqProofs (disch := (first | omega | rfl | assumption | (simp only [put_next, bump_next, kill_next, List.length_cons, List.length_nil, List.mem_cons, List.not_mem_nil, or_false, not_false_eq_true]; first | omega | assumption))) only [hkb1, g0, Nat.reduceAdd, Nat.reduceMul, Nat.reduceLT, Int.reduceToNat, Int.reduceAdd, Int.reduceSub, Int.reduceMul, s_beq, List.length_cons, List.length_nil, List.getD_cons_zero, List.getD_cons_succ, List.getElem?_cons_zero, List.getElem?_cons_succ, Option.bind_some, Option.bind_assoc, s_bindN, asI_i, asB_b, asS_s, asP_p, asPS_p, asSl_sl, s_agg, s_tup, s_fn, joinB, joinI, joinR, beq_true, beq_false, Bool.not_true, Bool.not_false, Bool.not_not, cond_true, cond_false, neI, s_mapS, bindS_inl, bindS_inr, Bool.and_true, Bool.true_and, Bool.and_false, Bool.false_and, s_isNoneS, s_isNoneN, s_ref, s_adv, s_ldf, s_ld, s_ldM, s_st, s_stM, s_bs, s_bn, s_pp, bump_blk, bump_next, put_next, splice_z, splice_zz, splice_s, s_decT, s_decF, s_eqT, s_eqF, s_i64, s_u64, s_u8, Int.toNat_natCast, Nat.zero_add, s_room, s_chkT, s_rdSl, s_wrSl, s_ldN, s_ldNM, s_ldNf, List.drop_zero, List.take_succ_cons, List.take_zero, List.take_nil, List.take_length, Nat.mul_one, List.flatten_cons, List.flatten_nil, List.append_nil, List.nil_append, List.cons_append]
    refine Ok.step (pgive_ok p2 ⟨by omega, by omega⟩ he1 htk (by simp only; omega) ⟨by omega, by omega⟩) fun q ⟨q1, M2, w2, q2, q3, q4⟩ => ?_
    obtain ⟨q, σ2⟩ := q
    simp only at q1 q2 q4
    subst q1
    have r2 := q3.r
    have t2 := q3.w
    have hkb2 : σ2.blk kb = _ := (q4.blk kb (by simp [SA.bk])).trans hkb1
    have hkl2 : kb < σ2.next := by have := p4.next; have := q4.next; omega
    have e00 : ((0 : Int) != 0) = false := rfl
    have ad0 : ∀ b ∈ SA.bk ad, b < σ2.next ∧ σ2.blk b = σ.blk b := fun b hb => ⟨by have := h.od.lt b hb; have := p4.next; have := q4.next; omega, (q4.blk b (by simp [hb])).trans (p4.blk b (by simp [hb]))⟩
    have tk1 := fm_take pc_len I K
    have dr1 := fm_drop pc_len I (K + 1)
    have tk2 : ((I.drop (K + 1)).flatMap pc).take ((I.length - (K + 1)) * 2) = (I.drop (K + 1)).flatMap pc := List.take_of_length_le (by rw [fm_len pc_len, List.length_drop]; exact Nat.le_refl _)
    have tn : ((K : Int) + 1).toNat = K + 1 := by omega
    simp (config := { maxSteps := 2000000 }) -implicitDefEqProofs (disch := (first | omega | rfl | assumption | (simp only [put_next, bump_next, kill_next, List.length_cons, List.length_nil, List.mem_cons, List.not_mem_nil, or_false, not_false_eq_true]; first | omega | assumption))) only [e00, hkb2, hfl, tk1, Nat.sub_zero, Nat.zero_mul, Nat.reduceAdd, Nat.reduceMul, Nat.reduceLT, Int.reduceToNat, Int.reduceAdd, Int.reduceSub, Int.reduceMul, s_beq, List.length_cons, List.length_nil, List.getD_cons_zero, List.getD_cons_succ, List.getElem?_cons_zero, List.getElem?_cons_succ, Option.bind_some, Option.bind_assoc, s_bindN, asI_i, asB_b, asS_s, asP_p, asPS_p, asSl_sl, s_agg, s_tup, s_fn, joinB, joinI, joinR, beq_true, beq_false, Bool.not_true, Bool.not_false, Bool.not_not, cond_true, cond_false, neI, s_mapS, bindS_inl, bindS_inr, Bool.and_true, Bool.true_and, Bool.and_false, Bool.false_and, s_isNoneS, s_isNoneN, s_ref, s_adv, s_ldf, s_ld, s_ldM, s_st, s_stM, s_bs, s_bn, s_pp, bump_blk, bump_next, put_next, splice_z, splice_zz, splice_s, s_decT, s_decF, s_eqT, s_eqF, s_i64, s_u64, s_u8, Int.toNat_natCast, Nat.zero_add, s_room, s_chkT, s_rdSl, s_wrSl, s_ldN, s_ldNM, s_ldNf, List.drop_zero, List.take_succ_cons, List.take_zero, List.take_nil, List.take_length, Nat.mul_one, List.flatten_cons, List.flatten_nil, List.append_nil, List.nil_append, List.cons_append]
    generalize hσ : (σ2.bump 3).put σ2.next (.cells true _ []) = σ3
    have n3 : σ3.next = σ2.next + 3 := by rw [← hσ]; rfl
    have b3 : σ3.blk σ2.next = some (.cells true 23 []) := by rw [← hσ]; exact s_bs
    have o3 : ∀ b, b ≠ σ2.next → σ3.blk b = σ2.blk b := fun b hb => by rw [← hσ]; exact s_bn hb
    clear hσ
    have own3 : OwnS σ3 23 2 (.loc (.n σ2.next) 0 2) 0 [] := OwnS.new rfl b3 (by omega)
    refine Ok.step (app_ok (nid := σ2.next + 1) own3 (by simp [SA.bk]) (by omega) (show ((I.take K).flatMap pc).length = K * 2 by rw [fm_len pc_len, List.length_take, Nat.min_eq_left (by omega)])) fun q ⟨a1, m1, m2, m3, m4, m5⟩ => ?_
    obtain ⟨q, σ4⟩ := q
    simp only at m1 m2 m3 m4
    subst m1
    have hkb4 : σ4.blk kb = _ := (m4 kb (by omega) (by simp [SA.bk]; omega)).trans ((o3 kb (by omega)).trans hkb2)
    simp (config := { maxSteps := 2000000 }) -implicitDefEqProofs (disch := (first | omega | rfl | assumption | (simp only [put_next, bump_next, kill_next, List.length_cons, List.length_nil, List.mem_cons, List.not_mem_nil, or_false, not_false_eq_true]; first | omega | assumption))) only [hkb4, hfl, tn, dr1, tk2, Nat.zero_add, Nat.reduceAdd, Nat.reduceMul, Nat.reduceLT, Int.reduceToNat, Int.reduceAdd, Int.reduceSub, Int.reduceMul, s_beq, List.length_cons, List.length_nil, List.getD_cons_zero, List.getD_cons_succ, List.getElem?_cons_zero, List.getElem?_cons_succ, Option.bind_some, Option.bind_assoc, s_bindN, asI_i, asB_b, asS_s, asP_p, asPS_p, asSl_sl, s_agg, s_tup, s_fn, joinB, joinI, joinR, beq_true, beq_false, Bool.not_true, Bool.not_false, Bool.not_not, cond_true, cond_false, neI, s_mapS, bindS_inl, bindS_inr, Bool.and_true, Bool.true_and, Bool.and_false, Bool.false_and, s_isNoneS, s_isNoneN, s_ref, s_adv, s_ldf, s_ld, s_ldM, s_st, s_stM, s_bs, s_bn, s_pp, bump_blk, bump_next, put_next, splice_z, splice_zz, splice_s, s_decT, s_decF, s_eqT, s_eqF, s_i64, s_u64, s_u8, Int.toNat_natCast, Nat.zero_add, s_room, s_chkT, s_rdSl, s_wrSl, s_ldN, s_ldNM, s_ldNf, List.drop_zero, List.take_succ_cons, List.take_zero, List.take_nil, List.take_length, Nat.mul_one, List.flatten_cons, List.flatten_nil, List.append_nil, List.nil_append, List.cons_append]
    rw [Nat.zero_add, List.nil_append] at m2
    refine Ok.step (app_ok (nid := σ2.next + 1 + 1) m2 (fun hm => by have := m5 _ hm; omega) (by omega) (show ((I.drop (K + 1)).flatMap pc).length = (I.length - (K + 1)) * 2 by rw [fm_len pc_len, List.length_drop])) fun q ⟨a2, l1, l2, l3, l4, l5⟩ => ?_
    obtain ⟨q, σ5⟩ := q
    simp only at l1 l2 l3 l4
    subst l1
    simp (config := { maxSteps := 2000000 }) -implicitDefEqProofs (disch := (first | omega | rfl | assumption | (simp only [put_next, bump_next, kill_next, List.length_cons, List.length_nil, List.mem_cons, List.not_mem_nil, or_false, not_false_eq_true]; first | omega | assumption))) only [Nat.reduceAdd, Nat.reduceMul, Nat.reduceLT, Int.reduceToNat, Int.reduceAdd, Int.reduceSub, Int.reduceMul, s_beq, List.length_cons, List.length_nil, List.getD_cons_zero, List.getD_cons_succ, List.getElem?_cons_zero, List.getElem?_cons_succ, Option.bind_some, Option.bind_assoc, s_bindN, asI_i, asB_b, asS_s, asP_p, asPS_p, asSl_sl, s_agg, s_tup, s_fn, joinB, joinI, joinR, beq_true, beq_false, Bool.not_true, Bool.not_false, Bool.not_not, cond_true, cond_false, neI, s_mapS, bindS_inl, bindS_inr, Bool.and_true, Bool.true_and, Bool.and_false, Bool.false_and, s_isNoneS, s_isNoneN, s_ref, s_adv, s_ldf, s_ld, s_ldM, s_st, s_stM, s_bs, s_bn, s_pp, bump_blk, bump_next, put_next, splice_z, splice_zz, splice_s, s_decT, s_decF, s_eqT, s_eqF, s_i64, s_u64, s_u8, Int.toNat_natCast, Nat.zero_add, s_room, s_chkT, s_rdSl, s_wrSl, s_ldN, s_ldNM, s_ldNf, List.drop_zero, List.take_succ_cons, List.take_zero, List.take_nil, List.take_length, Nat.mul_one, List.flatten_cons, List.flatten_nil, List.append_nil, List.nil_append, List.cons_append]
    have hIl : K + (I.length - (K + 1)) = (I.take K ++ I.drop (K + 1)).length := by rw [List.length_append, List.length_take, List.length_drop]; omega
    rw [← List.flatMap_append, hIl] at l2
    rw [hIl]
    have ext5 : Ext σ2 σ5 := ⟨by omega, fun b hb => (l4 b (by omega) (fun hm => by have := m5 b hm; omega)).trans ((m4 b (by omega) (by simp [SA.bk]; omega)).trans (o3 b (by omega)))⟩
    have hfr := (h.fr.set he (e' := { e with ws := e.ws.set 0 x.w }) rfl rfl).give (ws := (e.ws.set 0 x.w).set 0 (hd S.free)) hp
    refine Ok_some.2 ⟨σ5, M2, _, w2, a2, _, rfl, ⟨q2.turn (L := []) ext5.chg (by simp) fun b hb => ?_, h.words, l2, h.od.of (by have := p4.next; have := q4.next; have := ext5.next; omega) fun b hb => (ext5.blk b (ad0 b hb).1).trans (ad0 b hb).2, fun b hb hb2 => ?_, ?_, ?_, h.room, fun y hy => ?_, by have := h.dl; omega, by omega, by omega⟩⟩
    · rcases List.mem_append.1 hb with hb | hb
      · have := l5 b hb; exact .inr (by omega)
      · exact .inl (List.mem_append_right _ hb)
    · have := l5 b hb; have := (ad0 b hb2).1; omega
    · rw [← hg] at hfr; exact hfr
    · simp only [List.length_set]; omega
    · simp only at hy
      rcases mem_set' hy with rfl | hy
      · simp only; omega
      · rcases mem_set' hy with rfl | hy
        · simp only; omega
        · have := h.gen y hy; omega
  · rintro _ ⟨σ', M', S', w', ai', I', e, h'⟩
    cases e
    simp (config := { maxSteps := 2000000 }) -implicitDefEqProofs (disch := (first | omega | rfl | assumption | (simp only [put_next, bump_next, kill_next, List.length_cons, List.length_nil, List.mem_cons, List.not_mem_nil, or_false, not_false_eq_true]; first | omega | assumption))) only [Nat.reduceAdd, Nat.reduceMul, Nat.reduceLT, Int.reduceToNat, Int.reduceAdd, Int.reduceSub, Int.reduceMul, s_beq, List.length_cons, List.length_nil, List.getD_cons_zero, List.getD_cons_succ, List.getElem?_cons_zero, List.getElem?_cons_succ, Option.bind_some, Option.bind_assoc, s_bindN, asI_i, asB_b, asS_s, asP_p, asPS_p, asSl_sl, s_agg, s_tup, s_fn, joinB, joinI, joinR, beq_true, beq_false, Bool.not_true, Bool.not_false, Bool.not_not, cond_true, cond_false, neI, s_mapS, bindS_inl, bindS_inr, Bool.and_true, Bool.true_and, Bool.and_false, Bool.false_and, s_isNoneS, s_isNoneN, s_ref, s_adv, s_ldf, s_ld, s_ldM, s_st, s_stM, s_bs, s_bn, s_pp, bump_blk, bump_next, put_next, splice_z, splice_zz, splice_s, s_decT, s_decF, s_eqT, s_eqF, s_i64, s_u64, s_u8, Int.toNat_natCast, Nat.zero_add, s_room, s_chkT, s_rdSl, s_wrSl, s_ldN, s_ldNM, s_ldNf, List.drop_zero, List.take_succ_cons, List.take_zero, List.take_nil, List.take_length, Nat.mul_one, List.flatten_cons, List.flatten_nil, List.append_nil, List.nil_append, List.cons_append]
    exact Ok_some.2 ⟨σ', M', S', w', ai', I', by simp, h'⟩
/-- one comes -/
theorem fresh_take {so : SA} {n : Nat} {x : POp} {b : Bid} {o : Nat} (hx : x.rng) (hkn : k < n) (hso : so = .loc b o 4) (ld0 : ∀ σ : AH O, σ.ld b (o + k * 4) = some (.i .i64 x.kind)) (ld3 : ∀ σ : AH O, σ.ld b (o + k * 4 + 3) = some (.i .u64 x.w))
    (hc0 : x.kind = 0 ∨ I.length = 0) : Ok (law10_PoolFresh_L1 (so, n) pool_Pool__Set (some (.n pb, 0)) pool_Pool__Give pool_Pool__Take pool_Pool__Get pool_Pool__Gen ([.sl ai I.length, .sl ad D.length, .i .i64 (k : Int)], σ)) fun r =>
      ∃ σ' M' S' w' ai' ad' I' D', r = .inl ([.sl ai' I'.length, .sl ad' D'.length, .i .i64 ((k + 1 : Nat) : Int)], σ') ∧ FrAt σ' pb mb M' S' w' ai' ad' I' D' (k + 1) := by
  subst hso
  have hI2 : I.length ≤ 80 := by
    have := h.fr.cnt
    have h1 := h.p.p.cnt
    have h2 := List.countP_le_length (p := fun x : PE => x.tk) (l := S.E)
    have := h.e
    omega
  have hele := h.e
  have hrm := h.room
  have hwd := h.words
  have hr := h.r
  have hwm := h.wm
  have hmore : S.more ≤ 160 := by
    have := h.p.p.made
    unfold PoolS.more; split <;> omega
  have hcond : (bif !(x.kind == 0) then decide ((I.length : Int) > 0) else false) = false := by
    rcases hc0 with c | c
    · rw [c]; rfl
    · rw [c]; cases (x.kind == 0) <;> rfl
  simp (config := { maxSteps := 2000000 }) -implicitDefEqProofs (disch := (first | omega | rfl | assumption | (simp only [put_next, bump_next, kill_next, List.length_cons, List.length_nil, List.mem_cons, List.not_mem_nil, or_false, not_false_eq_true]; first | omega | assumption))) only [law10_PoolFresh_L1, ld0, ld3, hcond, Nat.reduceAdd, Nat.reduceMul, Nat.reduceLT, Int.reduceToNat, Int.reduceAdd, Int.reduceSub, Int.reduceMul, s_beq, List.length_cons, List.length_nil, List.getD_cons_zero, List.getD_cons_succ, List.getElem?_cons_zero, List.getElem?_cons_succ, Option.bind_some, Option.bind_assoc, s_bindN, asI_i, asB_b, asS_s, asP_p, asPS_p, asSl_sl, s_agg, s_tup, s_fn, joinB, joinI, joinR, beq_true, beq_false, Bool.not_true, Bool.not_false, Bool.not_not, cond_true, cond_false, neI, s_mapS, bindS_inl, bindS_inr, Bool.and_true, Bool.true_and, Bool.and_false, Bool.false_and, s_isNoneS, s_isNoneN, s_ref, s_adv, s_ldf, s_ld, s_ldM, s_st, s_stM, s_bs, s_bn, s_pp, bump_blk, bump_next, put_next, splice_z, splice_zz, splice_s, s_decT, s_decF, s_eqT, s_eqF, s_i64, s_u64, s_u8, Int.toNat_natCast, Nat.zero_add, s_room, s_chkT, s_rdSl, s_wrSl, s_ldN, s_ldNM, s_ldNf, List.drop_zero, List.take_succ_cons, List.take_zero, List.take_nil, List.take_length, Nat.mul_one, List.flatten_cons, List.flatten_nil, List.append_nil, List.nil_append, List.cons_append]
  refine Ok.bindS (Q := fun r => ∃ σ' M' S' w' ai' ad' I' D', r = .inl ([.sl ai' I'.length, .sl ad' D'.length], σ') ∧ FrAt σ' pb mb M' S' w' ai' ad' I' D' (k + 1)) ?_ ?_ (fun r h => by obtain ⟨_, _, _, _, _, _, _, _, e, _⟩ := h; cases e)
  · refine Ok.step (ptake_any h.p (h.calm hk) (by omega) (by rw [hwd]; omega) (h.m100 hk)) fun q ⟨i, g, S1, p1, t, M1, w1, dr, dw, p2, p3, d1, d2, d3, d4, p4⟩ => ?_
    obtain ⟨q, σ1⟩ := q
    simp only at p1 p2 p4
    subst p1
    have r1 := p3.r
    have t1 := p3.w
    have hnow : S1.E[i]? = some ⟨true, g, [0, 0]⟩ := by rw [t.now, hwd]; rfl
    obtain ⟨f1, f2, f3⟩ := h.fr.took t
    have hw1 : S1.words = 2 := t.words.trans hwd
    have hg : g ≤ k := by
      cases hE : S.E[i]? with
      | none => rw [t.new hE]; omega
      | some e =>
        obtain ⟨_, h2⟩ := t.was e hE
        have := h.gen e (List.mem_of_getElem? hE)
        omega
    have hi80 : i < S1.E.length := (List.getElem?_eq_some_iff.1 hnow).1
    have htl := t.len
    simp (config := { maxSteps := 2000000 }) -implicitDefEqProofs (disch := (first | omega | rfl | assumption | (simp only [put_next, bump_next, kill_next, List.length_cons, List.length_nil, List.mem_cons, List.not_mem_nil, or_false, not_false_eq_true]; first | omega | assumption))) only [Nat.reduceAdd, Nat.reduceMul, Nat.reduceLT, Int.reduceToNat, Int.reduceAdd, Int.reduceSub, Int.reduceMul, s_beq, List.length_cons, List.length_nil, List.getD_cons_zero, List.getD_cons_succ, List.getElem?_cons_zero, List.getElem?_cons_succ, Option.bind_some, Option.bind_assoc, s_bindN, asI_i, asB_b, asS_s, asP_p, asPS_p, asSl_sl, s_agg, s_tup, s_fn, joinB, joinI, joinR, beq_true, beq_false, Bool.not_true, Bool.not_false, Bool.not_not, cond_true, cond_false, neI, s_mapS, bindS_inl, bindS_inr, Bool.and_true, Bool.true_and, Bool.and_false, Bool.false_and, s_isNoneS, s_isNoneN, s_ref, s_adv, s_ldf, s_ld, s_ldM, s_st, s_stM, s_bs, s_bn, s_pp, bump_blk, bump_next, put_next, splice_z, splice_zz, splice_s, s_decT, s_decF, s_eqT, s_eqF, s_i64, s_u64, s_u8, Int.toNat_natCast, Nat.zero_add, s_room, s_chkT, s_rdSl, s_wrSl, s_ldN, s_ldNM, s_ldNf, List.drop_zero, List.take_succ_cons, List.take_zero, List.take_nil, List.take_length, Nat.mul_one, List.flatten_cons, List.flatten_nil, List.append_nil, List.nil_append, List.cons_append]
    have g0 := pget_ok p2 ⟨by omega, by omega⟩ (k := 0) hnow rfl (by rw [hw1]; decide) (by omega)
    rw [show ((0 : Nat) : Int) = 0 from rfl] at g0
    refine Ok.step g0 fun q ⟨q1, M2, q2, q3, q4⟩ => ?_
    obtain ⟨q, σ2⟩ := q
    simp only at q1 q2 q4
    rw [show ([0, 0] : List Int).getD 0 0 = 0 from rfl] at q1
    subst q1
    have r2 := q3.r
    have t2 := q3.w
    simp (config := { maxSteps := 2000000 }) -implicitDefEqProofs (disch := (first | omega | rfl | assumption | (simp only [put_next, bump_next, kill_next, List.length_cons, List.length_nil, List.mem_cons, List.not_mem_nil, or_false, not_false_eq_true]; first | omega | assumption))) only [Nat.reduceAdd, Nat.reduceMul, Nat.reduceLT, Int.reduceToNat, Int.reduceAdd, Int.reduceSub, Int.reduceMul, s_beq, List.length_cons, List.length_nil, List.getD_cons_zero, List.getD_cons_succ, List.getElem?_cons_zero, List.getElem?_cons_succ, Option.bind_some, Option.bind_assoc, s_bindN, asI_i, asB_b, asS_s, asP_p, asPS_p, asSl_sl, s_agg, s_tup, s_fn, joinB, joinI, joinR, beq_true, beq_false, Bool.not_true, Bool.not_false, Bool.not_not, cond_true, cond_false, neI, s_mapS, bindS_inl, bindS_inr, Bool.and_true, Bool.true_and, Bool.and_false, Bool.false_and, s_isNoneS, s_isNoneN, s_ref, s_adv, s_ldf, s_ld, s_ldM, s_st, s_stM, s_bs, s_bn, s_pp, bump_blk, bump_next, put_next, splice_z, splice_zz, splice_s, s_decT, s_decF, s_eqT, s_eqF, s_i64, s_u64, s_u8, Int.toNat_natCast, Nat.zero_add, s_room, s_chkT, s_rdSl, s_wrSl, s_ldN, s_ldNM, s_ldNf, List.drop_zero, List.take_succ_cons, List.take_zero, List.take_nil, List.take_length, Nat.mul_one, List.flatten_cons, List.flatten_nil, List.append_nil, List.nil_append, List.cons_append]
    have g1 := pget_ok q2 ⟨by omega, by omega⟩ (k := 1) hnow rfl (by rw [hw1]; decide) (by omega)
    rw [show ((1 : Nat) : Int) = 1 from rfl] at g1
    refine Ok.step g1 fun q ⟨s1, M3, s2, s3, s4⟩ => ?_
    obtain ⟨q, σ3⟩ := q
    simp only at s1 s2 s4
    rw [show ([0, 0] : List Int).getD 1 0 = 0 from rfl] at s1
    subst s1
    have r3 := s3.r
    have t3 := s3.w
    have e0 : ((0 : Int) != 0) = false := rfl
    simp (config := { maxSteps := 2000000 }) -implicitDefEqProofs (disch := (first | omega | rfl | assumption | (simp only [put_next, bump_next, kill_next, List.length_cons, List.length_nil, List.mem_cons, List.not_mem_nil, or_false, not_false_eq_true]; first | omega | assumption))) only [e0, Nat.reduceAdd, Nat.reduceMul, Nat.reduceLT, Int.reduceToNat, Int.reduceAdd, Int.reduceSub, Int.reduceMul, s_beq, List.length_cons, List.length_nil, List.getD_cons_zero, List.getD_cons_succ, List.getElem?_cons_zero, List.getElem?_cons_succ, Option.bind_some, Option.bind_assoc, s_bindN, asI_i, asB_b, asS_s, asP_p, asPS_p, asSl_sl, s_agg, s_tup, s_fn, joinB, joinI, joinR, beq_true, beq_false, Bool.not_true, Bool.not_false, Bool.not_not, cond_true, cond_false, neI, s_mapS, bindS_inl, bindS_inr, Bool.and_true, Bool.true_and, Bool.and_false, Bool.false_and, s_isNoneS, s_isNoneN, s_ref, s_adv, s_ldf, s_ld, s_ldM, s_st, s_stM, s_bs, s_bn, s_pp, bump_blk, bump_next, put_next, splice_z, splice_zz, splice_s, s_decT, s_decF, s_eqT, s_eqF, s_i64, s_u64, s_u8, Int.toNat_natCast, Nat.zero_add, s_room, s_chkT, s_rdSl, s_wrSl, s_ldN, s_ldNM, s_ldNf, List.drop_zero, List.take_succ_cons, List.take_zero, List.take_nil, List.take_length, Nat.mul_one, List.flatten_cons, List.flatten_nil, List.append_nil, List.nil_append, List.cons_append]
    have h3 := s2.new (pool_bump_ext σ3 1) (b := σ3.next) (Nat.le_refl _) (by simp)
    refine Ok.step (pgen_ok h3 ⟨by omega, by omega⟩ hnow) fun q ⟨m1, M4, m2, m3, m4⟩ => ?_
    obtain ⟨q, σ4⟩ := q
    simp only at m1 m2 m4
    subst m1
    have r4 := m3.r
    have t4 := m3.w
    have nx4 := m4.next
    simp only [bump_next] at nx4
    have nx1 := p4.next
    have nx2 := q4.next
    have nx3 := s4.next
    have keep4 : ∀ b, b ∈ SA.bk ai ++ SA.bk ad → σ4.blk b = σ.blk b := fun b hb => (m4.blk b (List.mem_cons_of_mem _ hb)).trans ((s4.blk b hb).trans ((q4.blk b hb).trans (p4.blk b hb)))
    have blt : ∀ b, b ∈ SA.bk ai ++ SA.bk ad → b < σ.next := fun b hb => by
      rcases List.mem_append.1 hb with hb | hb
      · exact h.oi.lt b hb
      · exact h.od.lt b hb
    simp (config := { maxSteps := 2000000 }) -implicitDefEqProofs (disch := (first | omega | rfl | assumption | (simp only [put_next, bump_next, kill_next, List.length_cons, List.length_nil, List.mem_cons, List.not_mem_nil, or_false, not_false_eq_true]; first | omega | assumption))) only [Nat.reduceAdd, Nat.reduceMul, Nat.reduceLT, Int.reduceToNat, Int.reduceAdd, Int.reduceSub, Int.reduceMul, s_beq, List.length_cons, List.length_nil, List.getD_cons_zero, List.getD_cons_succ, List.getElem?_cons_zero, List.getElem?_cons_succ, Option.bind_some, Option.bind_assoc, s_bindN, asI_i, asB_b, asS_s, asP_p, asPS_p, asSl_sl, s_agg, s_tup, s_fn, joinB, joinI, joinR, beq_true, beq_false, Bool.not_true, Bool.not_false, Bool.not_not, cond_true, cond_false, neI, s_mapS, bindS_inl, bindS_inr, Bool.and_true, Bool.true_and, Bool.and_false, Bool.false_and, s_isNoneS, s_isNoneN, s_ref, s_adv, s_ldf, s_ld, s_ldM, s_st, s_stM, s_bs, s_bn, s_pp, bump_blk, bump_next, put_next, splice_z, splice_zz, splice_s, s_decT, s_decF, s_eqT, s_eqF, s_i64, s_u64, s_u8, Int.toNat_natCast, Nat.zero_add, s_room, s_chkT, s_rdSl, s_wrSl, s_ldN, s_ldNM, s_ldNf, List.drop_zero, List.take_succ_cons, List.take_zero, List.take_nil, List.take_length, Nat.mul_one, List.flatten_cons, List.flatten_nil, List.append_nil, List.nil_append, List.cons_append]
    generalize hσ : σ4.put σ3.next (.cells true _ [.i .i64 ((i : Int) + 1), .i .i64 (g : Int)]) = σ5
    have b5 : ∃ el, σ5.blk σ3.next = some (.cells true el [.i .i64 ((i : Int) + 1), .i .i64 (g : Int)]) := by rw [← hσ]; exact ⟨_, s_bs⟩
    have n5 : σ5.next = σ4.next := by rw [← hσ]; rfl
    have o5 : ∀ b, b ≠ σ3.next → σ5.blk b = σ4.blk b := fun b hb => by rw [← hσ]; exact s_bn hb
    clear hσ
    obtain ⟨el5, b5⟩ := b5
    have oi5 : OwnS σ5 23 2 ai I.length (I.flatMap pc) := h.oi.of (by omega) fun b hb => (o5 b (by have := blt b (by simp [hb]); omega)).trans (keep4 b (by simp [hb]))
    have od5 : OwnS σ5 23 2 ad D.length (D.flatMap pc) := h.od.of (by omega) fun b hb => (o5 b (by have := blt b (by simp [hb]); omega)).trans (keep4 b (by simp [hb]))
    have hD2 := h.dl
    refine Ok.bindS (Q := fun r => r = .inl ([], σ5)) ?_ ?_ (fun r h => by cases h)
    · refine Ok.count I.length (fun j s => s = ([.i .i64 (j : Int)], σ5)) ?_ ?_ rfl
      · rintro j s hj rfl
        have hxj := List.getElem?_eq_getElem hj
        generalize I[j] = p at hxj
        obtain ⟨bb, oo, ea, hld⟩ := oi5.rd.ref hj
        have href : SA.ref ai = some (bb, oo) := by rw [ea]; rfl
        have l0 := (hld 0 (by omega)).trans (fm_get' pc_len (j := 0) (by omega) hxj)
        simp only [pc, List.getElem?_cons_zero, Nat.add_zero] at l0
        have hne : ((p.1 : Int) + 1 == (i : Int) + 1) = false := by
          have := f1 p (List.mem_of_getElem? hxj)
          simp; omega
        simp (config := { maxSteps := 2000000 }) -implicitDefEqProofs (disch := (first | omega | rfl | assumption | (simp only [put_next, bump_next, kill_next, List.length_cons, List.length_nil, List.mem_cons, List.not_mem_nil, or_false, not_false_eq_true]; first | omega | assumption))) only [law10_PoolFresh_L2, href, l0, hne, Nat.reduceAdd, Nat.reduceMul, Nat.reduceLT, Int.reduceToNat, Int.reduceAdd, Int.reduceSub, Int.reduceMul, s_beq, List.length_cons, List.length_nil, List.getD_cons_zero, List.getD_cons_succ, List.getElem?_cons_zero, List.getElem?_cons_succ, Option.bind_some, Option.bind_assoc, s_bindN, asI_i, asB_b, asS_s, asP_p, asPS_p, asSl_sl, s_agg, s_tup, s_fn, joinB, joinI, joinR, beq_true, beq_false, Bool.not_true, Bool.not_false, Bool.not_not, cond_true, cond_false, neI, s_mapS, bindS_inl, bindS_inr, Bool.and_true, Bool.true_and, Bool.and_false, Bool.false_and, s_isNoneS, s_isNoneN, s_ref, s_adv, s_ldf, s_ld, s_ldM, s_st, s_stM, s_bs, s_bn, s_pp, bump_blk, bump_next, put_next, splice_z, splice_zz, splice_s, s_decT, s_decF, s_eqT, s_eqF, s_i64, s_u64, s_u8, Int.toNat_natCast, Nat.zero_add, s_room, s_chkT, s_rdSl, s_wrSl, s_ldN, s_ldNM, s_ldNf, List.drop_zero, List.take_succ_cons, List.take_zero, List.take_nil, List.take_length, Nat.mul_one, List.flatten_cons, List.flatten_nil, List.append_nil, List.nil_append, List.cons_append]
        exact Ok_some.2 (by simp)
      · rintro s rfl
        simp (config := { maxSteps := 2000000 }) -implicitDefEqProofs (disch := (first | omega | rfl | assumption | (simp only [put_next, bump_next, kill_next, List.length_cons, List.length_nil, List.mem_cons, List.not_mem_nil, or_false, not_false_eq_true]; first | omega | assumption))) only [law10_PoolFresh_L2, Nat.reduceAdd, Nat.reduceMul, Nat.reduceLT, Int.reduceToNat, Int.reduceAdd, Int.reduceSub, Int.reduceMul, s_beq, List.length_cons, List.length_nil, List.getD_cons_zero, List.getD_cons_succ, List.getElem?_cons_zero, List.getElem?_cons_succ, Option.bind_some, Option.bind_assoc, s_bindN, asI_i, asB_b, asS_s, asP_p, asPS_p, asSl_sl, s_agg, s_tup, s_fn, joinB, joinI, joinR, beq_true, beq_false, Bool.not_true, Bool.not_false, Bool.not_not, cond_true, cond_false, neI, s_mapS, bindS_inl, bindS_inr, Bool.and_true, Bool.true_and, Bool.and_false, Bool.false_and, s_isNoneS, s_isNoneN, s_ref, s_adv, s_ldf, s_ld, s_ldM, s_st, s_stM, s_bs, s_bn, s_pp, bump_blk, bump_next, put_next, splice_z, splice_zz, splice_s, s_decT, s_decF, s_eqT, s_eqF, s_i64, s_u64, s_u8, Int.toNat_natCast, Nat.zero_add, s_room, s_chkT, s_rdSl, s_wrSl, s_ldN, s_ldNM, s_ldNf, List.drop_zero, List.take_succ_cons, List.take_zero, List.take_nil, List.take_length, Nat.mul_one, List.flatten_cons, List.flatten_nil, List.append_nil, List.nil_append, List.cons_append]
        exact Ok_some.2 rfl
    rintro _ h5
    cases h5
    simp (config := { maxSteps := 2000000 }) -implicitDefEqProofs (disch := (first | omega | rfl | assumption | (simp only [put_next, bump_next, kill_next, List.length_cons, List.length_nil, List.mem_cons, List.not_mem_nil, or_false, not_false_eq_true]; first | omega | assumption))) only [Nat.reduceAdd, Nat.reduceMul, Nat.reduceLT, Int.reduceToNat, Int.reduceAdd, Int.reduceSub, Int.reduceMul, s_beq, List.length_cons, List.length_nil, List.getD_cons_zero, List.getD_cons_succ, List.getElem?_cons_zero, List.getElem?_cons_succ, Option.bind_some, Option.bind_assoc, s_bindN, asI_i, asB_b, asS_s, asP_p, asPS_p, asSl_sl, s_agg, s_tup, s_fn, joinB, joinI, joinR, beq_true, beq_false, Bool.not_true, Bool.not_false, Bool.not_not, cond_true, cond_false, neI, s_mapS, bindS_inl, bindS_inr, Bool.and_true, Bool.true_and, Bool.and_false, Bool.false_and, s_isNoneS, s_isNoneN, s_ref, s_adv, s_ldf, s_ld, s_ldM, s_st, s_stM, s_bs, s_bn, s_pp, bump_blk, bump_next, put_next, splice_z, splice_zz, splice_s, s_decT, s_decF, s_eqT, s_eqF, s_i64, s_u64, s_u8, Int.toNat_natCast, Nat.zero_add, s_room, s_chkT, s_rdSl, s_wrSl, s_ldN, s_ldNM, s_ldNf, List.drop_zero, List.take_succ_cons, List.take_zero, List.take_nil, List.take_length, Nat.mul_one, List.flatten_cons, List.flatten_nil, List.append_nil, List.nil_append, List.cons_append]
    refine Ok.bindS (Q := fun r => r = .inl ([], σ5)) ?_ ?_ (fun r h => by cases h)
    · refine Ok.count D.length (fun j s => s = ([.i .i64 (j : Int)], σ5)) ?_ ?_ rfl
      · rintro j s hj rfl
        have hxj := List.getElem?_eq_getElem hj
        generalize D[j] = p at hxj
        obtain ⟨bb, oo, ea, hld⟩ := od5.rd.ref hj
        have href : SA.ref ad = some (bb, oo) := by rw [ea]; rfl
        have l0 := (hld 0 (by omega)).trans (fm_get' pc_len (j := 0) (by omega) hxj)
        have l1 := (hld 1 (by omega)).trans (fm_get' pc_len (j := 1) (by omega) hxj)
        simp only [pc, List.getElem?_cons_zero, List.getElem?_cons_succ, Nat.add_zero] at l0 l1
        have hne : ((p.1 : Int) + 1 == (i : Int) + 1 && (p.2 : Int) == (g : Int)) = false := by
          have := f2 p (List.mem_of_getElem? hxj)
          obtain ⟨pa, pg⟩ := p
          simp only [Bool.and_eq_false_iff]
          by_cases c : pa = i
          · right
            have : pg ≠ g := fun e => this (by rw [c, e])
            simp; omega
          · left; simp; omega
        simp (config := { maxSteps := 2000000 }) -implicitDefEqProofs (disch := (first | omega | rfl | assumption | (simp only [put_next, bump_next, kill_next, List.length_cons, List.length_nil, List.mem_cons, List.not_mem_nil, or_false, not_false_eq_true]; first | omega | assumption))) only [law10_PoolFresh_L3, href, l0, l1, b5, hne, Nat.reduceAdd, Nat.reduceMul, Nat.reduceLT, Int.reduceToNat, Int.reduceAdd, Int.reduceSub, Int.reduceMul, s_beq, List.length_cons, List.length_nil, List.getD_cons_zero, List.getD_cons_succ, List.getElem?_cons_zero, List.getElem?_cons_succ, Option.bind_some, Option.bind_assoc, s_bindN, asI_i, asB_b, asS_s, asP_p, asPS_p, asSl_sl, s_agg, s_tup, s_fn, joinB, joinI, joinR, beq_true, beq_false, Bool.not_true, Bool.not_false, Bool.not_not, cond_true, cond_false, neI, s_mapS, bindS_inl, bindS_inr, Bool.and_true, Bool.true_and, Bool.and_false, Bool.false_and, s_isNoneS, s_isNoneN, s_ref, s_adv, s_ldf, s_ld, s_ldM, s_st, s_stM, s_bs, s_bn, s_pp, bump_blk, bump_next, put_next, splice_z, splice_zz, splice_s, s_decT, s_decF, s_eqT, s_eqF, s_i64, s_u64, s_u8, Int.toNat_natCast, Nat.zero_add, s_room, s_chkT, s_rdSl, s_wrSl, s_ldN, s_ldNM, s_ldNf, List.drop_zero, List.take_succ_cons, List.take_zero, List.take_nil, List.take_length, Nat.mul_one, List.flatten_cons, List.flatten_nil, List.append_nil, List.nil_append, List.cons_append]
        exact Ok_some.2 (by simp)
      · rintro s rfl
        simp (config := { maxSteps := 2000000 }) -implicitDefEqProofs (disch := (first | omega | rfl | assumption | (simp only [put_next, bump_next, kill_next, List.length_cons, List.length_nil, List.mem_cons, List.not_mem_nil, or_false, not_false_eq_true]; first | omega | assumption))) only [law10_PoolFresh_L3, Nat.reduceAdd, Nat.reduceMul, Nat.reduceLT, Int.reduceToNat, Int.reduceAdd, Int.reduceSub, Int.reduceMul, s_beq, List.length_cons, List.length_nil, List.getD_cons_zero, List.getD_cons_succ, List.getElem?_cons_zero, List.getElem?_cons_succ, Option.bind_some, Option.bind_assoc, s_bindN, asI_i, asB_b, asS_s, asP_p, asPS_p, asSl_sl, s_agg, s_tup, s_fn, joinB, joinI, joinR, beq_true, beq_false, Bool.not_true, Bool.not_false, Bool.not_not, cond_true, cond_false, neI, s_mapS, bindS_inl, bindS_inr, Bool.and_true, Bool.true_and, Bool.and_false, Bool.false_and, s_isNoneS, s_isNoneN, s_ref, s_adv, s_ldf, s_ld, s_ldM, s_st, s_stM, s_bs, s_bn, s_pp, bump_blk, bump_next, put_next, splice_z, splice_zz, splice_s, s_decT, s_decF, s_eqT, s_eqF, s_i64, s_u64, s_u8, Int.toNat_natCast, Nat.zero_add, s_room, s_chkT, s_rdSl, s_wrSl, s_ldN, s_ldNM, s_ldNf, List.drop_zero, List.take_succ_cons, List.take_zero, List.take_nil, List.take_length, Nat.mul_one, List.flatten_cons, List.flatten_nil, List.append_nil, List.nil_append, List.cons_append]
        exact Ok_some.2 rfl
    rintro _ h5
    cases h5
    simp (config := { maxSteps := 2000000 }) -implicitDefEqProofs (disch := (first | omega | rfl | assumption | (simp only [put_next, bump_next, kill_next, List.length_cons, List.length_nil, List.mem_cons, List.not_mem_nil, or_false, not_false_eq_true]; first | omega | assumption))) only [b5, Nat.reduceAdd, Nat.reduceMul, Nat.reduceLT, Int.reduceToNat, Int.reduceAdd, Int.reduceSub, Int.reduceMul, s_beq, List.length_cons, List.length_nil, List.getD_cons_zero, List.getD_cons_succ, List.getElem?_cons_zero, List.getElem?_cons_succ, Option.bind_some, Option.bind_assoc, s_bindN, asI_i, asB_b, asS_s, asP_p, asPS_p, asSl_sl, s_agg, s_tup, s_fn, joinB, joinI, joinR, beq_true, beq_false, Bool.not_true, Bool.not_false, Bool.not_not, cond_true, cond_false, neI, s_mapS, bindS_inl, bindS_inr, Bool.and_true, Bool.true_and, Bool.and_false, Bool.false_and, s_isNoneS, s_isNoneN, s_ref, s_adv, s_ldf, s_ld, s_ldM, s_st, s_stM, s_bs, s_bn, s_pp, bump_blk, bump_next, put_next, splice_z, splice_zz, splice_s, s_decT, s_decF, s_eqT, s_eqF, s_i64, s_u64, s_u8, Int.toNat_natCast, Nat.zero_add, s_room, s_chkT, s_rdSl, s_wrSl, s_ldN, s_ldNM, s_ldNf, List.drop_zero, List.take_succ_cons, List.take_zero, List.take_nil, List.take_length, Nat.mul_one, List.flatten_cons, List.flatten_nil, List.append_nil, List.nil_append, List.cons_append]
    generalize hσ : (σ5.bump 2).put σ5.next (.cells true _ _) = σ6
    have n6 : σ6.next = σ5.next + 2 := by rw [← hσ]; rfl
    have o6 : ∀ b, b ≠ σ5.next → σ6.blk b = σ5.blk b := fun b hb => by rw [← hσ]; exact s_bn hb
    clear hσ
    have oi6 : OwnS σ6 23 2 ai I.length (I.flatMap pc) := oi5.of (by omega) fun b hb => o6 b (by have := oi5.lt b hb; omega)
    refine Ok.step (app_ok (nid := σ5.next + 1) oi6 (fun hm => by have := oi5.lt _ hm; omega) (by omega) (show (pc (i, g)).length = 1 * 2 from rfl)) fun q ⟨a2, l1, l2, l3, l4, l5⟩ => ?_
    obtain ⟨q, σ7⟩ := q
    simp only at l1 l2 l3 l4
    subst l1
    have b7 : σ7.blk σ3.next = _ := (l4 _ (by omega) (fun hm => by have := h.oi.lt _ hm; omega)).trans ((o6 _ (by omega)).trans b5)
    simp (config := { maxSteps := 2000000 }) -implicitDefEqProofs (disch := (first | omega | rfl | assumption | (simp only [put_next, bump_next, kill_next, List.length_cons, List.length_nil, List.mem_cons, List.not_mem_nil, or_false, not_false_eq_true]; first | omega | assumption))) only [b7, Nat.reduceAdd, Nat.reduceMul, Nat.reduceLT, Int.reduceToNat, Int.reduceAdd, Int.reduceSub, Int.reduceMul, s_beq, List.length_cons, List.length_nil, List.getD_cons_zero, List.getD_cons_succ, List.getElem?_cons_zero, List.getElem?_cons_succ, Option.bind_some, Option.bind_assoc, s_bindN, asI_i, asB_b, asS_s, asP_p, asPS_p, asSl_sl, s_agg, s_tup, s_fn, joinB, joinI, joinR, beq_true, beq_false, Bool.not_true, Bool.not_false, Bool.not_not, cond_true, cond_false, neI, s_mapS, bindS_inl, bindS_inr, Bool.and_true, Bool.true_and, Bool.and_false, Bool.false_and, s_isNoneS, s_isNoneN, s_ref, s_adv, s_ldf, s_ld, s_ldM, s_st, s_stM, s_bs, s_bn, s_pp, bump_blk, bump_next, put_next, splice_z, splice_zz, splice_s, s_decT, s_decF, s_eqT, s_eqF, s_i64, s_u64, s_u8, Int.toNat_natCast, Nat.zero_add, s_room, s_chkT, s_rdSl, s_wrSl, s_ldN, s_ldNM, s_ldNf, List.drop_zero, List.take_succ_cons, List.take_zero, List.take_nil, List.take_length, Nat.mul_one, List.flatten_cons, List.flatten_nil, List.append_nil, List.nil_append, List.cons_append]
    generalize hσ : (σ7.bump 2).put σ7.next (.cells true _ _) = σ8
    have n8 : σ8.next = σ7.next + 2 := by rw [← hσ]; rfl
    have o8 : ∀ b, b ≠ σ7.next → σ8.blk b = σ7.blk b := fun b hb => by rw [← hσ]; exact s_bn hb
    clear hσ
    have od8 : OwnS σ8 23 2 ad D.length (D.flatMap pc) := od5.of (by omega) fun b hb => by
      have := od5.lt b hb
      exact (o8 b (by omega)).trans ((l4 b (by omega) (fun hm => h.ap b hm hb)).trans (o6 b (by omega)))
    refine Ok.step (app_ok (nid := σ7.next + 1) od8 (fun hm => by have := od5.lt _ hm; omega) (by omega) (show (pc (i, g)).length = 1 * 2 from rfl)) fun q ⟨a3, k1, k2, k3, k4, k5⟩ => ?_
    obtain ⟨q, σ9⟩ := q
    simp only at k1 k2 k3 k4
    subst k1
    have ci : I.flatMap pc ++ [.i .i64 ((i : Int) + 1), .i .i64 (g : Int)] = (I ++ [(i, g)]).flatMap pc := by simp [pc]
    have cd : D.flatMap pc ++ [.i .i64 ((i : Int) + 1), .i .i64 (g : Int)] = (D ++ [(i, g)]).flatMap pc := by simp [pc]
    rw [ci] at l2
    rw [cd] at k2
    have li : I.length + 1 = (I ++ [(i, g)]).length := by simp
    have ld : D.length + 1 = (D ++ [(i, g)]).length := by simp
    rw [li] at l2 ⊢
    rw [ld] at k2 ⊢
    have chg9 : Chg (σ3.next :: (SA.bk ai ++ SA.bk ad)) σ4 σ9 := ⟨by omega, fun b hb hm => by
      simp only [List.mem_cons, List.mem_append, not_or] at hm
      rw [k4 b (by omega) hm.2.2, o8 b (by omega), l4 b (by omega) hm.2.1, o6 b (by omega), o5 b hm.1]⟩
    have p9 : PoolAt σ9 pb mb M4 S1 w1 (SA.bk a2 ++ SA.bk a3) := m2.turn chg9 (fun b hb => .inl hb) fun b hb => by
      rcases List.mem_append.1 hb with hb | hb
      · have := l5 b hb; exact .inr (by omega)
      · have := k5 b hb; exact .inr (by omega)
    have oi9 : OwnS σ9 23 2 a2 (I ++ [(i, g)]).length ((I ++ [(i, g)]).flatMap pc) := l2.of (by omega) fun b hb => by
      have := l5 b hb
      exact (k4 b (by omega) (fun hm => by have := od5.lt b hm; omega)).trans (o8 b (by omega))
    simp (config := { maxSteps := 2000000 }) -implicitDefEqProofs (disch := (first | omega | rfl | assumption | (simp only [put_next, bump_next, kill_next, List.length_cons, List.length_nil, List.mem_cons, List.not_mem_nil, or_false, not_false_eq_true]; first | omega | assumption))) only [ld3, Nat.reduceAdd, Nat.reduceMul, Nat.reduceLT, Int.reduceToNat, Int.reduceAdd, Int.reduceSub, Int.reduceMul, s_beq, List.length_cons, List.length_nil, List.getD_cons_zero, List.getD_cons_succ, List.getElem?_cons_zero, List.getElem?_cons_succ, Option.bind_some, Option.bind_assoc, s_bindN, asI_i, asB_b, asS_s, asP_p, asPS_p, asSl_sl, s_agg, s_tup, s_fn, joinB, joinI, joinR, beq_true, beq_false, Bool.not_true, Bool.not_false, Bool.not_not, cond_true, cond_false, neI, s_mapS, bindS_inl, bindS_inr, Bool.and_true, Bool.true_and, Bool.and_false, Bool.false_and, s_isNoneS, s_isNoneN, s_ref, s_adv, s_ldf, s_ld, s_ldM, s_st, s_stM, s_bs, s_bn, s_pp, bump_blk, bump_next, put_next, splice_z, splice_zz, splice_s, s_decT, s_decF, s_eqT, s_eqF, s_i64, s_u64, s_u8, Int.toNat_natCast, Nat.zero_add, s_room, s_chkT, s_rdSl, s_wrSl, s_ldN, s_ldNM, s_ldNf, List.drop_zero, List.take_succ_cons, List.take_zero, List.take_nil, List.take_length, Nat.mul_one, List.flatten_cons, List.flatten_nil, List.append_nil, List.nil_append, List.cons_append]
    have ps := pset_ok p9 ⟨by omega, by omega⟩ (k := 1) (x := IntKind.u64.wrap (1 + x.w)) hnow rfl (by rw [hw1]; decide) (by omega)
    rw [show ((1 : Nat) : Int) = 1 from rfl] at ps
    refine Ok.step ps fun q ⟨v1, M5, w5, v2, v3, v4⟩ => ?_
    obtain ⟨q, σ10⟩ := q
    simp only at v1 v2 v4
    subst v1
    have r5 := v3.r
    have t5 := v3.w
    simp (config := { maxSteps := 2000000 }) -implicitDefEqProofs (disch := (first | omega | rfl | assumption | (simp only [put_next, bump_next, kill_next, List.length_cons, List.length_nil, List.mem_cons, List.not_mem_nil, or_false, not_false_eq_true]; first | omega | assumption))) only [Nat.reduceAdd, Nat.reduceMul, Nat.reduceLT, Int.reduceToNat, Int.reduceAdd, Int.reduceSub, Int.reduceMul, s_beq, List.length_cons, List.length_nil, List.getD_cons_zero, List.getD_cons_succ, List.getElem?_cons_zero, List.getElem?_cons_succ, Option.bind_some, Option.bind_assoc, s_bindN, asI_i, asB_b, asS_s, asP_p, asPS_p, asSl_sl, s_agg, s_tup, s_fn, joinB, joinI, joinR, beq_true, beq_false, Bool.not_true, Bool.not_false, Bool.not_not, cond_true, cond_false, neI, s_mapS, bindS_inl, bindS_inr, Bool.and_true, Bool.true_and, Bool.and_false, Bool.false_and, s_isNoneS, s_isNoneN, s_ref, s_adv, s_ldf, s_ld, s_ldM, s_st, s_stM, s_bs, s_bn, s_pp, bump_blk, bump_next, put_next, splice_z, splice_zz, splice_s, s_decT, s_decF, s_eqT, s_eqF, s_i64, s_u64, s_u8, Int.toNat_natCast, Nat.zero_add, s_room, s_chkT, s_rdSl, s_wrSl, s_ldN, s_ldNM, s_ldNf, List.drop_zero, List.take_succ_cons, List.take_zero, List.take_nil, List.take_length, Nat.mul_one, List.flatten_cons, List.flatten_nil, List.append_nil, List.nil_append, List.cons_append]
    refine Ok_some.2 ⟨σ10, M5, _, w5, a2, a3, I ++ [(i, g)], D ++ [(i, g)], rfl, ⟨v2, hw1, oi9.of v4.next fun b hb => v4.blk b (by simp [hb]), k2.of v4.next fun b hb => v4.blk b (by simp [hb]), fun b hb hb2 => by have := l5 b hb; have := k5 b hb2; omega, f3.set hnow rfl rfl, ?_, ?_, fun y hy => ?_, by simp; omega, by omega, by omega⟩⟩
    · show (S1.E.set _ _).length ≤ _
      rw [List.length_set]; omega
    · rcases t.room with e | e
      · show S1.room ≤ 160; omega
      · show S1.room ≤ 160; omega
    · rcases mem_set' hy with rfl | hy
      · show g ≤ k + 1; omega
      · obtain ⟨j, hj⟩ := List.getElem?_of_mem hy
        by_cases c : j = i
        · rw [c, hnow] at hj; cases hj; show g ≤ k + 1; omega
        · rw [t.other j c] at hj
          have := h.gen y (List.mem_of_getElem? hj); omega
  · rintro _ ⟨σ', M', S', w', ai', ad', I', D', e, h'⟩
    cases e
    simp (config := { maxSteps := 2000000 }) -implicitDefEqProofs (disch := (first | omega | rfl | assumption | (simp only [put_next, bump_next, kill_next, List.length_cons, List.length_nil, List.mem_cons, List.not_mem_nil, or_false, not_false_eq_true]; first | omega | assumption))) only [Nat.reduceAdd, Nat.reduceMul, Nat.reduceLT, Int.reduceToNat, Int.reduceAdd, Int.reduceSub, Int.reduceMul, s_beq, List.length_cons, List.length_nil, List.getD_cons_zero, List.getD_cons_succ, List.getElem?_cons_zero, List.getElem?_cons_succ, Option.bind_some, Option.bind_assoc, s_bindN, asI_i, asB_b, asS_s, asP_p, asPS_p, asSl_sl, s_agg, s_tup, s_fn, joinB, joinI, joinR, beq_true, beq_false, Bool.not_true, Bool.not_false, Bool.not_not, cond_true, cond_false, neI, s_mapS, bindS_inl, bindS_inr, Bool.and_true, Bool.true_and, Bool.and_false, Bool.false_and, s_isNoneS, s_isNoneN, s_ref, s_adv, s_ldf, s_ld, s_ldM, s_st, s_stM, s_bs, s_bn, s_pp, bump_blk, bump_next, put_next, splice_z, splice_zz, splice_s, s_decT, s_decF, s_eqT, s_eqF, s_i64, s_u64, s_u8, Int.toNat_natCast, Nat.zero_add, s_room, s_chkT, s_rdSl, s_wrSl, s_ldN, s_ldNM, s_ldNf, List.drop_zero, List.take_succ_cons, List.take_zero, List.take_nil, List.take_length, Nat.mul_one, List.flatten_cons, List.flatten_nil, List.append_nil, List.nil_append, List.cons_append]
    exact Ok_some.2 ⟨σ', M', S', w', ai', ad', I', D', by simp, h'⟩
end

theorem poolFresh_ok {σ : AH O} {so : SA} {ops : List POp} (hj : Imm 4 so ops.length (ops.flatMap POp.cells)) (hr : ∀ o ∈ ops, o.rng) : Ok (law10_PoolFresh [.sl so ops.length] σ) fun r => r.1 = .b true := by
  have few : ∀ {σ : AH O}, law10_few [.sl so ops.length] σ = some (.b (decide ((ops.length : Int) ≤ 80)), σ) := by intro σ; simp (config := { maxSteps := 2000000 }) -implicitDefEqProofs (disch := (first | omega | rfl | assumption | (simp only [put_next, bump_next, kill_next, List.length_cons, List.length_nil, List.mem_cons, List.not_mem_nil, or_false, not_false_eq_true]; first | omega | assumption))) only [law10_few, law10_few_c, Nat.reduceAdd, Nat.reduceMul, Nat.reduceLT, Int.reduceToNat, Int.reduceAdd, Int.reduceSub, Int.reduceMul, s_beq, List.length_cons, List.length_nil, List.getD_cons_zero, List.getD_cons_succ, List.getElem?_cons_zero, List.getElem?_cons_succ, Option.bind_some, Option.bind_assoc, s_bindN, asI_i, asB_b, asS_s, asP_p, asPS_p, asSl_sl, s_agg, s_tup, s_fn, joinB, joinI, joinR, beq_true, beq_false, Bool.not_true, Bool.not_false, Bool.not_not, cond_true, cond_false, neI, s_mapS, bindS_inl, bindS_inr, Bool.and_true, Bool.true_and, Bool.and_false, Bool.false_and, s_isNoneS, s_isNoneN, s_ref, s_adv, s_ldf, s_ld, s_ldM, s_st, s_stM, s_bs, s_bn, s_pp, bump_blk, bump_next, put_next, splice_z, splice_zz, splice_s, s_decT, s_decF, s_eqT, s_eqF, s_i64, s_u64, s_u8, Int.toNat_natCast, Nat.zero_add, s_room, s_chkT, s_rdSl, s_wrSl, s_ldN, s_ldNM, s_ldNf, List.drop_zero, List.take_succ_cons, List.take_zero, List.take_nil, List.take_length, Nat.mul_one, List.flatten_cons, List.flatten_nil, List.append_nil, List.nil_append, List.cons_append]
  simp (config := { maxSteps := 2000000 }) -implicitDefEqProofs (disch := (first | omega | rfl | assumption | (simp only [put_next, bump_next, kill_next, List.length_cons, List.length_nil, List.mem_cons, List.not_mem_nil, or_false, not_false_eq_true]; first | omega | assumption))) only [law10_PoolFresh, law10_PoolFresh_c, Nat.reduceAdd, Nat.reduceMul, Nat.reduceLT, Int.reduceToNat, Int.reduceAdd, Int.reduceSub, Int.reduceMul, s_beq, List.length_cons, List.length_nil, List.getD_cons_zero, List.getD_cons_succ, List.getElem?_cons_zero, List.getElem?_cons_succ, Option.bind_some, Option.bind_assoc, s_bindN, asI_i, asB_b, asS_s, asP_p, asPS_p, asSl_sl, s_agg, s_tup, s_fn, joinB, joinI, joinR, beq_true, beq_false, Bool.not_true, Bool.not_false, Bool.not_not, cond_true, cond_false, neI, s_mapS, bindS_inl, bindS_inr, Bool.and_true, Bool.true_and, Bool.and_false, Bool.false_and, s_isNoneS, s_isNoneN, s_ref, s_adv, s_ldf, s_ld, s_ldM, s_st, s_stM, s_bs, s_bn, s_pp, bump_blk, bump_next, put_next, splice_z, splice_zz, splice_s, s_decT, s_decF, s_eqT, s_eqF, s_i64, s_u64, s_u8, Int.toNat_natCast, Nat.zero_add, s_room, s_chkT, s_rdSl, s_wrSl, s_ldN, s_ldNM, s_ldNf, List.drop_zero, List.take_succ_cons, List.take_zero, List.take_nil, List.take_length, Nat.mul_one, List.flatten_cons, List.flatten_nil, List.append_nil, List.nil_append, List.cons_append]
  refine Ok.step awake10_ok fun r g1 => ?_
  obtain ⟨q, σ1⟩ := r
  simp only at g1
  subst g1
  by_cases hbig : ¬ (ops.length : Int) ≤ 80
  · simp (config := { maxSteps := 2000000 }) -implicitDefEqProofs (disch := (first | omega | rfl | assumption | (simp only [put_next, bump_next, kill_next, List.length_cons, List.length_nil, List.mem_cons, List.not_mem_nil, or_false, not_false_eq_true]; first | omega | assumption))) only [few, Nat.reduceAdd, Nat.reduceMul, Nat.reduceLT, Int.reduceToNat, Int.reduceAdd, Int.reduceSub, Int.reduceMul, s_beq, List.length_cons, List.length_nil, List.getD_cons_zero, List.getD_cons_succ, List.getElem?_cons_zero, List.getElem?_cons_succ, Option.bind_some, Option.bind_assoc, s_bindN, asI_i, asB_b, asS_s, asP_p, asPS_p, asSl_sl, s_agg, s_tup, s_fn, joinB, joinI, joinR, beq_true, beq_false, Bool.not_true, Bool.not_false, Bool.not_not, cond_true, cond_false, neI, s_mapS, bindS_inl, bindS_inr, Bool.and_true, Bool.true_and, Bool.and_false, Bool.false_and, s_isNoneS, s_isNoneN, s_ref, s_adv, s_ldf, s_ld, s_ldM, s_st, s_stM, s_bs, s_bn, s_pp, bump_blk, bump_next, put_next, splice_z, splice_zz, splice_s, s_decT, s_decF, s_eqT, s_eqF, s_i64, s_u64, s_u8, Int.toNat_natCast, Nat.zero_add, s_room, s_chkT, s_rdSl, s_wrSl, s_ldN, s_ldNM, s_ldNf, List.drop_zero, List.take_succ_cons, List.take_zero, List.take_nil, List.take_length, Nat.mul_one, List.flatten_cons, List.flatten_nil, List.append_nil, List.nil_append, List.cons_append]
    exact Ok_some.2 rfl
  simp (config := { maxSteps := 2000000 }) -implicitDefEqProofs (disch := (first | omega | rfl | assumption | (simp only [put_next, bump_next, kill_next, List.length_cons, List.length_nil, List.mem_cons, List.not_mem_nil, or_false, not_false_eq_true]; first | omega | assumption))) only [few, Nat.reduceAdd, Nat.reduceMul, Nat.reduceLT, Int.reduceToNat, Int.reduceAdd, Int.reduceSub, Int.reduceMul, s_beq, List.length_cons, List.length_nil, List.getD_cons_zero, List.getD_cons_succ, List.getElem?_cons_zero, List.getElem?_cons_succ, Option.bind_some, Option.bind_assoc, s_bindN, asI_i, asB_b, asS_s, asP_p, asPS_p, asSl_sl, s_agg, s_tup, s_fn, joinB, joinI, joinR, beq_true, beq_false, Bool.not_true, Bool.not_false, Bool.not_not, cond_true, cond_false, neI, s_mapS, bindS_inl, bindS_inr, Bool.and_true, Bool.true_and, Bool.and_false, Bool.false_and, s_isNoneS, s_isNoneN, s_ref, s_adv, s_ldf, s_ld, s_ldM, s_st, s_stM, s_bs, s_bn, s_pp, bump_blk, bump_next, put_next, splice_z, splice_zz, splice_s, s_decT, s_decF, s_eqT, s_eqF, s_i64, s_u64, s_u8, Int.toNat_natCast, Nat.zero_add, s_room, s_chkT, s_rdSl, s_wrSl, s_ldN, s_ldNM, s_ldNf, List.drop_zero, List.take_succ_cons, List.take_zero, List.take_nil, List.take_length, Nat.mul_one, List.flatten_cons, List.flatten_nil, List.append_nil, List.nil_append, List.cons_append]
  have md := made10_ok (σ := σ1) (n := 2) ⟨by decide, by decide⟩
  rw [show ((2 : Nat) : Int) = 2 from rfl] at md
  refine Ok.step md fun r ⟨mb, pb, M, id, g1, g2, g3, g4, g5, g6⟩ => ?_
  obtain ⟨q, σ2⟩ := r
  simp only at g1 g2
  subst g1
  simp (config := { maxSteps := 2000000 }) -implicitDefEqProofs (disch := (first | omega | rfl | assumption | (simp only [put_next, bump_next, kill_next, List.length_cons, List.length_nil, List.mem_cons, List.not_mem_nil, or_false, not_false_eq_true]; first | omega | assumption))) only [Nat.reduceAdd, Nat.reduceMul, Nat.reduceLT, Int.reduceToNat, Int.reduceAdd, Int.reduceSub, Int.reduceMul, s_beq, List.length_cons, List.length_nil, List.getD_cons_zero, List.getD_cons_succ, List.getElem?_cons_zero, List.getElem?_cons_succ, Option.bind_some, Option.bind_assoc, s_bindN, asI_i, asB_b, asS_s, asP_p, asPS_p, asSl_sl, s_agg, s_tup, s_fn, joinB, joinI, joinR, beq_true, beq_false, Bool.not_true, Bool.not_false, Bool.not_not, cond_true, cond_false, neI, s_mapS, bindS_inl, bindS_inr, Bool.and_true, Bool.true_and, Bool.and_false, Bool.false_and, s_isNoneS, s_isNoneN, s_ref, s_adv, s_ldf, s_ld, s_ldM, s_st, s_stM, s_bs, s_bn, s_pp, bump_blk, bump_next, put_next, splice_z, splice_zz, splice_s, s_decT, s_decF, s_eqT, s_eqF, s_i64, s_u64, s_u8, Int.toNat_natCast, Nat.zero_add, s_room, s_chkT, s_rdSl, s_wrSl, s_ldN, s_ldNM, s_ldNf, List.drop_zero, List.take_succ_cons, List.take_zero, List.take_nil, List.take_length, Nat.mul_one, List.flatten_cons, List.flatten_nil, List.append_nil, List.nil_append, List.cons_append]
  refine Ok.bindS (Q := fun r => ∃ σ' M S w ai ad I D k, r = .inl ([.sl ai I.length], σ') ∧ FrAt σ' pb mb M S w ai ad I D k) ?_ ?_ (fun r h => by obtain ⟨_, _, _, _, _, _, _, _, _, e, _⟩ := h; cases e)
  · refine Ok.count ops.length (fun k s => ∃ σ' M S w ai ad I D, s = ([.sl ai I.length, .sl ad D.length, .i .i64 (k : Int)], σ') ∧ FrAt σ' pb mb M S w ai ad I D k) ?_ ?_ ⟨σ2, M, _, _, .nil, .nil, [], [], rfl, g2, rfl, OwnS.nil _ _ _, OwnS.nil _ _ _, by simp [SA.bk], ⟨by simp, by simp, rfl, by simp⟩, by simp, by simp, by simp, by simp, by omega, by omega⟩
    · rintro k s hk ⟨σ', M, S, w, ai, ad, I, D, rfl, h⟩
      have hx := List.getElem?_eq_getElem hk
      have hxr := hr _ (List.mem_of_getElem? hx)
      generalize ops[k] = x at hx hxr
      obtain ⟨b, o, e, hld⟩ := Imm.row POp.len hj hx (by omega)
      have ld0 : ∀ σ : AH O, σ.ld b (o + k * 4) = some (.i .i64 x.kind) := fun σ => hld O σ 0 (by omega)
      have ld1 : ∀ σ : AH O, σ.ld b (o + k * 4 + 1) = some (.i .i64 x.id) := fun σ => hld O σ 1 (by omega)
      have ld3 : ∀ σ : AH O, σ.ld b (o + k * 4 + 3) = some (.i .u64 x.w) := fun σ => hld O σ 3 (by omega)
      by_cases c : x.kind = 0 ∨ I.length = 0
      · refine (fresh_take h (by omega) hxr hk e ld0 ld3 c).mono ?_
        rintro _ ⟨σ', M', S', w', ai', ad', I', D', rfl, h'⟩
        exact ⟨σ', M', S', w', ai', ad', I', D', rfl, h'⟩
      · refine (fresh_give h (by omega) hxr hk e ld0 ld1 ld3 (fun e => c (.inl e)) (fun e => c (.inr e))).mono ?_
        rintro _ ⟨σ', M', S', w', ai', I', rfl, h'⟩
        exact ⟨σ', M', S', w', ai', ad, I', D, rfl, h'⟩
    · rintro s ⟨σ', M, S, w, ai, ad, I, D, rfl, h⟩
      simp (config := { maxSteps := 2000000 }) -implicitDefEqProofs (disch := (first | omega | rfl | assumption | (simp only [put_next, bump_next, kill_next, List.length_cons, List.length_nil, List.mem_cons, List.not_mem_nil, or_false, not_false_eq_true]; first | omega | assumption))) only [law10_PoolFresh_L1, Nat.reduceAdd, Nat.reduceMul, Nat.reduceLT, Int.reduceToNat, Int.reduceAdd, Int.reduceSub, Int.reduceMul, s_beq, List.length_cons, List.length_nil, List.getD_cons_zero, List.getD_cons_succ, List.getElem?_cons_zero, List.getElem?_cons_succ, Option.bind_some, Option.bind_assoc, s_bindN, asI_i, asB_b, asS_s, asP_p, asPS_p, asSl_sl, s_agg, s_tup, s_fn, joinB, joinI, joinR, beq_true, beq_false, Bool.not_true, Bool.not_false, Bool.not_not, cond_true, cond_false, neI, s_mapS, bindS_inl, bindS_inr, Bool.and_true, Bool.true_and, Bool.and_false, Bool.false_and, s_isNoneS, s_isNoneN, s_ref, s_adv, s_ldf, s_ld, s_ldM, s_st, s_stM, s_bs, s_bn, s_pp, bump_blk, bump_next, put_next, splice_z, splice_zz, splice_s, s_decT, s_decF, s_eqT, s_eqF, s_i64, s_u64, s_u8, Int.toNat_natCast, Nat.zero_add, s_room, s_chkT, s_rdSl, s_wrSl, s_ldN, s_ldNM, s_ldNf, List.drop_zero, List.take_succ_cons, List.take_zero, List.take_nil, List.take_length, Nat.mul_one, List.flatten_cons, List.flatten_nil, List.append_nil, List.nil_append, List.cons_append]
      exact Ok_some.2 ⟨σ', M, S, w, ai, ad, I, D, _, rfl, h⟩
  rintro _ ⟨σ', M, S, w, ai, ad, I, D, k, e, h⟩
  cases e
  have ct := pcount_ok h.p
  rw [h.fr.cnt] at ct
  have e1 : ((I.length : Int) == (I.length : Int)) = true := by simp
  simp (config := { maxSteps := 2000000 }) -implicitDefEqProofs (disch := (first | omega | rfl | assumption | (simp only [put_next, bump_next, kill_next, List.length_cons, List.length_nil, List.mem_cons, List.not_mem_nil, or_false, not_false_eq_true]; first | omega | assumption))) only [ct, e1, Nat.reduceAdd, Nat.reduceMul, Nat.reduceLT, Int.reduceToNat, Int.reduceAdd, Int.reduceSub, Int.reduceMul, s_beq, List.length_cons, List.length_nil, List.getD_cons_zero, List.getD_cons_succ, List.getElem?_cons_zero, List.getElem?_cons_succ, Option.bind_some, Option.bind_assoc, s_bindN, asI_i, asB_b, asS_s, asP_p, asPS_p, asSl_sl, s_agg, s_tup, s_fn, joinB, joinI, joinR, beq_true, beq_false, Bool.not_true, Bool.not_false, Bool.not_not, cond_true, cond_false, neI, s_mapS, bindS_inl, bindS_inr, Bool.and_true, Bool.true_and, Bool.and_false, Bool.false_and, s_isNoneS, s_isNoneN, s_ref, s_adv, s_ldf, s_ld, s_ldM, s_st, s_stM, s_bs, s_bn, s_pp, bump_blk, bump_next, put_next, splice_z, splice_zz, splice_s, s_decT, s_decF, s_eqT, s_eqF, s_i64, s_u64, s_u8, Int.toNat_natCast, Nat.zero_add, s_room, s_chkT, s_rdSl, s_wrSl, s_ldN, s_ldNM, s_ldNf, List.drop_zero, List.take_succ_cons, List.take_zero, List.take_nil, List.take_length, Nat.mul_one, List.flatten_cons, List.flatten_nil, List.append_nil, List.nil_append, List.cons_append]
  exact Ok_some.2 rfl
end Go.Abs.Try
