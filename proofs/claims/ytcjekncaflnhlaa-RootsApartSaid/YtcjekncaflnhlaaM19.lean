/-
  Layer 19: roots are frames and two times handles in one memory. No conditions.
-/
import Derived.Test.YtcjekncaflnhlaaM18b
import Derived.Test.YtcjekncaflnhlaaM17c
set_option linter.unusedVariables false
set_option linter.unusedSimpArgs false
set_option linter.constructorNameAsVariable false
set_option linter.unusedSimpArgs false
set_option linter.unusedVariables false
set_option linter.unusedSectionVars false
set_option maxHeartbeats 1000000
namespace Go.Abs.Try
open Go Go.Abs
variable {O : Type}

theorem FrmAt.by {σ σ' : AH O} {fb mb : Nat} {M M' : MemS} {S : FrmS} {w : List Int} {X : List Nat} (h : FrmAt σ fb mb M S w X) (mi : MemIn σ' mb M' (fb :: X)) (hb : σ'.blk fb = σ.blk fb) (hw : wordsOf M'.sp S.id = wordsOf M.sp S.id) : FrmAt σ' fb mb M' S w X :=
  { h with mi := mi, b := hb.trans h.b, now := hw.trans h.now }
theorem HanAt.by {σ σ' : AH O} {hb pb mb : Nat} {M M' : MemS} {P : PoolS} {C : List Nat} {w : List Int} {X : List Nat} (h : HanAt σ hb pb mb M P C w X) (mi : MemIn σ' mb M' (pb :: hb :: X)) (h1 : σ'.blk hb = σ.blk hb) (h2 : σ'.blk pb = σ.blk pb) (hw : wordsOf M'.sp P.id = wordsOf M.sp P.id) : HanAt σ' hb pb mb M' P C w X :=
  { h with p := { h.p with mi := mi, b := h2.trans h.p.b, now := hw.trans h.p.now }, b := by obtain ⟨el, hb⟩ := h.b; exact ⟨el, h1.trans hb⟩ }
theorem HanAt.mono {σ : AH O} {hb pb mb : Nat} {M : MemS} {P : PoolS} {C : List Nat} {w : List Int} {X Y : List Nat} (h : HanAt σ hb pb mb M P C w X) (hs : ∀ b ∈ Y, b ∈ X) : HanAt σ hb pb mb M P C w Y :=
  { h with p := h.p.mono (fun b hb => (List.mem_cons.1 hb).elim (fun e => by rw [e]; exact List.mem_cons_self) fun hb => List.mem_cons_of_mem _ (hs b hb)), nx := fun hm => h.nx (hs _ hm) }
theorem hset_ok {σ : AH O} {hb pb mb : Nat} {M : MemS} {P : PoolS} {C : List Nat} {w : List Int} {X : List Nat} (h : HanAt σ hb pb mb M P C w X) (hm : M.met.r + 1000 < 85070591730234615865843651857942052864 ∧ M.met.w + 1000 < 85070591730234615865843651857942052864) {i g : Nat} {x0 : Option Int} {x : Int} (hv : vw P.E i = some (true, g, x0)) :
    Ok (handles_Handles__Set [.p (some (.n hb, 0)), .i .i64 (tok i g), .i .u64 x] σ) fun r => r.1 = .i .i64 0 ∧ ∃ M' w' P', HanAt r.2 hb pb mb M' P' C w' X ∧ P'.id = P.id ∧ vw P'.E i = some (true, g, some x) ∧ (∀ j, j ≠ i → vw P'.E j = vw P.E j) ∧ Wrt M M' P.id w' 3 1 ∧ Keep X σ r.2 := by
  obtain ⟨e, he, htk, hg, hx⟩ := vw_some hv
  have hw := h.words
  have hi := (List.getElem?_eq_some_iff.1 he).1
  simp (config := { maxSteps := 2000000 }) -implicitDefEqProofs (disch := (first | omega | rfl | assumption | (simp only [put_next, bump_next, kill_next, List.length_cons, List.length_nil, List.mem_cons, List.not_mem_nil, or_false, not_false_eq_true]; first | omega | assumption))) only [handles_Handles__Set, handles_Handles__Set_c, Nat.reduceAdd, Nat.reduceMul, Nat.reduceLT, Int.reduceToNat, Int.reduceAdd, Int.reduceSub, Int.reduceMul, s_beq, List.length_cons, List.length_nil, List.getD_cons_zero, List.getD_cons_succ, List.getElem?_cons_zero, List.getElem?_cons_succ, Option.bind_some, Option.bind_assoc, s_bindN, asI_i, asB_b, asS_s, asP_p, asPS_p, asSl_sl, s_agg, s_tup, s_fn, joinB, joinI, joinR, beq_true, beq_false, Bool.not_true, Bool.not_false, Bool.not_not, cond_true, cond_false, neI, s_mapS, bindS_inl, bindS_inr, Bool.and_true, Bool.true_and, Bool.and_false, Bool.false_and, s_isNoneS, s_isNoneN, s_ref, s_adv, s_ldf, s_ld, s_ldM, s_st, s_stM, s_bs, s_bn, s_pp, bump_blk, bump_next, put_next, splice_z, splice_zz, splice_s, s_decT, s_decF, s_eqT, s_eqF, s_i64, s_u64, s_u8, Int.toNat_natCast, Nat.zero_add, s_room, s_chkT, s_rdSl, s_wrSl, s_ldN, s_ldNM, s_ldNf, List.drop_zero, List.take_succ_cons, List.take_zero, List.take_nil, List.take_length, Nat.mul_one, List.flatten_cons, List.flatten_nil, List.append_nil, List.nil_append, List.cons_append]
  refine Ok.step (hid_yes h hm hv) fun r ⟨k1, M1, k2, k3, k4⟩ => ?_
  obtain ⟨q, σ1⟩ := r
  simp only at k1 k2 k4
  subst k1
  have e1 : ((0 : Int) != 0) = false := rfl
  obtain ⟨el, hb1⟩ := k2.b
  have r1 := k3.r
  have w1 := k3.w
  simp (config := { maxSteps := 2000000 }) -implicitDefEqProofs (disch := (first | omega | rfl | assumption | (simp only [put_next, bump_next, kill_next, List.length_cons, List.length_nil, List.mem_cons, List.not_mem_nil, or_false, not_false_eq_true]; first | omega | assumption))) only [e1, hb1, Nat.reduceAdd, Nat.reduceMul, Nat.reduceLT, Int.reduceToNat, Int.reduceAdd, Int.reduceSub, Int.reduceMul, s_beq, List.length_cons, List.length_nil, List.getD_cons_zero, List.getD_cons_succ, List.getElem?_cons_zero, List.getElem?_cons_succ, Option.bind_some, Option.bind_assoc, s_bindN, asI_i, asB_b, asS_s, asP_p, asPS_p, asSl_sl, s_agg, s_tup, s_fn, joinB, joinI, joinR, beq_true, beq_false, Bool.not_true, Bool.not_false, Bool.not_not, cond_true, cond_false, neI, s_mapS, bindS_inl, bindS_inr, Bool.and_true, Bool.true_and, Bool.and_false, Bool.false_and, s_isNoneS, s_isNoneN, s_ref, s_adv, s_ldf, s_ld, s_ldM, s_st, s_stM, s_bs, s_bn, s_pp, bump_blk, bump_next, put_next, splice_z, splice_zz, splice_s, s_decT, s_decF, s_eqT, s_eqF, s_i64, s_u64, s_u8, Int.toNat_natCast, Nat.zero_add, s_room, s_chkT, s_rdSl, s_wrSl, s_ldN, s_ldNM, s_ldNf, List.drop_zero, List.take_succ_cons, List.take_zero, List.take_nil, List.take_length, Nat.mul_one, List.flatten_cons, List.flatten_nil, List.append_nil, List.nil_append, List.cons_append]
  have g0 := pset_ok k2.p ⟨by omega, by omega⟩ (k := 0) (x := x) he htk (by omega) (by omega)
  rw [show ((0 : Nat) : Int) = 0 from rfl] at g0
  refine Ok.step g0 fun q ⟨q1, M2, w2, q2, q3, q4⟩ => ?_
  obtain ⟨q, σ2⟩ := q
  simp only at q1 q2 q4
  subst q1
  simp (config := { maxSteps := 2000000 }) -implicitDefEqProofs (disch := (first | omega | rfl | assumption | (simp only [put_next, bump_next, kill_next, List.length_cons, List.length_nil, List.mem_cons, List.not_mem_nil, or_false, not_false_eq_true]; first | omega | assumption))) only [Nat.reduceAdd, Nat.reduceMul, Nat.reduceLT, Int.reduceToNat, Int.reduceAdd, Int.reduceSub, Int.reduceMul, s_beq, List.length_cons, List.length_nil, List.getD_cons_zero, List.getD_cons_succ, List.getElem?_cons_zero, List.getElem?_cons_succ, Option.bind_some, Option.bind_assoc, s_bindN, asI_i, asB_b, asS_s, asP_p, asPS_p, asSl_sl, s_agg, s_tup, s_fn, joinB, joinI, joinR, beq_true, beq_false, Bool.not_true, Bool.not_false, Bool.not_not, cond_true, cond_false, neI, s_mapS, bindS_inl, bindS_inr, Bool.and_true, Bool.true_and, Bool.and_false, Bool.false_and, s_isNoneS, s_isNoneN, s_ref, s_adv, s_ldf, s_ld, s_ldM, s_st, s_stM, s_bs, s_bn, s_pp, bump_blk, bump_next, put_next, splice_z, splice_zz, splice_s, s_decT, s_decF, s_eqT, s_eqF, s_i64, s_u64, s_u8, Int.toNat_natCast, Nat.zero_add, s_room, s_chkT, s_rdSl, s_wrSl, s_ldN, s_ldNM, s_ldNf, List.drop_zero, List.take_succ_cons, List.take_zero, List.take_nil, List.take_length, Nat.mul_one, List.flatten_cons, List.flatten_nil, List.append_nil, List.nil_append, List.cons_append]
  have hwl := h.p.p.wl e (List.mem_of_getElem? he)
  have hnow : (P.E.set i { e with ws := e.ws.set 0 x })[i]? = some { e with ws := e.ws.set 0 x } := by rw [List.getElem?_set]; simp [hi]
  have hoth : ∀ j, j ≠ i → (P.E.set i { e with ws := e.ws.set 0 x })[j]? = P.E[j]? := fun j hj => by rw [List.getElem?_set, if_neg (fun e => hj e.symm)]
  refine Ok_some.2 ⟨rfl, M2, w2, _, ⟨q2, hw, ⟨el, q4.head.trans hb1⟩, h.nx, h.l.words he (by decide) (by decide), fun j y hy ht => ?_, ?_, fun y hy => ?_⟩, rfl, ?_, fun j hj => ?_, (k3.trans q3).as rfl (by omega) (by omega), k4.trans q4.tail⟩
  · by_cases c : j = i
    · subst c; exact h.all j e he htk
    · simp only at hy
      rw [hoth j c] at hy; exact h.all j y hy ht
  · show (P.E.set _ _).length ≤ _
    rw [List.length_set]; exact h.few
  · rcases mem_set' hy with rfl | hy
    · exact h.gen e (List.mem_of_getElem? he)
    · exact h.gen y hy
  · rw [vw_mk hnow, htk, hg]
    have h0 : 0 < e.ws.length := by omega
    simp [h0]
  · unfold vw
    simp only
    rw [hoth j hj]

/-! ### Roots -/
structure RtB where
  mb : Nat
  rb : Nat
  fb : Nat
  gb : Nat
  gp : Nat
  kb : Nat
  kp : Nat
structure RootAt (σ : AH O) (B : RtB) (M : MemS) (F : FrmS) (wF : List Int) (P : PoolS) (C : List Nat) (w : List Int) (P2 : PoolS) (C2 : List Nat) (w2 : List Int) (X : List Nat) : Prop where
  f : FrmAt σ B.fb B.mb M F wF (B.rb :: B.gb :: B.gp :: B.kb :: B.kp :: X)
  g : HanAt σ B.gb B.gp B.mb M P C w (B.rb :: B.fb :: B.kb :: B.kp :: X)
  k : HanAt σ B.kb B.kp B.mb M P2 C2 w2 (B.rb :: B.fb :: B.gb :: B.gp :: X)
  b : ∃ el, σ.blk B.rb = some (.cells true el [.p (some (.n B.fb, 0)), .p (some (.n B.gb, 0)), .p (some (.n B.kb, 0))])
  ne : F.id ≠ P.id ∧ F.id ≠ P2.id ∧ P.id ≠ P2.id
  nx : B.rb ∉ X
section
variable {σ : AH O} {B : RtB} {M : MemS} {F : FrmS} {wF : List Int} {P : PoolS} {C : List Nat} {w : List Int} {P2 : PoolS} {C2 : List Nat} {w2 : List Int} {X : List Nat} (R : RootAt σ B M F wF P C w P2 C2 w2 X)
include R
theorem RootAt.onF {σ' : AH O} {M' : MemS} {F' : FrmS} {wF' : List Int} {dr dw : Int} (f : FrmAt σ' B.fb B.mb M' F' wF' (B.rb :: B.gb :: B.gp :: B.kb :: B.kp :: X)) (hid : F'.id = F.id) (hw : Wrt M M' F.id wF' dr dw) (hk : Keep (B.rb :: B.gb :: B.gp :: B.kb :: B.kp :: X) σ σ') : RootAt σ' B M' F' wF' P C w P2 C2 w2 X := by
  obtain ⟨n1, n2, n3⟩ := R.ne
  have h0 := (wordsOf_some R.f.now).1
  refine ⟨f, R.g.by (f.mi.mono fun c hc => ?_) (hk.blk _ (by simp)) (hk.blk _ (by simp)) (hw.other h0 (fun e => n1 e.symm)), R.k.by (f.mi.mono fun c hc => ?_) (hk.blk _ (by simp)) (hk.blk _ (by simp)) (hw.other h0 (fun e => n2 e.symm)), by obtain ⟨el, hb⟩ := R.b; exact ⟨el, (hk.blk _ (by simp)).trans hb⟩, by rw [hid]; exact R.ne, R.nx⟩
  · simp only [List.mem_cons] at hc ⊢
    rcases hc with h | h | h | h | h | h | h <;> simp [h]
  · simp only [List.mem_cons] at hc ⊢
    rcases hc with h | h | h | h | h | h | h <;> simp [h]
theorem RootAt.onG {σ' : AH O} {M' : MemS} {P' : PoolS} {C' : List Nat} {w' : List Int} {dr dw : Int} (g : HanAt σ' B.gb B.gp B.mb M' P' C' w' (B.rb :: B.fb :: B.kb :: B.kp :: X)) (hid : P'.id = P.id) (hw : Wrt M M' P.id w' dr dw) (hk : Keep (B.rb :: B.fb :: B.kb :: B.kp :: X) σ σ') : RootAt σ' B M' F wF P' C' w' P2 C2 w2 X := by
  obtain ⟨n1, n2, n3⟩ := R.ne
  have h0 := (wordsOf_some R.g.p.now).1
  refine ⟨R.f.by (g.p.mi.mono fun c hc => ?_) (hk.blk _ (by simp)) (hw.other h0 n1), g, R.k.by (g.p.mi.mono fun c hc => ?_) (hk.blk _ (by simp)) (hk.blk _ (by simp)) (hw.other h0 (fun e => n3 e.symm)), by obtain ⟨el, hb⟩ := R.b; exact ⟨el, (hk.blk _ (by simp)).trans hb⟩, by rw [hid]; exact R.ne, R.nx⟩
  · simp only [List.mem_cons] at hc ⊢
    rcases hc with h | h | h | h | h | h | h <;> simp [h]
  · simp only [List.mem_cons] at hc ⊢
    rcases hc with h | h | h | h | h | h | h <;> simp [h]
theorem RootAt.onK {σ' : AH O} {M' : MemS} {P' : PoolS} {C' : List Nat} {w' : List Int} {dr dw : Int} (g : HanAt σ' B.kb B.kp B.mb M' P' C' w' (B.rb :: B.fb :: B.gb :: B.gp :: X)) (hid : P'.id = P2.id) (hw : Wrt M M' P2.id w' dr dw) (hk : Keep (B.rb :: B.fb :: B.gb :: B.gp :: X) σ σ') : RootAt σ' B M' F wF P C w P' C' w' X := by
  obtain ⟨n1, n2, n3⟩ := R.ne
  have h0 := (wordsOf_some R.k.p.now).1
  refine ⟨R.f.by (g.p.mi.mono fun c hc => ?_) (hk.blk _ (by simp)) (hw.other h0 n2), R.g.by (g.p.mi.mono fun c hc => ?_) (hk.blk _ (by simp)) (hk.blk _ (by simp)) (hw.other h0 n3), g, by obtain ⟨el, hb⟩ := R.b; exact ⟨el, (hk.blk _ (by simp)).trans hb⟩, by rw [hid]; exact R.ne, R.nx⟩
  · simp only [List.mem_cons] at hc ⊢
    rcases hc with h | h | h | h | h | h | h <;> simp [h]
  · simp only [List.mem_cons] at hc ⊢
    rcases hc with h | h | h | h | h | h | h <;> simp [h]
/-- what is none of it turns -/
theorem RootAt.turn {σ' : AH O} {Y L : List Nat} (hc : Chg L σ σ') (hl : ∀ b ∈ L, b ∈ X ∨ σ.next ≤ b) (hY : ∀ b ∈ Y, b ∈ X ∨ (σ.next ≤ b ∧ b < σ'.next)) : RootAt σ' B M F wF P C w P2 C2 w2 Y := by
  have hlt : ∀ b, b ∈ B.fb :: B.rb :: B.gb :: B.gp :: B.kb :: B.kp :: X → b < σ.next := R.f.mi.lt
  have hmi : MemIn σ' B.mb M (B.fb :: B.rb :: B.gb :: B.gp :: B.kb :: B.kp :: Y) := R.f.mi.turn hc (fun b hb => (hl b hb).imp (fun h => by simp [h]) id) fun b hb => by
    simp only [List.mem_cons] at hb
    rcases hb with h | h | h | h | h | h | h
    · simp [h]
    · simp [h]
    · simp [h]
    · simp [h]
    · simp [h]
    · simp [h]
    · exact (hY b h).imp (fun h => by simp [h]) id
  have kp : ∀ b, b < σ.next → b ∉ L → σ'.blk b = σ.blk b := hc.blk
  have nfb := R.f.nx
  have ngb := R.g.nx
  have ngp := R.g.p.nx
  have nkb := R.k.nx
  have nkp := R.k.p.nx
  simp only [List.mem_cons, not_or] at nfb ngb ngp nkb nkp
  have nrb := R.nx
  have hL : ∀ b ∈ L, b ≠ B.rb ∧ b ≠ B.fb ∧ b ≠ B.gb ∧ b ≠ B.gp ∧ b ≠ B.kb ∧ b ≠ B.kp := fun b hb => by
    have h1 := hlt B.rb (by simp)
    have h2 := hlt B.fb (by simp)
    have h3 := hlt B.gb (by simp)
    have h4 := hlt B.gp (by simp)
    have h5 := hlt B.kb (by simp)
    have h6 := hlt B.kp (by simp)
    rcases hl b hb with h | h
    · exact ⟨fun e => nrb (e ▸ h), fun e => nfb.2.2.2.2.2 (e ▸ h), fun e => ngb.2.2.2.2 (e ▸ h), fun e => ngp.2.2.2.2.2 (e ▸ h), fun e => nkb.2.2.2.2 (e ▸ h), fun e => nkp.2.2.2.2.2 (e ▸ h)⟩
    · exact ⟨by omega, by omega, by omega, by omega, by omega, by omega⟩
  have key : ∀ b, b ∈ B.fb :: B.rb :: B.gb :: B.gp :: B.kb :: B.kp :: X → b ∉ X → b ∉ Y := fun b hb hx hy => by
    rcases hY b hy with h | h
    · exact hx h
    · have := hlt b hb; omega
  have n_f' : B.fb ∉ B.rb :: B.gb :: B.gp :: B.kb :: B.kp :: Y := fun hm => by
    simp only [List.mem_cons] at hm
    rcases hm with h | h | h | h | h | h
    · exact nfb.1 h
    · exact nfb.2.1 h
    · exact nfb.2.2.1 h
    · exact nfb.2.2.2.1 h
    · exact nfb.2.2.2.2.1 h
    · exact key _ (by simp) nfb.2.2.2.2.2 h
  have f' : FrmAt σ' B.fb B.mb M F wF (B.rb :: B.gb :: B.gp :: B.kb :: B.kp :: Y) :=
    { R.f with mi := hmi, b := (kp _ (hlt _ (by simp)) fun hm => (hL _ hm).2.1 rfl).trans R.f.b, nx := n_f' }
  have n_pg : B.gp ∉ B.gb :: B.rb :: B.fb :: B.kb :: B.kp :: Y := fun hm => by
    simp only [List.mem_cons] at hm
    rcases hm with h | h | h | h | h | h
    · exact ngp.1 h
    · exact ngp.2.1 h
    · exact ngp.2.2.1 h
    · exact ngp.2.2.2.1 h
    · exact ngp.2.2.2.2.1 h
    · exact key _ (by simp) ngp.2.2.2.2.2 h
  have pg : PoolAt σ' B.gp B.mb M P w (B.gb :: B.rb :: B.fb :: B.kb :: B.kp :: Y) :=
    { R.g.p with mi := hmi.mono (fun c hc => by simp only [List.mem_cons] at hc ⊢; rcases hc with h | h | h | h | h | h | h <;> simp [h]), b := (kp _ (hlt _ (by simp)) fun hm => (hL _ hm).2.2.2.1 rfl).trans R.g.p.b, nx := n_pg }
  have n_pk : B.kp ∉ B.kb :: B.rb :: B.fb :: B.gb :: B.gp :: Y := fun hm => by
    simp only [List.mem_cons] at hm
    rcases hm with h | h | h | h | h | h
    · exact nkp.1 h
    · exact nkp.2.1 h
    · exact nkp.2.2.1 h
    · exact nkp.2.2.2.1 h
    · exact nkp.2.2.2.2.1 h
    · exact key _ (by simp) nkp.2.2.2.2.2 h
  have pk : PoolAt σ' B.kp B.mb M P2 w2 (B.kb :: B.rb :: B.fb :: B.gb :: B.gp :: Y) :=
    { R.k.p with mi := hmi.mono (fun c hc => by simp only [List.mem_cons] at hc ⊢; rcases hc with h | h | h | h | h | h | h <;> simp [h]), b := (kp _ (hlt _ (by simp)) fun hm => (hL _ hm).2.2.2.2.2 rfl).trans R.k.p.b, nx := n_pk }
  refine ⟨f', { R.g with p := pg, b := ?_, nx := fun hm => ?_ }, { R.k with p := pk, b := ?_, nx := fun hm => ?_ }, ?_, R.ne, key _ (by simp) nrb⟩
  · obtain ⟨el, hb⟩ := R.g.b
    exact ⟨el, (kp _ (hlt _ (by simp)) fun hm => (hL _ hm).2.2.1 rfl).trans hb⟩
  · simp only [List.mem_cons] at hm
    rcases hm with h | h | h | h | h
    · exact ngb.1 h
    · exact ngb.2.1 h
    · exact ngb.2.2.1 h
    · exact ngb.2.2.2.1 h
    · exact key _ (by simp) ngb.2.2.2.2 h
  · obtain ⟨el, hb⟩ := R.k.b
    exact ⟨el, (kp _ (hlt _ (by simp)) fun hm => (hL _ hm).2.2.2.2.1 rfl).trans hb⟩
  · simp only [List.mem_cons] at hm
    rcases hm with h | h | h | h | h
    · exact nkb.1 h
    · exact nkb.2.1 h
    · exact nkb.2.2.1 h
    · exact nkb.2.2.2.1 h
    · exact key _ (by simp) nkb.2.2.2.2 h
  · obtain ⟨el, hb⟩ := R.b
    exact ⟨el, (kp _ (hlt _ (by simp)) fun hm => (hL _ hm).1 rfl).trans hb⟩
end
theorem slot_ok {σ : AH O} {n : Int} (h : -9223372036854775808 ≤ n ∧ n ≤ 9223372036854775807) : roots_Slot [.i .i64 n] σ = some (.i .i64 (-1 - n), σ) := by
  simp (config := { maxSteps := 2000000 }) -implicitDefEqProofs (disch := (first | omega | rfl | assumption | (simp only [put_next, bump_next, kill_next, List.length_cons, List.length_nil, List.mem_cons, List.not_mem_nil, or_false, not_false_eq_true]; first | omega | assumption))) only [roots_Slot, roots_Slot_c, Nat.reduceAdd, Nat.reduceMul, Nat.reduceLT, Int.reduceToNat, Int.reduceAdd, Int.reduceSub, Int.reduceMul, s_beq, List.length_cons, List.length_nil, List.getD_cons_zero, List.getD_cons_succ, List.getElem?_cons_zero, List.getElem?_cons_succ, Option.bind_some, Option.bind_assoc, s_bindN, asI_i, asB_b, asS_s, asP_p, asPS_p, asSl_sl, s_agg, s_tup, s_fn, joinB, joinI, joinR, beq_true, beq_false, Bool.not_true, Bool.not_false, Bool.not_not, cond_true, cond_false, neI, s_mapS, bindS_inl, bindS_inr, Bool.and_true, Bool.true_and, Bool.and_false, Bool.false_and, s_isNoneS, s_isNoneN, s_ref, s_adv, s_ldf, s_ld, s_ldM, s_st, s_stM, s_bs, s_bn, s_pp, bump_blk, bump_next, put_next, splice_z, splice_zz, splice_s, s_decT, s_decF, s_eqT, s_eqF, s_i64, s_u64, s_u8, Int.toNat_natCast, Nat.zero_add, s_room, s_chkT, s_rdSl, s_wrSl, s_ldN, s_ldNM, s_ldNf, List.drop_zero, List.take_succ_cons, List.take_zero, List.take_nil, List.take_length, Nat.mul_one, List.flatten_cons, List.flatten_nil, List.append_nil, List.nil_append, List.cons_append]
/-! ### Names and what they hold -/
abbrev Tk := Nat × Nat
/-- the k-th name: five slots, then the tokens -/
def nmS (n : Nat) (T : List Tk) (k : Nat) : Int := if k < n then -1 - (k : Int) else match T[k - n]? with | some p => tok p.1 p.2 | none => 0
structure RV (n : Nat) (F : FrmS) (P : PoolS) (T : List Tk) (v : Nat → Int) : Prop where
  f : ∃ f, F.L = [f] ∧ f.length = n ∧ ∀ k, k < n → f[k]? = some (v k)
  t : ∀ j p, T[j]? = some p → vw P.E p.1 = some (true, p.2, some (v (n + j)))
  nd : (T.map (·.1)).Nodup
def upd (v : Nat → Int) (k : Nat) (x : Int) : Nat → Int := fun j => if j = k then x else v j
theorem RV.get {n : Nat} {F : FrmS} {P : PoolS} {T : List Tk} {v : Nat → Int} (V : RV n F P T v) {a b : Nat} {p q : Tk} (ha : T[a]? = some p) (hb : T[b]? = some q) (h : p.1 = q.1) : a = b := by
  have h1 : (T.map (·.1))[a]? = some p.1 := by rw [List.getElem?_map, ha]; rfl
  have h2 : (T.map (·.1))[b]? = some p.1 := by rw [List.getElem?_map, hb, h]; rfl
  exact nodup_at V.nd h1 h2
section
variable {σ : AH O} {B : RtB} {M : MemS} {F : FrmS} {wF : List Int} {P : PoolS} {C : List Nat} {w : List Int} {P2 : PoolS} {C2 : List Nat} {w2 : List Int} {X : List Nat} (R : RootAt σ B M F wF P C w P2 C2 w2 X) (hm : M.met.r + 2000 < 85070591730234615865843651857942052864 ∧ M.met.w + 2000 < 85070591730234615865843651857942052864)
include R hm
theorem rget_ok {n : Nat} {T : List Tk} {v : Nat → Int} (V : RV n F P T v) {k : Nat} (hk : k < n + T.length) (hn : n ≤ 256) : Ok (roots_Roots__Get [.p (some (.n B.rb, 0)), .i .i64 (nmS n T k)] σ) fun r => r.1 = .tup [.i .u64 (v k), .i .i64 0] ∧ ∃ M', RootAt r.2 B M' F wF P C w P2 C2 w2 X ∧ M'.met.r ≤ M.met.r + 4 ∧ M'.met.w = M.met.w ∧ Keep X σ r.2 := by
  obtain ⟨el, hb⟩ := R.b
  by_cases c : k < n
  · obtain ⟨f, hL, hl, hf⟩ := V.f
    have e : nmS n T k = -1 - (k : Int) := by unfold nmS; rw [if_pos c]
    have sl := slot_ok (σ := σ) (n := -1 - (k : Int)) (by omega)
    rw [show -1 - (-1 - (k : Int)) = (k : Int) by omega] at sl
    have d0 := decide_eq_false (show ¬ (-1 - (k : Int) ≥ 0) by omega)
    rw [e]
    simp (config := { maxSteps := 2000000 }) -implicitDefEqProofs (disch := (first | omega | rfl | assumption | (simp only [put_next, bump_next, kill_next, List.length_cons, List.length_nil, List.mem_cons, List.not_mem_nil, or_false, not_false_eq_true]; first | omega | assumption))) only [roots_Roots__Get, roots_Roots__Get_c, hb, sl, d0, Nat.reduceAdd, Nat.reduceMul, Nat.reduceLT, Int.reduceToNat, Int.reduceAdd, Int.reduceSub, Int.reduceMul, s_beq, List.length_cons, List.length_nil, List.getD_cons_zero, List.getD_cons_succ, List.getElem?_cons_zero, List.getElem?_cons_succ, Option.bind_some, Option.bind_assoc, s_bindN, asI_i, asB_b, asS_s, asP_p, asPS_p, asSl_sl, s_agg, s_tup, s_fn, joinB, joinI, joinR, beq_true, beq_false, Bool.not_true, Bool.not_false, Bool.not_not, cond_true, cond_false, neI, s_mapS, bindS_inl, bindS_inr, Bool.and_true, Bool.true_and, Bool.and_false, Bool.false_and, s_isNoneS, s_isNoneN, s_ref, s_adv, s_ldf, s_ld, s_ldM, s_st, s_stM, s_bs, s_bn, s_pp, bump_blk, bump_next, put_next, splice_z, splice_zz, splice_s, s_decT, s_decF, s_eqT, s_eqF, s_i64, s_u64, s_u8, Int.toNat_natCast, Nat.zero_add, s_room, s_chkT, s_rdSl, s_wrSl, s_ldN, s_ldNM, s_ldNf, List.drop_zero, List.take_succ_cons, List.take_zero, List.take_nil, List.take_length, Nat.mul_one, List.flatten_cons, List.flatten_nil, List.append_nil, List.nil_append, List.cons_append]
    refine Ok.step (fget_ok R.f ⟨by omega, by omega⟩ (slot := (k : Int)) hL (by omega) (by omega)) fun r ⟨k1, M1, k2, k3, k4⟩ => ?_
    obtain ⟨q, σ1⟩ := r
    simp only at k1 k2 k4
    rw [Int.toNat_natCast, List.getD_eq_getElem?_getD, hf k c] at k1
    simp only [Option.getD_some] at k1
    subst k1
    have r1 := k3.r
    have v1 := k3.w
    simp (config := { maxSteps := 2000000 }) -implicitDefEqProofs (disch := (first | omega | rfl | assumption | (simp only [put_next, bump_next, kill_next, List.length_cons, List.length_nil, List.mem_cons, List.not_mem_nil, or_false, not_false_eq_true]; first | omega | assumption))) only [Nat.reduceAdd, Nat.reduceMul, Nat.reduceLT, Int.reduceToNat, Int.reduceAdd, Int.reduceSub, Int.reduceMul, s_beq, List.length_cons, List.length_nil, List.getD_cons_zero, List.getD_cons_succ, List.getElem?_cons_zero, List.getElem?_cons_succ, Option.bind_some, Option.bind_assoc, s_bindN, asI_i, asB_b, asS_s, asP_p, asPS_p, asSl_sl, s_agg, s_tup, s_fn, joinB, joinI, joinR, beq_true, beq_false, Bool.not_true, Bool.not_false, Bool.not_not, cond_true, cond_false, neI, s_mapS, bindS_inl, bindS_inr, Bool.and_true, Bool.true_and, Bool.and_false, Bool.false_and, s_isNoneS, s_isNoneN, s_ref, s_adv, s_ldf, s_ld, s_ldM, s_st, s_stM, s_bs, s_bn, s_pp, bump_blk, bump_next, put_next, splice_z, splice_zz, splice_s, s_decT, s_decF, s_eqT, s_eqF, s_i64, s_u64, s_u8, Int.toNat_natCast, Nat.zero_add, s_room, s_chkT, s_rdSl, s_wrSl, s_ldN, s_ldNM, s_ldNf, List.drop_zero, List.take_succ_cons, List.take_zero, List.take_nil, List.take_length, Nat.mul_one, List.flatten_cons, List.flatten_nil, List.append_nil, List.nil_append, List.cons_append]
    exact Ok_some.2 ⟨rfl, M1, R.onF k2 rfl k3 k4, by omega, by omega, k4.mono fun b hb => by simp [hb]⟩
  · obtain ⟨p, hp⟩ : ∃ p, T[k - n]? = some p := ⟨_, List.getElem?_eq_getElem (by omega)⟩
    have e : nmS n T k = tok p.1 p.2 := by unfold nmS; rw [if_neg c, hp]
    have hv := V.t _ _ hp
    rw [show n + (k - n) = k by omega] at hv
    have d0 := decide_eq_true (show tok p.1 p.2 ≥ 0 by unfold tok; omega)
    rw [e]
    simp (config := { maxSteps := 2000000 }) -implicitDefEqProofs (disch := (first | omega | rfl | assumption | (simp only [put_next, bump_next, kill_next, List.length_cons, List.length_nil, List.mem_cons, List.not_mem_nil, or_false, not_false_eq_true]; first | omega | assumption))) only [roots_Roots__Get, roots_Roots__Get_c, hb, d0, Nat.reduceAdd, Nat.reduceMul, Nat.reduceLT, Int.reduceToNat, Int.reduceAdd, Int.reduceSub, Int.reduceMul, s_beq, List.length_cons, List.length_nil, List.getD_cons_zero, List.getD_cons_succ, List.getElem?_cons_zero, List.getElem?_cons_succ, Option.bind_some, Option.bind_assoc, s_bindN, asI_i, asB_b, asS_s, asP_p, asPS_p, asSl_sl, s_agg, s_tup, s_fn, joinB, joinI, joinR, beq_true, beq_false, Bool.not_true, Bool.not_false, Bool.not_not, cond_true, cond_false, neI, s_mapS, bindS_inl, bindS_inr, Bool.and_true, Bool.true_and, Bool.and_false, Bool.false_and, s_isNoneS, s_isNoneN, s_ref, s_adv, s_ldf, s_ld, s_ldM, s_st, s_stM, s_bs, s_bn, s_pp, bump_blk, bump_next, put_next, splice_z, splice_zz, splice_s, s_decT, s_decF, s_eqT, s_eqF, s_i64, s_u64, s_u8, Int.toNat_natCast, Nat.zero_add, s_room, s_chkT, s_rdSl, s_wrSl, s_ldN, s_ldNM, s_ldNf, List.drop_zero, List.take_succ_cons, List.take_zero, List.take_nil, List.take_length, Nat.mul_one, List.flatten_cons, List.flatten_nil, List.append_nil, List.nil_append, List.cons_append]
    refine Ok.step (hget_ok R.g ⟨by omega, by omega⟩ hv) fun r ⟨k1, M1, k2, k3, k4⟩ => ?_
    obtain ⟨q, σ1⟩ := r
    simp only at k1 k2 k4
    subst k1
    have r1 := k3.r
    have v1 := k3.w
    simp (config := { maxSteps := 2000000 }) -implicitDefEqProofs (disch := (first | omega | rfl | assumption | (simp only [put_next, bump_next, kill_next, List.length_cons, List.length_nil, List.mem_cons, List.not_mem_nil, or_false, not_false_eq_true]; first | omega | assumption))) only [Nat.reduceAdd, Nat.reduceMul, Nat.reduceLT, Int.reduceToNat, Int.reduceAdd, Int.reduceSub, Int.reduceMul, s_beq, List.length_cons, List.length_nil, List.getD_cons_zero, List.getD_cons_succ, List.getElem?_cons_zero, List.getElem?_cons_succ, Option.bind_some, Option.bind_assoc, s_bindN, asI_i, asB_b, asS_s, asP_p, asPS_p, asSl_sl, s_agg, s_tup, s_fn, joinB, joinI, joinR, beq_true, beq_false, Bool.not_true, Bool.not_false, Bool.not_not, cond_true, cond_false, neI, s_mapS, bindS_inl, bindS_inr, Bool.and_true, Bool.true_and, Bool.and_false, Bool.false_and, s_isNoneS, s_isNoneN, s_ref, s_adv, s_ldf, s_ld, s_ldM, s_st, s_stM, s_bs, s_bn, s_pp, bump_blk, bump_next, put_next, splice_z, splice_zz, splice_s, s_decT, s_decF, s_eqT, s_eqF, s_i64, s_u64, s_u8, Int.toNat_natCast, Nat.zero_add, s_room, s_chkT, s_rdSl, s_wrSl, s_ldN, s_ldNM, s_ldNf, List.drop_zero, List.take_succ_cons, List.take_zero, List.take_nil, List.take_length, Nat.mul_one, List.flatten_cons, List.flatten_nil, List.append_nil, List.nil_append, List.cons_append]
    exact Ok_some.2 ⟨rfl, M1, R.onG k2 rfl k3 k4, by omega, by omega, k4.mono fun b hb => by simp [hb]⟩
theorem rset_ok {n : Nat} {T : List Tk} {v : Nat → Int} (V : RV n F P T v) {k : Nat} (hk : k < n + T.length) (hn : n ≤ 256) {x : Int} : Ok (roots_Roots__Set [.p (some (.n B.rb, 0)), .i .i64 (nmS n T k), .i .u64 x] σ) fun r => r.1 = .i .i64 0 ∧ ∃ M' F' wF' P' w', RootAt r.2 B M' F' wF' P' C w' P2 C2 w2 X ∧ RV n F' P' T (upd v k x) ∧ F'.L.length = 1 ∧ M'.met.r ≤ M.met.r + 4 ∧ M'.met.w ≤ M.met.w + 4 ∧ Keep X σ r.2 := by
  obtain ⟨el, hb⟩ := R.b
  obtain ⟨f, hL, hl, hf⟩ := V.f
  by_cases c : k < n
  · have e : nmS n T k = -1 - (k : Int) := by unfold nmS; rw [if_pos c]
    have sl := slot_ok (σ := σ) (n := -1 - (k : Int)) (by omega)
    rw [show -1 - (-1 - (k : Int)) = (k : Int) by omega] at sl
    have d0 := decide_eq_false (show ¬ (-1 - (k : Int) ≥ 0) by omega)
    rw [e]
    simp (config := { maxSteps := 2000000 }) -implicitDefEqProofs (disch := (first | omega | rfl | assumption | (simp only [put_next, bump_next, kill_next, List.length_cons, List.length_nil, List.mem_cons, List.not_mem_nil, or_false, not_false_eq_true]; first | omega | assumption))) only [roots_Roots__Set, roots_Roots__Set_c, hb, sl, d0, Nat.reduceAdd, Nat.reduceMul, Nat.reduceLT, Int.reduceToNat, Int.reduceAdd, Int.reduceSub, Int.reduceMul, s_beq, List.length_cons, List.length_nil, List.getD_cons_zero, List.getD_cons_succ, List.getElem?_cons_zero, List.getElem?_cons_succ, Option.bind_some, Option.bind_assoc, s_bindN, asI_i, asB_b, asS_s, asP_p, asPS_p, asSl_sl, s_agg, s_tup, s_fn, joinB, joinI, joinR, beq_true, beq_false, Bool.not_true, Bool.not_false, Bool.not_not, cond_true, cond_false, neI, s_mapS, bindS_inl, bindS_inr, Bool.and_true, Bool.true_and, Bool.and_false, Bool.false_and, s_isNoneS, s_isNoneN, s_ref, s_adv, s_ldf, s_ld, s_ldM, s_st, s_stM, s_bs, s_bn, s_pp, bump_blk, bump_next, put_next, splice_z, splice_zz, splice_s, s_decT, s_decF, s_eqT, s_eqF, s_i64, s_u64, s_u8, Int.toNat_natCast, Nat.zero_add, s_room, s_chkT, s_rdSl, s_wrSl, s_ldN, s_ldNM, s_ldNf, List.drop_zero, List.take_succ_cons, List.take_zero, List.take_nil, List.take_length, Nat.mul_one, List.flatten_cons, List.flatten_nil, List.append_nil, List.nil_append, List.cons_append]
    refine Ok.step (fset_ok R.f ⟨by omega, by omega⟩ (slot := (k : Int)) (x := x) hL (by omega) (by omega)) fun r ⟨k1, M1, w1, k2, k3, k4⟩ => ?_
    obtain ⟨q, σ1⟩ := r
    simp only at k1 k2 k4
    subst k1
    have r1 := k3.r
    have v1 := k3.w
    simp (config := { maxSteps := 2000000 }) -implicitDefEqProofs (disch := (first | omega | rfl | assumption | (simp only [put_next, bump_next, kill_next, List.length_cons, List.length_nil, List.mem_cons, List.not_mem_nil, or_false, not_false_eq_true]; first | omega | assumption))) only [Nat.reduceAdd, Nat.reduceMul, Nat.reduceLT, Int.reduceToNat, Int.reduceAdd, Int.reduceSub, Int.reduceMul, s_beq, List.length_cons, List.length_nil, List.getD_cons_zero, List.getD_cons_succ, List.getElem?_cons_zero, List.getElem?_cons_succ, Option.bind_some, Option.bind_assoc, s_bindN, asI_i, asB_b, asS_s, asP_p, asPS_p, asSl_sl, s_agg, s_tup, s_fn, joinB, joinI, joinR, beq_true, beq_false, Bool.not_true, Bool.not_false, Bool.not_not, cond_true, cond_false, neI, s_mapS, bindS_inl, bindS_inr, Bool.and_true, Bool.true_and, Bool.and_false, Bool.false_and, s_isNoneS, s_isNoneN, s_ref, s_adv, s_ldf, s_ld, s_ldM, s_st, s_stM, s_bs, s_bn, s_pp, bump_blk, bump_next, put_next, splice_z, splice_zz, splice_s, s_decT, s_decF, s_eqT, s_eqF, s_i64, s_u64, s_u8, Int.toNat_natCast, Nat.zero_add, s_room, s_chkT, s_rdSl, s_wrSl, s_ldN, s_ldNM, s_ldNf, List.drop_zero, List.take_succ_cons, List.take_zero, List.take_nil, List.take_length, Nat.mul_one, List.flatten_cons, List.flatten_nil, List.append_nil, List.nil_append, List.cons_append]
    refine Ok_some.2 ⟨rfl, M1, _, w1, P, w, R.onF k2 rfl k3 k4, ⟨⟨_, rfl, by rw [List.length_set]; exact hl, fun j hj => ?_⟩, fun j p hp => ?_, V.nd⟩, rfl, by omega, by omega, k4.mono fun b hb => by simp [hb]⟩
    · rw [Int.toNat_natCast, List.getElem?_set]
      unfold upd
      by_cases cj : k = j
      · subst cj; simp [hl, c]
      · rw [if_neg cj, if_neg (fun e => cj e.symm)]; exact hf j hj
    · rw [V.t j p hp]; unfold upd; rw [if_neg (by omega)]
  · obtain ⟨p, hp⟩ : ∃ p, T[k - n]? = some p := ⟨_, List.getElem?_eq_getElem (by omega)⟩
    have e : nmS n T k = tok p.1 p.2 := by unfold nmS; rw [if_neg c, hp]
    have hv := V.t _ _ hp
    have d0 := decide_eq_true (show tok p.1 p.2 ≥ 0 by unfold tok; omega)
    rw [e]
    simp (config := { maxSteps := 2000000 }) -implicitDefEqProofs (disch := (first | omega | rfl | assumption | (simp only [put_next, bump_next, kill_next, List.length_cons, List.length_nil, List.mem_cons, List.not_mem_nil, or_false, not_false_eq_true]; first | omega | assumption))) only [roots_Roots__Set, roots_Roots__Set_c, hb, d0, Nat.reduceAdd, Nat.reduceMul, Nat.reduceLT, Int.reduceToNat, Int.reduceAdd, Int.reduceSub, Int.reduceMul, s_beq, List.length_cons, List.length_nil, List.getD_cons_zero, List.getD_cons_succ, List.getElem?_cons_zero, List.getElem?_cons_succ, Option.bind_some, Option.bind_assoc, s_bindN, asI_i, asB_b, asS_s, asP_p, asPS_p, asSl_sl, s_agg, s_tup, s_fn, joinB, joinI, joinR, beq_true, beq_false, Bool.not_true, Bool.not_false, Bool.not_not, cond_true, cond_false, neI, s_mapS, bindS_inl, bindS_inr, Bool.and_true, Bool.true_and, Bool.and_false, Bool.false_and, s_isNoneS, s_isNoneN, s_ref, s_adv, s_ldf, s_ld, s_ldM, s_st, s_stM, s_bs, s_bn, s_pp, bump_blk, bump_next, put_next, splice_z, splice_zz, splice_s, s_decT, s_decF, s_eqT, s_eqF, s_i64, s_u64, s_u8, Int.toNat_natCast, Nat.zero_add, s_room, s_chkT, s_rdSl, s_wrSl, s_ldN, s_ldNM, s_ldNf, List.drop_zero, List.take_succ_cons, List.take_zero, List.take_nil, List.take_length, Nat.mul_one, List.flatten_cons, List.flatten_nil, List.append_nil, List.nil_append, List.cons_append]
    refine Ok.step (hset_ok R.g ⟨by omega, by omega⟩ (x := x) hv) fun r ⟨k1, M1, w1, P1, k2, k3, k4, k5, k6, k7⟩ => ?_
    obtain ⟨q, σ1⟩ := r
    simp only at k1 k2 k7
    subst k1
    have r1 := k6.r
    have v1 := k6.w
    simp (config := { maxSteps := 2000000 }) -implicitDefEqProofs (disch := (first | omega | rfl | assumption | (simp only [put_next, bump_next, kill_next, List.length_cons, List.length_nil, List.mem_cons, List.not_mem_nil, or_false, not_false_eq_true]; first | omega | assumption))) only [Nat.reduceAdd, Nat.reduceMul, Nat.reduceLT, Int.reduceToNat, Int.reduceAdd, Int.reduceSub, Int.reduceMul, s_beq, List.length_cons, List.length_nil, List.getD_cons_zero, List.getD_cons_succ, List.getElem?_cons_zero, List.getElem?_cons_succ, Option.bind_some, Option.bind_assoc, s_bindN, asI_i, asB_b, asS_s, asP_p, asPS_p, asSl_sl, s_agg, s_tup, s_fn, joinB, joinI, joinR, beq_true, beq_false, Bool.not_true, Bool.not_false, Bool.not_not, cond_true, cond_false, neI, s_mapS, bindS_inl, bindS_inr, Bool.and_true, Bool.true_and, Bool.and_false, Bool.false_and, s_isNoneS, s_isNoneN, s_ref, s_adv, s_ldf, s_ld, s_ldM, s_st, s_stM, s_bs, s_bn, s_pp, bump_blk, bump_next, put_next, splice_z, splice_zz, splice_s, s_decT, s_decF, s_eqT, s_eqF, s_i64, s_u64, s_u8, Int.toNat_natCast, Nat.zero_add, s_room, s_chkT, s_rdSl, s_wrSl, s_ldN, s_ldNM, s_ldNf, List.drop_zero, List.take_succ_cons, List.take_zero, List.take_nil, List.take_length, Nat.mul_one, List.flatten_cons, List.flatten_nil, List.append_nil, List.nil_append, List.cons_append]
    refine Ok_some.2 ⟨rfl, M1, F, wF, P1, w1, R.onG k2 k3 k6 k7, ⟨⟨f, hL, hl, fun j hj => ?_⟩, fun j q hq => ?_, V.nd⟩, by rw [hL]; rfl, by omega, by omega, k7.mono fun b hb => by simp [hb]⟩
    · unfold upd; rw [if_neg (by omega)]; exact hf j hj
    · unfold upd
      by_cases cj : p.1 = q.1
      · have : k - n = j := V.get hp hq cj
        subst this
        rw [hp] at hq; cases hq
        rw [k4, if_pos (by omega)]
      · have : n + j ≠ k := fun e => by
          have : k - n = j := by omega
          subst this
          rw [hp] at hq; cases hq; exact cj rfl
        rw [k5 _ (fun e => cj e.symm), if_neg this]
        exact V.t j q hq
theorem radd_ok {n : Nat} {T : List Tk} {v : Nat → Int} (V : RV n F P T v) (hv : v (n + T.length) = 0) (hE : P.E.length ≤ 5) (hR : P.room ≤ 160) (hg : ∀ e ∈ P.E, e.gen ≤ 5) : Ok (roots_Roots__Add [.p (some (.n B.rb, 0))] σ) fun r => ∃ p : Tk, ∃ M' P' w', r.1 = .tup [.i .i64 (tok p.1 p.2), .i .i64 0] ∧ RootAt r.2 B M' F wF P' (C ++ [p.1]) w' P2 C2 w2 X ∧ RV n F P' (T ++ [p]) v ∧ HCame P P' p.1 p.2 0 ∧ M'.met.r ≤ M.met.r + 16 ∧ M'.met.w ≤ M.met.w + 16 ∧ Keep X σ r.2 := by
  obtain ⟨el, hb⟩ := R.b
  have hmore : P.more ≤ 160 := by
    have := R.g.p.p.made
    unfold PoolS.more; split <;> omega
  simp (config := { maxSteps := 2000000 }) -implicitDefEqProofs (disch := (first | omega | rfl | assumption | (simp only [put_next, bump_next, kill_next, List.length_cons, List.length_nil, List.mem_cons, List.not_mem_nil, or_false, not_false_eq_true]; first | omega | assumption))) only [roots_Roots__Add, roots_Roots__Add_c, hb, Nat.reduceAdd, Nat.reduceMul, Nat.reduceLT, Int.reduceToNat, Int.reduceAdd, Int.reduceSub, Int.reduceMul, s_beq, List.length_cons, List.length_nil, List.getD_cons_zero, List.getD_cons_succ, List.getElem?_cons_zero, List.getElem?_cons_succ, Option.bind_some, Option.bind_assoc, s_bindN, asI_i, asB_b, asS_s, asP_p, asPS_p, asSl_sl, s_agg, s_tup, s_fn, joinB, joinI, joinR, beq_true, beq_false, Bool.not_true, Bool.not_false, Bool.not_not, cond_true, cond_false, neI, s_mapS, bindS_inl, bindS_inr, Bool.and_true, Bool.true_and, Bool.and_false, Bool.false_and, s_isNoneS, s_isNoneN, s_ref, s_adv, s_ldf, s_ld, s_ldM, s_st, s_stM, s_bs, s_bn, s_pp, bump_blk, bump_next, put_next, splice_z, splice_zz, splice_s, s_decT, s_decF, s_eqT, s_eqF, s_i64, s_u64, s_u8, Int.toNat_natCast, Nat.zero_add, s_room, s_chkT, s_rdSl, s_wrSl, s_ldN, s_ldNM, s_ldNf, List.drop_zero, List.take_succ_cons, List.take_zero, List.take_nil, List.take_length, Nat.mul_one, List.flatten_cons, List.flatten_nil, List.append_nil, List.nil_append, List.cons_append]
  refine Ok.step (hadd_ok R.g ⟨by omega, by omega⟩ (x := 0) (by omega) (by omega) fun e he => by have := hg e he; omega) fun r ⟨i, g, P1, p1, c, M1, w1, dr, dw, p2, p3, d1, d2, d3, p4⟩ => ?_
  obtain ⟨q, σ1⟩ := r
  simp only at p1 p2 p4
  subst p1
  have r1 := p3.r
  have v1 := p3.w
  simp (config := { maxSteps := 2000000 }) -implicitDefEqProofs (disch := (first | omega | rfl | assumption | (simp only [put_next, bump_next, kill_next, List.length_cons, List.length_nil, List.mem_cons, List.not_mem_nil, or_false, not_false_eq_true]; first | omega | assumption))) only [Nat.reduceAdd, Nat.reduceMul, Nat.reduceLT, Int.reduceToNat, Int.reduceAdd, Int.reduceSub, Int.reduceMul, s_beq, List.length_cons, List.length_nil, List.getD_cons_zero, List.getD_cons_succ, List.getElem?_cons_zero, List.getElem?_cons_succ, Option.bind_some, Option.bind_assoc, s_bindN, asI_i, asB_b, asS_s, asP_p, asPS_p, asSl_sl, s_agg, s_tup, s_fn, joinB, joinI, joinR, beq_true, beq_false, Bool.not_true, Bool.not_false, Bool.not_not, cond_true, cond_false, neI, s_mapS, bindS_inl, bindS_inr, Bool.and_true, Bool.true_and, Bool.and_false, Bool.false_and, s_isNoneS, s_isNoneN, s_ref, s_adv, s_ldf, s_ld, s_ldM, s_st, s_stM, s_bs, s_bn, s_pp, bump_blk, bump_next, put_next, splice_z, splice_zz, splice_s, s_decT, s_decF, s_eqT, s_eqF, s_i64, s_u64, s_u8, Int.toNat_natCast, Nat.zero_add, s_room, s_chkT, s_rdSl, s_wrSl, s_ldN, s_ldNM, s_ldNf, List.drop_zero, List.take_succ_cons, List.take_zero, List.take_nil, List.take_length, Nat.mul_one, List.flatten_cons, List.flatten_nil, List.append_nil, List.nil_append, List.cons_append]
  have hne : ∀ (j : Nat) (p : Tk), T[j]? = some p → p.1 ≠ i := fun j p hp e => by
    have h1 := V.t j p hp
    rw [e] at h1
    rcases c.was with ⟨q, _⟩ | ⟨y, q⟩
    · rw [q] at h1; cases h1
    · rw [q] at h1; simp at h1
  refine Ok_some.2 ⟨(i, g), M1, P1, w1, rfl, R.onG p2 c.id p3 p4, ⟨V.f, fun j p hp => ?_, ?_⟩, c, by omega, by omega, p4.mono fun b hb => by simp [hb]⟩
  · rcases Nat.lt_or_ge j T.length with hj | hj
    · rw [List.getElem?_append_left hj] at hp
      rw [c.other _ (hne j p hp)]
      exact V.t j p hp
    · rw [List.getElem?_append_right hj] at hp
      have hj0 : j - T.length = 0 := by
        have := (List.getElem?_eq_some_iff.1 hp).1
        simp at this; omega
      rw [hj0] at hp
      simp at hp
      subst hp
      rw [show j = T.length by omega, hv]
      exact c.now
  · rw [List.map_append, List.nodup_append]
    refine ⟨V.nd, by simp, fun a ha b hb e => ?_⟩
    simp at hb
    obtain ⟨p, hp, rfl⟩ := List.mem_map.1 ha
    obtain ⟨j, hj⟩ := List.getElem?_of_mem hp
    exact hne j p hj (e.trans hb)
end
theorem rnew_nil {σ : AH O} : roots_New [.p none] σ = some (.tup [.p none, .i .i64 1], σ) := by
  have e1 : ((1 : Int) != 0) = true := rfl
  simp (config := { maxSteps := 2000000 }) -implicitDefEqProofs (disch := (first | omega | rfl | assumption | (simp only [put_next, bump_next, kill_next, List.length_cons, List.length_nil, List.mem_cons, List.not_mem_nil, or_false, not_false_eq_true]; first | omega | assumption))) only [roots_New, roots_New_c, fnew_nil, e1, Nat.reduceAdd, Nat.reduceMul, Nat.reduceLT, Int.reduceToNat, Int.reduceAdd, Int.reduceSub, Int.reduceMul, s_beq, List.length_cons, List.length_nil, List.getD_cons_zero, List.getD_cons_succ, List.getElem?_cons_zero, List.getElem?_cons_succ, Option.bind_some, Option.bind_assoc, s_bindN, asI_i, asB_b, asS_s, asP_p, asPS_p, asSl_sl, s_agg, s_tup, s_fn, joinB, joinI, joinR, beq_true, beq_false, Bool.not_true, Bool.not_false, Bool.not_not, cond_true, cond_false, neI, s_mapS, bindS_inl, bindS_inr, Bool.and_true, Bool.true_and, Bool.and_false, Bool.false_and, s_isNoneS, s_isNoneN, s_ref, s_adv, s_ldf, s_ld, s_ldM, s_st, s_stM, s_bs, s_bn, s_pp, bump_blk, bump_next, put_next, splice_z, splice_zz, splice_s, s_decT, s_decF, s_eqT, s_eqF, s_i64, s_u64, s_u8, Int.toNat_natCast, Nat.zero_add, s_room, s_chkT, s_rdSl, s_wrSl, s_ldN, s_ldNM, s_ldNf, List.drop_zero, List.take_succ_cons, List.take_zero, List.take_nil, List.take_length, Nat.mul_one, List.flatten_cons, List.flatten_nil, List.append_nil, List.nil_append, List.cons_append]
def mem1 : MemS := MemS.new.opn (ff MemS.new.sp) 0
def mem2 : MemS := mem1.opn (ff mem1.sp) 0
def mem3 : MemS := mem2.opn (ff mem2.sp) 0
theorem made19_ok {σ : AH O} {X : List Nat} (hX : ∀ b ∈ X, b < σ.next) : Ok (law19_made [] σ) fun r => ∃ B : RtB, ∃ F P P2, r.1 = .tup [.p (some (.n B.rb, 0)), .b true] ∧ RootAt r.2 B mem3 F [] P [] [] P2 [] [] X ∧ F = ⟨0, 0, []⟩ ∧ P = ⟨1, 3, 0, [], [], 0⟩ ∧ P2 = ⟨2, 3, 0, [], [], 0⟩ ∧ Keep X σ r.2 := by
  simp (config := { maxSteps := 2000000 }) -implicitDefEqProofs (disch := (first | omega | rfl | assumption | (simp only [put_next, bump_next, kill_next, List.length_cons, List.length_nil, List.mem_cons, List.not_mem_nil, or_false, not_false_eq_true]; first | omega | assumption))) only [law19_made, law19_made_c, Nat.reduceAdd, Nat.reduceMul, Nat.reduceLT, Int.reduceToNat, Int.reduceAdd, Int.reduceSub, Int.reduceMul, s_beq, List.length_cons, List.length_nil, List.getD_cons_zero, List.getD_cons_succ, List.getElem?_cons_zero, List.getElem?_cons_succ, Option.bind_some, Option.bind_assoc, s_bindN, asI_i, asB_b, asS_s, asP_p, asPS_p, asSl_sl, s_agg, s_tup, s_fn, joinB, joinI, joinR, beq_true, beq_false, Bool.not_true, Bool.not_false, Bool.not_not, cond_true, cond_false, neI, s_mapS, bindS_inl, bindS_inr, Bool.and_true, Bool.true_and, Bool.and_false, Bool.false_and, s_isNoneS, s_isNoneN, s_ref, s_adv, s_ldf, s_ld, s_ldM, s_st, s_stM, s_bs, s_bn, s_pp, bump_blk, bump_next, put_next, splice_z, splice_zz, splice_s, s_decT, s_decF, s_eqT, s_eqF, s_i64, s_u64, s_u8, Int.toNat_natCast, Nat.zero_add, s_room, s_chkT, s_rdSl, s_wrSl, s_ldN, s_ldNM, s_ldNf, List.drop_zero, List.take_succ_cons, List.take_zero, List.take_nil, List.take_length, Nat.mul_one, List.flatten_cons, List.flatten_nil, List.append_nil, List.nil_append, List.cons_append]
  refine Ok.step (newX hX) fun r ⟨g1, g2, g3⟩ => ?_
  obtain ⟨q, σ1⟩ := r
  simp only at g1 g2 g3
  subst g1
  have K1 : Keep X σ σ1 := ⟨g3.next, fun b hb => g3.blk b (hX b hb)⟩
  simp (config := { maxSteps := 2000000 }) -implicitDefEqProofs (disch := (first | omega | rfl | assumption | (simp only [put_next, bump_next, kill_next, List.length_cons, List.length_nil, List.mem_cons, List.not_mem_nil, or_false, not_false_eq_true]; first | omega | assumption))) only [Option.isNone_some, roots_New, roots_New_c, Nat.reduceAdd, Nat.reduceMul, Nat.reduceLT, Int.reduceToNat, Int.reduceAdd, Int.reduceSub, Int.reduceMul, s_beq, List.length_cons, List.length_nil, List.getD_cons_zero, List.getD_cons_succ, List.getElem?_cons_zero, List.getElem?_cons_succ, Option.bind_some, Option.bind_assoc, s_bindN, asI_i, asB_b, asS_s, asP_p, asPS_p, asSl_sl, s_agg, s_tup, s_fn, joinB, joinI, joinR, beq_true, beq_false, Bool.not_true, Bool.not_false, Bool.not_not, cond_true, cond_false, neI, s_mapS, bindS_inl, bindS_inr, Bool.and_true, Bool.true_and, Bool.and_false, Bool.false_and, s_isNoneS, s_isNoneN, s_ref, s_adv, s_ldf, s_ld, s_ldM, s_st, s_stM, s_bs, s_bn, s_pp, bump_blk, bump_next, put_next, splice_z, splice_zz, splice_s, s_decT, s_decF, s_eqT, s_eqF, s_i64, s_u64, s_u8, Int.toNat_natCast, Nat.zero_add, s_room, s_chkT, s_rdSl, s_wrSl, s_ldN, s_ldNM, s_ldNf, List.drop_zero, List.take_succ_cons, List.take_zero, List.take_nil, List.take_length, Nat.mul_one, List.flatten_cons, List.flatten_nil, List.append_nil, List.nil_append, List.cons_append]
  refine Ok.step (fnew_ok g2 ⟨by decide, by decide⟩ (by decide)) fun r ⟨fb, k1, k2, k3, k4⟩ => ?_
  obtain ⟨q, σ2⟩ := r
  simp only at k1 k2 k4
  subst k1
  have e0 : ((0 : Int) != 0) = false := rfl
  simp (config := { maxSteps := 2000000 }) -implicitDefEqProofs (disch := (first | omega | rfl | assumption | (simp only [put_next, bump_next, kill_next, List.length_cons, List.length_nil, List.mem_cons, List.not_mem_nil, or_false, not_false_eq_true]; first | omega | assumption))) only [e0, Nat.reduceAdd, Nat.reduceMul, Nat.reduceLT, Int.reduceToNat, Int.reduceAdd, Int.reduceSub, Int.reduceMul, s_beq, List.length_cons, List.length_nil, List.getD_cons_zero, List.getD_cons_succ, List.getElem?_cons_zero, List.getElem?_cons_succ, Option.bind_some, Option.bind_assoc, s_bindN, asI_i, asB_b, asS_s, asP_p, asPS_p, asSl_sl, s_agg, s_tup, s_fn, joinB, joinI, joinR, beq_true, beq_false, Bool.not_true, Bool.not_false, Bool.not_not, cond_true, cond_false, neI, s_mapS, bindS_inl, bindS_inr, Bool.and_true, Bool.true_and, Bool.and_false, Bool.false_and, s_isNoneS, s_isNoneN, s_ref, s_adv, s_ldf, s_ld, s_ldM, s_st, s_stM, s_bs, s_bn, s_pp, bump_blk, bump_next, put_next, splice_z, splice_zz, splice_s, s_decT, s_decF, s_eqT, s_eqF, s_i64, s_u64, s_u8, Int.toNat_natCast, Nat.zero_add, s_room, s_chkT, s_rdSl, s_wrSl, s_ldN, s_ldNM, s_ldNf, List.drop_zero, List.take_succ_cons, List.take_zero, List.take_nil, List.take_length, Nat.mul_one, List.flatten_cons, List.flatten_nil, List.append_nil, List.nil_append, List.cons_append]
  have hlf := k2.lt
  refine Ok.step (hnew_ok k2.mi ⟨by decide, by decide⟩ (by decide)) fun r ⟨gb, gp, l1, l2, l3, l4⟩ => ?_
  obtain ⟨q, σ3⟩ := r
  simp only at l1 l2 l4
  subst l1
  have hlg := l2.lt
  have hlp := l2.p.lt
  simp (config := { maxSteps := 2000000 }) -implicitDefEqProofs (disch := (first | omega | rfl | assumption | (simp only [put_next, bump_next, kill_next, List.length_cons, List.length_nil, List.mem_cons, List.not_mem_nil, or_false, not_false_eq_true]; first | omega | assumption))) only [e0, Nat.reduceAdd, Nat.reduceMul, Nat.reduceLT, Int.reduceToNat, Int.reduceAdd, Int.reduceSub, Int.reduceMul, s_beq, List.length_cons, List.length_nil, List.getD_cons_zero, List.getD_cons_succ, List.getElem?_cons_zero, List.getElem?_cons_succ, Option.bind_some, Option.bind_assoc, s_bindN, asI_i, asB_b, asS_s, asP_p, asPS_p, asSl_sl, s_agg, s_tup, s_fn, joinB, joinI, joinR, beq_true, beq_false, Bool.not_true, Bool.not_false, Bool.not_not, cond_true, cond_false, neI, s_mapS, bindS_inl, bindS_inr, Bool.and_true, Bool.true_and, Bool.and_false, Bool.false_and, s_isNoneS, s_isNoneN, s_ref, s_adv, s_ldf, s_ld, s_ldM, s_st, s_stM, s_bs, s_bn, s_pp, bump_blk, bump_next, put_next, splice_z, splice_zz, splice_s, s_decT, s_decF, s_eqT, s_eqF, s_i64, s_u64, s_u8, Int.toNat_natCast, Nat.zero_add, s_room, s_chkT, s_rdSl, s_wrSl, s_ldN, s_ldNM, s_ldNf, List.drop_zero, List.take_succ_cons, List.take_zero, List.take_nil, List.take_length, Nat.mul_one, List.flatten_cons, List.flatten_nil, List.append_nil, List.nil_append, List.cons_append]
  refine Ok.step (hnew_ok (X := gb :: gp :: fb :: X) (l2.p.mi.mono fun b hb => by simp only [List.mem_cons] at hb ⊢; rcases hb with h | h | h | h <;> simp [h]) ⟨by decide, by decide⟩ (by decide)) fun r ⟨kb, kp, m1, m2, m3, m4⟩ => ?_
  obtain ⟨q, σ4⟩ := r
  simp only at m1 m2 m4
  subst m1
  have hmi := m2.p.mi
  have lb : ∀ b, b ∈ kp :: kb :: gb :: gp :: fb :: X → b < σ4.next := hmi.lt
  have nfb := k2.nx
  have nkb := m2.nx
  have nkp := m2.p.nx
  have ngb := l2.nx
  have ngp := l2.p.nx
  simp only [List.mem_cons, not_or] at nkb nkp ngb ngp
  obtain ⟨nkb1, nkb2, nkb3, nkb4⟩ := nkb
  obtain ⟨nkp1, nkp2, nkp3, nkp4, nkp5⟩ := nkp
  obtain ⟨ngb1, ngb2⟩ := ngb
  obtain ⟨ngp1, ngp2, ngp3⟩ := ngp
  simp (config := { maxSteps := 2000000 }) -implicitDefEqProofs (disch := (first | omega | rfl | assumption | (simp only [put_next, bump_next, kill_next, List.length_cons, List.length_nil, List.mem_cons, List.not_mem_nil, or_false, not_false_eq_true]; first | omega | assumption))) only [e0, Option.isNone_some, Nat.reduceAdd, Nat.reduceMul, Nat.reduceLT, Int.reduceToNat, Int.reduceAdd, Int.reduceSub, Int.reduceMul, s_beq, List.length_cons, List.length_nil, List.getD_cons_zero, List.getD_cons_succ, List.getElem?_cons_zero, List.getElem?_cons_succ, Option.bind_some, Option.bind_assoc, s_bindN, asI_i, asB_b, asS_s, asP_p, asPS_p, asSl_sl, s_agg, s_tup, s_fn, joinB, joinI, joinR, beq_true, beq_false, Bool.not_true, Bool.not_false, Bool.not_not, cond_true, cond_false, neI, s_mapS, bindS_inl, bindS_inr, Bool.and_true, Bool.true_and, Bool.and_false, Bool.false_and, s_isNoneS, s_isNoneN, s_ref, s_adv, s_ldf, s_ld, s_ldM, s_st, s_stM, s_bs, s_bn, s_pp, bump_blk, bump_next, put_next, splice_z, splice_zz, splice_s, s_decT, s_decF, s_eqT, s_eqF, s_i64, s_u64, s_u8, Int.toNat_natCast, Nat.zero_add, s_room, s_chkT, s_rdSl, s_wrSl, s_ldN, s_ldNM, s_ldNf, List.drop_zero, List.take_succ_cons, List.take_zero, List.take_nil, List.take_length, Nat.mul_one, List.flatten_cons, List.flatten_nil, List.append_nil, List.nil_append, List.cons_append]
  generalize hσ : (σ4.bump 1).put σ4.next (.cells true _ _) = σ5
  obtain ⟨E5, b5, n5⟩ := boxed hσ
  clear hσ
  have hfb := lb fb (by simp)
  have hgb := lb gb (by simp)
  have hgp := lb gp (by simp)
  have hkb := lb kb (by simp)
  have hkp := lb kp (by simp)
  have e00 : ((0 : Int) == 0) = true := rfl
  change FrmAt σ2 fb σ.next mem1 ⟨0, 0, []⟩ [] X at k2
  change HanAt σ3 gb gp σ.next mem2 ⟨1, 3, 0, [], [], 0⟩ [] [] (fb :: X) at l2
  change HanAt σ4 kb kp σ.next mem3 ⟨2, 3, 0, [], [], 0⟩ [] [] (gb :: gp :: fb :: X) at m2
  change MemIn σ4 σ.next mem3 (kp :: kb :: gb :: gp :: fb :: X) at hmi
  have mi5 : MemIn σ5 σ.next mem3 (σ4.next :: kp :: kb :: gb :: gp :: fb :: X) := hmi.new E5 (Nat.le_refl _) (by omega)
  have bf : σ5.blk fb = σ2.blk fb := (E5.blk fb hfb).trans ((m4.blk fb (by simp)).trans (l4.blk fb (by simp)))
  have bg : σ5.blk gb = σ3.blk gb := (E5.blk gb hgb).trans (m4.blk gb (by simp))
  have bp : σ5.blk gp = σ3.blk gp := (E5.blk gp hgp).trans (m4.blk gp (by simp))
  have bk : σ5.blk kb = σ4.blk kb := E5.blk kb hkb
  have bq : σ5.blk kp = σ4.blk kp := E5.blk kp hkp
  have sub : ∀ {l : List Nat}, (∀ b ∈ l, b = σ4.next ∨ b = kp ∨ b = kb ∨ b = gb ∨ b = gp ∨ b = fb ∨ b ∈ X) → MemIn σ5 σ.next mem3 l := fun h => mi5.mono fun b hb => by
    rcases h b hb with h | h | h | h | h | h | h <;> simp [h]
  have K5 : Keep X σ4 σ5 := ⟨E5.next, fun b hb => E5.blk b (lb b (by simp [hb]))⟩
  refine Ok_some.2 ⟨⟨σ.next, σ4.next, fb, gb, gp, kb, kp⟩, ⟨0, 0, []⟩, ⟨1, 3, 0, [], [], 0⟩, ⟨2, 3, 0, [], [], 0⟩, rfl, ⟨⟨sub ?_, bf.trans k2.b, ?_, rfl, rfl, k2.pow, k2.pre, k2.len⟩, { l2 with p := { l2.p with mi := sub ?_, b := bp.trans l2.p.b, nx := ?_, now := rfl }, b := ?_, nx := ?_ }, { m2 with p := { m2.p with mi := sub ?_, b := bq.trans m2.p.b, nx := ?_, now := rfl }, b := ?_, nx := ?_ }, ⟨_, b5⟩, by decide, fun hm => by have := lb σ4.next (by simp [hm]); omega⟩, rfl, rfl, rfl, (((K1.trans k4).trans l4.tail).trans m4.tail.tail.tail).trans K5⟩
  · intro b hb; simp only [List.mem_cons] at hb; rcases hb with h | h | h | h | h | h | h <;> simp [h]
  · simp only [List.mem_cons, not_or]; exact ⟨by omega, by omega, by omega, by omega, by omega, nfb⟩
  · intro b hb; simp only [List.mem_cons] at hb; rcases hb with h | h | h | h | h | h | h <;> simp [h]
  · simp only [List.mem_cons, not_or]; exact ⟨by omega, by omega, by omega, by omega, by omega, ngp3⟩
  · obtain ⟨el, h⟩ := l2.b
    exact ⟨el, bg.trans h⟩
  · simp only [List.mem_cons, not_or]; exact ⟨by omega, by omega, by omega, by omega, ngb2⟩
  · intro b hb; simp only [List.mem_cons] at hb; rcases hb with h | h | h | h | h | h | h <;> simp [h]
  · simp only [List.mem_cons, not_or]; exact ⟨by omega, by omega, by omega, by omega, by omega, nkp5⟩
  · obtain ⟨el, h⟩ := m2.b
    exact ⟨el, bk.trans h⟩
  · simp only [List.mem_cons, not_or]; exact ⟨by omega, by omega, by omega, by omega, nkb4⟩
theorem rcharge_ok {σ : AH O} {B : RtB} {M : MemS} {F : FrmS} {wF : List Int} {P : PoolS} {C : List Nat} {w : List Int} {P2 : PoolS} {C2 : List Nat} {w2 : List Int} {X : List Nat} (R : RootAt σ B M F wF P C w P2 C2 w2 X) : roots_Roots__Charge [.p (some (.n B.rb, 0))] σ = some (.i .i64 ((wds F.L : Int) + 4 * ((C.length : Int) + (C2.length : Int))), σ) := by
  obtain ⟨el, hb⟩ := R.b
  have h1 := R.f.le
  have h2 := R.f.wle
  have h3 := R.g.cl
  have h4 := R.k.cl
  have fw := fwords_ok R.f
  have c1 := hcount_ok R.g
  have c2 := hcount_ok R.k
  simp (config := { maxSteps := 2000000 }) -implicitDefEqProofs (disch := (first | omega | rfl | assumption | (simp only [put_next, bump_next, kill_next, List.length_cons, List.length_nil, List.mem_cons, List.not_mem_nil, or_false, not_false_eq_true]; first | omega | assumption))) only [roots_Roots__Charge, roots_Roots__Charge_c, hb, fw, c1, c2, Nat.reduceAdd, Nat.reduceMul, Nat.reduceLT, Int.reduceToNat, Int.reduceAdd, Int.reduceSub, Int.reduceMul, s_beq, List.length_cons, List.length_nil, List.getD_cons_zero, List.getD_cons_succ, List.getElem?_cons_zero, List.getElem?_cons_succ, Option.bind_some, Option.bind_assoc, s_bindN, asI_i, asB_b, asS_s, asP_p, asPS_p, asSl_sl, s_agg, s_tup, s_fn, joinB, joinI, joinR, beq_true, beq_false, Bool.not_true, Bool.not_false, Bool.not_not, cond_true, cond_false, neI, s_mapS, bindS_inl, bindS_inr, Bool.and_true, Bool.true_and, Bool.and_false, Bool.false_and, s_isNoneS, s_isNoneN, s_ref, s_adv, s_ldf, s_ld, s_ldM, s_st, s_stM, s_bs, s_bn, s_pp, bump_blk, bump_next, put_next, splice_z, splice_zz, splice_s, s_decT, s_decF, s_eqT, s_eqF, s_i64, s_u64, s_u8, Int.toNat_natCast, Nat.zero_add, s_room, s_chkT, s_rdSl, s_wrSl, s_ldN, s_ldNM, s_ldNf, List.drop_zero, List.take_succ_cons, List.take_zero, List.take_nil, List.take_length, Nat.mul_one, List.flatten_cons, List.flatten_nil, List.append_nil, List.nil_append, List.cons_append]
theorem rpush_ok {σ : AH O} {B : RtB} {M : MemS} {F : FrmS} {wF : List Int} {P : PoolS} {C : List Nat} {w : List Int} {P2 : PoolS} {C2 : List Nat} {w2 : List Int} {X : List Nat} (R : RootAt σ B M F wF P C w P2 C2 w2 X) (hm : M.met.r = 0 ∧ M.met.w = 0) (hF : F.L = []) {n : Nat} (hn : n ≤ 256) :
    Ok (frames_Frames__Push [.p (some (.n B.fb, 0)), .i .i64 (n : Int)] σ) fun r => r.1 = .i .i64 0 ∧ ∃ M' F' wF', RootAt r.2 B M' F' wF' P C w P2 C2 w2 X ∧ RV n F' P [] (fun _ => 0) ∧ M'.met.r = 0 ∧ M'.met.w ≤ 300 ∧ Keep X σ r.2 := by
  refine (fpush_ok R.f ⟨by omega, by omega⟩ hn (by rw [hF]; show 0 + _ ≤ _; omega) (by omega)).mono fun r ⟨g1, M', room', w', g2, g3, g4, g5⟩ => ?_
  have r1 := g4.r
  have v1 := g4.w
  exact ⟨g1, M', _, w', R.onF g2 rfl g4 g5, ⟨⟨List.replicate n 0, by rw [hF], by simp, fun k hk => by rw [List.getElem?_replicate, if_pos hk]⟩, by simp, by simp⟩, by omega, by omega, g5.mono fun b hb => by simp [hb]⟩
theorem awake19_ok {σ : AH O} {X : List Nat} (hX : ∀ b ∈ X, b < σ.next) : Ok (law19_awake [] σ) fun r => r.1 = .b true ∧ Keep X σ r.2 := by
  simp (config := { maxSteps := 2000000 }) -implicitDefEqProofs (disch := (first | omega | rfl | assumption | (simp only [put_next, bump_next, kill_next, List.length_cons, List.length_nil, List.mem_cons, List.not_mem_nil, or_false, not_false_eq_true]; first | omega | assumption))) only [law19_awake, law19_awake_c, Nat.reduceAdd, Nat.reduceMul, Nat.reduceLT, Int.reduceToNat, Int.reduceAdd, Int.reduceSub, Int.reduceMul, s_beq, List.length_cons, List.length_nil, List.getD_cons_zero, List.getD_cons_succ, List.getElem?_cons_zero, List.getElem?_cons_succ, Option.bind_some, Option.bind_assoc, s_bindN, asI_i, asB_b, asS_s, asP_p, asPS_p, asSl_sl, s_agg, s_tup, s_fn, joinB, joinI, joinR, beq_true, beq_false, Bool.not_true, Bool.not_false, Bool.not_not, cond_true, cond_false, neI, s_mapS, bindS_inl, bindS_inr, Bool.and_true, Bool.true_and, Bool.and_false, Bool.false_and, s_isNoneS, s_isNoneN, s_ref, s_adv, s_ldf, s_ld, s_ldM, s_st, s_stM, s_bs, s_bn, s_pp, bump_blk, bump_next, put_next, splice_z, splice_zz, splice_s, s_decT, s_decF, s_eqT, s_eqF, s_i64, s_u64, s_u8, Int.toNat_natCast, Nat.zero_add, s_room, s_chkT, s_rdSl, s_wrSl, s_ldN, s_ldNM, s_ldNf, List.drop_zero, List.take_succ_cons, List.take_zero, List.take_nil, List.take_length, Nat.mul_one, List.flatten_cons, List.flatten_nil, List.append_nil, List.nil_append, List.cons_append]
  refine Ok.step (made19_ok hX) fun r ⟨B, F, P, P2, g1, R, g2, g3, g4, K1⟩ => ?_
  obtain ⟨q, σ1⟩ := r
  simp only at g1 R K1
  subst g1
  obtain ⟨el, hb⟩ := R.b
  simp (config := { maxSteps := 2000000 }) -implicitDefEqProofs (disch := (first | omega | rfl | assumption | (simp only [put_next, bump_next, kill_next, List.length_cons, List.length_nil, List.mem_cons, List.not_mem_nil, or_false, not_false_eq_true]; first | omega | assumption))) only [hb, Nat.reduceAdd, Nat.reduceMul, Nat.reduceLT, Int.reduceToNat, Int.reduceAdd, Int.reduceSub, Int.reduceMul, s_beq, List.length_cons, List.length_nil, List.getD_cons_zero, List.getD_cons_succ, List.getElem?_cons_zero, List.getElem?_cons_succ, Option.bind_some, Option.bind_assoc, s_bindN, asI_i, asB_b, asS_s, asP_p, asPS_p, asSl_sl, s_agg, s_tup, s_fn, joinB, joinI, joinR, beq_true, beq_false, Bool.not_true, Bool.not_false, Bool.not_not, cond_true, cond_false, neI, s_mapS, bindS_inl, bindS_inr, Bool.and_true, Bool.true_and, Bool.and_false, Bool.false_and, s_isNoneS, s_isNoneN, s_ref, s_adv, s_ldf, s_ld, s_ldM, s_st, s_stM, s_bs, s_bn, s_pp, bump_blk, bump_next, put_next, splice_z, splice_zz, splice_s, s_decT, s_decF, s_eqT, s_eqF, s_i64, s_u64, s_u8, Int.toNat_natCast, Nat.zero_add, s_room, s_chkT, s_rdSl, s_wrSl, s_ldN, s_ldNM, s_ldNf, List.drop_zero, List.take_succ_cons, List.take_zero, List.take_nil, List.take_length, Nat.mul_one, List.flatten_cons, List.flatten_nil, List.append_nil, List.nil_append, List.cons_append]
  have m0 : mem3.met.r = 0 ∧ mem3.met.w = 0 := ⟨rfl, rfl⟩
  have pu := rpush_ok R m0 (by rw [g2]) (n := 2) (by decide)
  rw [show ((2 : Nat) : Int) = 2 from rfl] at pu
  refine Ok.step pu fun r ⟨k1, M2, F2, w2, R2, V2, k2, k3, K2⟩ => ?_
  obtain ⟨q, σ2⟩ := r
  simp only at k1 R2 K2
  subst k1
  simp (config := { maxSteps := 2000000 }) -implicitDefEqProofs (disch := (first | omega | rfl | assumption | (simp only [put_next, bump_next, kill_next, List.length_cons, List.length_nil, List.mem_cons, List.not_mem_nil, or_false, not_false_eq_true]; first | omega | assumption))) only [Nat.reduceAdd, Nat.reduceMul, Nat.reduceLT, Int.reduceToNat, Int.reduceAdd, Int.reduceSub, Int.reduceMul, s_beq, List.length_cons, List.length_nil, List.getD_cons_zero, List.getD_cons_succ, List.getElem?_cons_zero, List.getElem?_cons_succ, Option.bind_some, Option.bind_assoc, s_bindN, asI_i, asB_b, asS_s, asP_p, asPS_p, asSl_sl, s_agg, s_tup, s_fn, joinB, joinI, joinR, beq_true, beq_false, Bool.not_true, Bool.not_false, Bool.not_not, cond_true, cond_false, neI, s_mapS, bindS_inl, bindS_inr, Bool.and_true, Bool.true_and, Bool.and_false, Bool.false_and, s_isNoneS, s_isNoneN, s_ref, s_adv, s_ldf, s_ld, s_ldM, s_st, s_stM, s_bs, s_bn, s_pp, bump_blk, bump_next, put_next, splice_z, splice_zz, splice_s, s_decT, s_decF, s_eqT, s_eqF, s_i64, s_u64, s_u8, Int.toNat_natCast, Nat.zero_add, s_room, s_chkT, s_rdSl, s_wrSl, s_ldN, s_ldNM, s_ldNf, List.drop_zero, List.take_succ_cons, List.take_zero, List.take_nil, List.take_length, Nat.mul_one, List.flatten_cons, List.flatten_nil, List.append_nil, List.nil_append, List.cons_append]
  refine Ok.step (radd_ok R2 ⟨by omega, by omega⟩ V2 rfl (by rw [g3]; simp) (by rw [g3]; simp) (by rw [g3]; simp)) fun r ⟨p, M3, P3, w3, l1, R3, V3, c, l2, l3, K3⟩ => ?_
  obtain ⟨q, σ3⟩ := r
  simp only at l1 R3 K3
  subst l1
  have hp : tok p.1 p.2 = 0 := by
    have h1 := c.len
    rw [g3] at h1
    simp only [List.length_nil] at h1
    obtain ⟨e, he, _⟩ := vw_some c.now
    have h2 := (List.getElem?_eq_some_iff.1 he).1
    have h3 : p.2 = 0 := by
      rcases c.was with ⟨_, e⟩ | ⟨y, e⟩
      · exact e
      · rw [g3] at e; simp [vw] at e
    unfold tok
    rw [h3]; omega
  simp (config := { maxSteps := 2000000 }) -implicitDefEqProofs (disch := (first | omega | rfl | assumption | (simp only [put_next, bump_next, kill_next, List.length_cons, List.length_nil, List.mem_cons, List.not_mem_nil, or_false, not_false_eq_true]; first | omega | assumption))) only [hp, Nat.reduceAdd, Nat.reduceMul, Nat.reduceLT, Int.reduceToNat, Int.reduceAdd, Int.reduceSub, Int.reduceMul, s_beq, List.length_cons, List.length_nil, List.getD_cons_zero, List.getD_cons_succ, List.getElem?_cons_zero, List.getElem?_cons_succ, Option.bind_some, Option.bind_assoc, s_bindN, asI_i, asB_b, asS_s, asP_p, asPS_p, asSl_sl, s_agg, s_tup, s_fn, joinB, joinI, joinR, beq_true, beq_false, Bool.not_true, Bool.not_false, Bool.not_not, cond_true, cond_false, neI, s_mapS, bindS_inl, bindS_inr, Bool.and_true, Bool.true_and, Bool.and_false, Bool.false_and, s_isNoneS, s_isNoneN, s_ref, s_adv, s_ldf, s_ld, s_ldM, s_st, s_stM, s_bs, s_bn, s_pp, bump_blk, bump_next, put_next, splice_z, splice_zz, splice_s, s_decT, s_decF, s_eqT, s_eqF, s_i64, s_u64, s_u8, Int.toNat_natCast, Nat.zero_add, s_room, s_chkT, s_rdSl, s_wrSl, s_ldN, s_ldNM, s_ldNf, List.drop_zero, List.take_succ_cons, List.take_zero, List.take_nil, List.take_length, Nat.mul_one, List.flatten_cons, List.flatten_nil, List.append_nil, List.nil_append, List.cons_append]
  have st := rset_ok R3 ⟨by omega, by omega⟩ V3 (k := 1) (x := 5) (by simp) (by decide)
  rw [show nmS 2 ([] ++ [p]) 1 = -2 from rfl] at st
  refine Ok.step st fun r ⟨m1, M4, F4, wF4, P4, w4, R4, V4, m2, m3, m4, K4⟩ => ?_
  obtain ⟨q, σ4⟩ := r
  simp only at m1 R4 K4
  subst m1
  simp (config := { maxSteps := 2000000 }) -implicitDefEqProofs (disch := (first | omega | rfl | assumption | (simp only [put_next, bump_next, kill_next, List.length_cons, List.length_nil, List.mem_cons, List.not_mem_nil, or_false, not_false_eq_true]; first | omega | assumption))) only [Nat.reduceAdd, Nat.reduceMul, Nat.reduceLT, Int.reduceToNat, Int.reduceAdd, Int.reduceSub, Int.reduceMul, s_beq, List.length_cons, List.length_nil, List.getD_cons_zero, List.getD_cons_succ, List.getElem?_cons_zero, List.getElem?_cons_succ, Option.bind_some, Option.bind_assoc, s_bindN, asI_i, asB_b, asS_s, asP_p, asPS_p, asSl_sl, s_agg, s_tup, s_fn, joinB, joinI, joinR, beq_true, beq_false, Bool.not_true, Bool.not_false, Bool.not_not, cond_true, cond_false, neI, s_mapS, bindS_inl, bindS_inr, Bool.and_true, Bool.true_and, Bool.and_false, Bool.false_and, s_isNoneS, s_isNoneN, s_ref, s_adv, s_ldf, s_ld, s_ldM, s_st, s_stM, s_bs, s_bn, s_pp, bump_blk, bump_next, put_next, splice_z, splice_zz, splice_s, s_decT, s_decF, s_eqT, s_eqF, s_i64, s_u64, s_u8, Int.toNat_natCast, Nat.zero_add, s_room, s_chkT, s_rdSl, s_wrSl, s_ldN, s_ldNM, s_ldNf, List.drop_zero, List.take_succ_cons, List.take_zero, List.take_nil, List.take_length, Nat.mul_one, List.flatten_cons, List.flatten_nil, List.append_nil, List.nil_append, List.cons_append]
  have gt := rget_ok R4 ⟨by omega, by omega⟩ V4 (k := 1) (by simp) (by decide)
  rw [show nmS 2 ([] ++ [p]) 1 = -2 from rfl, show upd (fun _ => 0) 1 5 1 = 5 from rfl] at gt
  refine Ok.step gt fun r ⟨n1, M5, R5, n2, n3, K5⟩ => ?_
  obtain ⟨q, σ5⟩ := r
  simp only at n1 R5 K5
  subst n1
  have ch := rcharge_ok R5
  obtain ⟨f, hf1, hf2, _⟩ := V4.f
  have hw : (wds F4.L : Int) = 4 := by rw [hf1]; simp only [wds, hf2]; rfl
  rw [hw] at ch
  simp only [List.nil_append, List.length_cons, List.length_nil] at ch
  have sl := slot_ok (σ := σ5) (n := 1) (by omega)
  have e1 : ((0 : Int) == 0) = true := rfl
  have e2 : ((5 : Int) == 5) = true := rfl
  have e3 : (((4 : Int) + 4 * (((0 + 1 : Nat) : Int) + ((0 : Nat) : Int))) == 8) = true := rfl
  have e4 : (((-1 : Int) - 1) == -2) = true := rfl
  simp (config := { maxSteps := 2000000 }) -implicitDefEqProofs (disch := (first | omega | rfl | assumption | (simp only [put_next, bump_next, kill_next, List.length_cons, List.length_nil, List.mem_cons, List.not_mem_nil, or_false, not_false_eq_true]; first | omega | assumption))) only [e1, e2, ch, e3, sl, e4, Nat.reduceAdd, Nat.reduceMul, Nat.reduceLT, Int.reduceToNat, Int.reduceAdd, Int.reduceSub, Int.reduceMul, s_beq, List.length_cons, List.length_nil, List.getD_cons_zero, List.getD_cons_succ, List.getElem?_cons_zero, List.getElem?_cons_succ, Option.bind_some, Option.bind_assoc, s_bindN, asI_i, asB_b, asS_s, asP_p, asPS_p, asSl_sl, s_agg, s_tup, s_fn, joinB, joinI, joinR, beq_true, beq_false, Bool.not_true, Bool.not_false, Bool.not_not, cond_true, cond_false, neI, s_mapS, bindS_inl, bindS_inr, Bool.and_true, Bool.true_and, Bool.and_false, Bool.false_and, s_isNoneS, s_isNoneN, s_ref, s_adv, s_ldf, s_ld, s_ldM, s_st, s_stM, s_bs, s_bn, s_pp, bump_blk, bump_next, put_next, splice_z, splice_zz, splice_s, s_decT, s_decF, s_eqT, s_eqF, s_i64, s_u64, s_u8, Int.toNat_natCast, Nat.zero_add, s_room, s_chkT, s_rdSl, s_wrSl, s_ldN, s_ldNM, s_ldNf, List.drop_zero, List.take_succ_cons, List.take_zero, List.take_nil, List.take_length, Nat.mul_one, List.flatten_cons, List.flatten_nil, List.append_nil, List.nil_append, List.cons_append]
  exact Ok_some.2 ⟨rfl, (((K1.trans K2).trans K3).trans K4).trans K5⟩
section
variable {σ : AH O} {B : RtB} {M : MemS} {F : FrmS} {wF : List Int} {P : PoolS} {C : List Nat} {w : List Int} {P2 : PoolS} {C2 : List Nat} {w2 : List Int} {X : List Nat} (R : RootAt σ B M F wF P C w P2 C2 w2 X) (hm : M.met.r + 2000 < 85070591730234615865843651857942052864 ∧ M.met.w + 2000 < 85070591730234615865843651857942052864)
include R hm
theorem rweak_ok (hE : P2.E = []) (hR : P2.room = 0) {x : Int} : Ok (roots_Roots__AddWeak [.p (some (.n B.rb, 0)), .i .u64 x] σ) fun r => ∃ M' P' C' w', r.1 = .tup [.i .i64 0, .i .i64 0] ∧ RootAt r.2 B M' F wF P C w P' C' w' X ∧ (∃ y, vw P'.E 0 = some (true, 0, y)) ∧ M'.met.r ≤ M.met.r + 16 ∧ M'.met.w ≤ M.met.w + 16 ∧ Keep X σ r.2 := by
  obtain ⟨el, hb⟩ := R.b
  simp (config := { maxSteps := 2000000 }) -implicitDefEqProofs (disch := (first | omega | rfl | assumption | (simp only [put_next, bump_next, kill_next, List.length_cons, List.length_nil, List.mem_cons, List.not_mem_nil, or_false, not_false_eq_true]; first | omega | assumption))) only [roots_Roots__AddWeak, roots_Roots__AddWeak_c, hb, Nat.reduceAdd, Nat.reduceMul, Nat.reduceLT, Int.reduceToNat, Int.reduceAdd, Int.reduceSub, Int.reduceMul, s_beq, List.length_cons, List.length_nil, List.getD_cons_zero, List.getD_cons_succ, List.getElem?_cons_zero, List.getElem?_cons_succ, Option.bind_some, Option.bind_assoc, s_bindN, asI_i, asB_b, asS_s, asP_p, asPS_p, asSl_sl, s_agg, s_tup, s_fn, joinB, joinI, joinR, beq_true, beq_false, Bool.not_true, Bool.not_false, Bool.not_not, cond_true, cond_false, neI, s_mapS, bindS_inl, bindS_inr, Bool.and_true, Bool.true_and, Bool.and_false, Bool.false_and, s_isNoneS, s_isNoneN, s_ref, s_adv, s_ldf, s_ld, s_ldM, s_st, s_stM, s_bs, s_bn, s_pp, bump_blk, bump_next, put_next, splice_z, splice_zz, splice_s, s_decT, s_decF, s_eqT, s_eqF, s_i64, s_u64, s_u8, Int.toNat_natCast, Nat.zero_add, s_room, s_chkT, s_rdSl, s_wrSl, s_ldN, s_ldNM, s_ldNf, List.drop_zero, List.take_succ_cons, List.take_zero, List.take_nil, List.take_length, Nat.mul_one, List.flatten_cons, List.flatten_nil, List.append_nil, List.nil_append, List.cons_append]
  refine Ok.step (hadd_ok R.k ⟨by omega, by omega⟩ (x := x) (by rw [hE]; simp) (by unfold PoolS.more; rw [hE, hR]; simp) (by rw [hE]; simp)) fun r ⟨i, g, P1, p1, c, M1, w1, dr, dw, p2, p3, d1, d2, d3, p4⟩ => ?_
  obtain ⟨q, σ1⟩ := r
  simp only at p1 p2 p4
  subst p1
  have r1 := p3.r
  have v1 := p3.w
  have hl := c.len
  rw [hE] at hl
  simp only [List.length_nil] at hl
  obtain ⟨e, he, _⟩ := vw_some c.now
  have h2 := (List.getElem?_eq_some_iff.1 he).1
  obtain rfl : i = 0 := by omega
  obtain rfl : g = 0 := by
    rcases c.was with ⟨_, e⟩ | ⟨y, e⟩
    · exact e
    · rw [hE] at e; simp [vw] at e
  simp (config := { maxSteps := 2000000 }) -implicitDefEqProofs (disch := (first | omega | rfl | assumption | (simp only [put_next, bump_next, kill_next, List.length_cons, List.length_nil, List.mem_cons, List.not_mem_nil, or_false, not_false_eq_true]; first | omega | assumption))) only [Nat.reduceAdd, Nat.reduceMul, Nat.reduceLT, Int.reduceToNat, Int.reduceAdd, Int.reduceSub, Int.reduceMul, s_beq, List.length_cons, List.length_nil, List.getD_cons_zero, List.getD_cons_succ, List.getElem?_cons_zero, List.getElem?_cons_succ, Option.bind_some, Option.bind_assoc, s_bindN, asI_i, asB_b, asS_s, asP_p, asPS_p, asSl_sl, s_agg, s_tup, s_fn, joinB, joinI, joinR, beq_true, beq_false, Bool.not_true, Bool.not_false, Bool.not_not, cond_true, cond_false, neI, s_mapS, bindS_inl, bindS_inr, Bool.and_true, Bool.true_and, Bool.and_false, Bool.false_and, s_isNoneS, s_isNoneN, s_ref, s_adv, s_ldf, s_ld, s_ldM, s_st, s_stM, s_bs, s_bn, s_pp, bump_blk, bump_next, put_next, splice_z, splice_zz, splice_s, s_decT, s_decF, s_eqT, s_eqF, s_i64, s_u64, s_u8, Int.toNat_natCast, Nat.zero_add, s_room, s_chkT, s_rdSl, s_wrSl, s_ldN, s_ldNM, s_ldNf, List.drop_zero, List.take_succ_cons, List.take_zero, List.take_nil, List.take_length, Nat.mul_one, List.flatten_cons, List.flatten_nil, List.append_nil, List.nil_append, List.cons_append]
  exact Ok_some.2 ⟨M1, P1, _, w1, rfl, R.onK p2 c.id p3 p4, ⟨_, c.now⟩, by omega, by omega, p4.mono fun b hb => by simp [hb]⟩
theorem rdropw_ok {y : Option Int} (hv : vw P2.E 0 = some (true, 0, y)) : Ok (roots_Roots__DropWeak [.p (some (.n B.rb, 0)), .i .i64 0] σ) fun r => r.1 = .i .i64 0 ∧ ∃ M' P' C' w', RootAt r.2 B M' F wF P C w P' C' w' X ∧ M'.met.r ≤ M.met.r + 16 ∧ M'.met.w ≤ M.met.w + 16 ∧ Keep X σ r.2 := by
  obtain ⟨el, hb⟩ := R.b
  simp (config := { maxSteps := 2000000 }) -implicitDefEqProofs (disch := (first | omega | rfl | assumption | (simp only [put_next, bump_next, kill_next, List.length_cons, List.length_nil, List.mem_cons, List.not_mem_nil, or_false, not_false_eq_true]; first | omega | assumption))) only [roots_Roots__DropWeak, roots_Roots__DropWeak_c, hb, Nat.reduceAdd, Nat.reduceMul, Nat.reduceLT, Int.reduceToNat, Int.reduceAdd, Int.reduceSub, Int.reduceMul, s_beq, List.length_cons, List.length_nil, List.getD_cons_zero, List.getD_cons_succ, List.getElem?_cons_zero, List.getElem?_cons_succ, Option.bind_some, Option.bind_assoc, s_bindN, asI_i, asB_b, asS_s, asP_p, asPS_p, asSl_sl, s_agg, s_tup, s_fn, joinB, joinI, joinR, beq_true, beq_false, Bool.not_true, Bool.not_false, Bool.not_not, cond_true, cond_false, neI, s_mapS, bindS_inl, bindS_inr, Bool.and_true, Bool.true_and, Bool.and_false, Bool.false_and, s_isNoneS, s_isNoneN, s_ref, s_adv, s_ldf, s_ld, s_ldM, s_st, s_stM, s_bs, s_bn, s_pp, bump_blk, bump_next, put_next, splice_z, splice_zz, splice_s, s_decT, s_decF, s_eqT, s_eqF, s_i64, s_u64, s_u8, Int.toNat_natCast, Nat.zero_add, s_room, s_chkT, s_rdSl, s_wrSl, s_ldN, s_ldNM, s_ldNf, List.drop_zero, List.take_succ_cons, List.take_zero, List.take_nil, List.take_length, Nat.mul_one, List.flatten_cons, List.flatten_nil, List.append_nil, List.nil_append, List.cons_append]
  have hd := hdrop_ok R.k ⟨by omega, by omega⟩ hv (by omega)
  rw [show tok 0 0 = 0 from rfl] at hd
  refine Ok.step hd fun r ⟨p1, M1, w1, P1, d, dr, dw, p2, p3, p4, p5, p6, p7, p8, p9, q1, q2, q3, q4, q5⟩ => ?_
  obtain ⟨q, σ1⟩ := r
  simp only at p1 p3 q5
  subst p1
  have r1 := q1.r
  have v1 := q1.w
  simp (config := { maxSteps := 2000000 }) -implicitDefEqProofs (disch := (first | omega | rfl | assumption | (simp only [put_next, bump_next, kill_next, List.length_cons, List.length_nil, List.mem_cons, List.not_mem_nil, or_false, not_false_eq_true]; first | omega | assumption))) only [Nat.reduceAdd, Nat.reduceMul, Nat.reduceLT, Int.reduceToNat, Int.reduceAdd, Int.reduceSub, Int.reduceMul, s_beq, List.length_cons, List.length_nil, List.getD_cons_zero, List.getD_cons_succ, List.getElem?_cons_zero, List.getElem?_cons_succ, Option.bind_some, Option.bind_assoc, s_bindN, asI_i, asB_b, asS_s, asP_p, asPS_p, asSl_sl, s_agg, s_tup, s_fn, joinB, joinI, joinR, beq_true, beq_false, Bool.not_true, Bool.not_false, Bool.not_not, cond_true, cond_false, neI, s_mapS, bindS_inl, bindS_inr, Bool.and_true, Bool.true_and, Bool.and_false, Bool.false_and, s_isNoneS, s_isNoneN, s_ref, s_adv, s_ldf, s_ld, s_ldM, s_st, s_stM, s_bs, s_bn, s_pp, bump_blk, bump_next, put_next, splice_z, splice_zz, splice_s, s_decT, s_decF, s_eqT, s_eqF, s_i64, s_u64, s_u8, Int.toNat_natCast, Nat.zero_add, s_room, s_chkT, s_rdSl, s_wrSl, s_ldN, s_ldNM, s_ldNf, List.drop_zero, List.take_succ_cons, List.take_zero, List.take_nil, List.take_length, Nat.mul_one, List.flatten_cons, List.flatten_nil, List.append_nil, List.nil_append, List.cons_append]
  exact Ok_some.2 ⟨rfl, M1, P1, _, w1, R.onK p3 p4 q1 q5, by omega, by omega, q5.mono fun b hb => by simp [hb]⟩
end
end Go.Abs.Try
