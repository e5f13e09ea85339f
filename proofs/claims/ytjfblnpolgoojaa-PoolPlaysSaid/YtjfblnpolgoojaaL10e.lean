/-
  The statement PoolPlays: what is run returns true. No conditions.
-/
import Derived.Test.YtjfblnpolgoojaaL10d
import Derived.Test.YtjfblnpolgoojaaM7b
import Derived.Test.YtjfblnpolgoojaaM10w
set_option linter.unusedVariables false
set_option linter.unusedSimpArgs false
set_option linter.constructorNameAsVariable false
set_option linter.unusedSimpArgs false
set_option linter.unusedVariables false
set_option linter.unusedSectionVars false
set_option maxHeartbeats 2000000
namespace Go.Abs.Try
open Go Go.Abs
variable {O : Type}

theorem MemIn.meter {σ : AH O} {mb : Nat} {M : MemS} {X : List Nat} (h : MemIn σ mb M X) : ∃ tb el rest, σ.blk mb = some (.cells true el (.p (some (.n tb, 0)) :: rest)) ∧ MetAt σ tb M.met := by
  obtain ⟨F, h1, _⟩ := h; exact h1.meter
theorem Sim.taken {D : DS} {S : PoolS} (h : Sim D S) : D.L.countP (·.tk) = S.E.countP (·.tk) := by
  have : ∀ (l : List DE) (m : List PE), l.length = m.length → (∀ (i : Nat) (d : DE) (e : PE), l[i]? = some d → m[i]? = some e → d.tk = e.tk) → l.countP (·.tk) = m.countP (·.tk) := by
    intro l
    induction l with
    | nil => intro m hl _; have : m = [] := List.eq_nil_of_length_eq_zero hl.symm; subst this; rfl
    | cons d l ih =>
      intro m hl hm
      cases m with
      | nil => simp at hl
      | cons e m =>
        have h0 := hm 0 d e rfl rfl
        have := ih m (by simpa using hl) fun i x y hx hy => hm (i + 1) x y (by simpa using hx) (by simpa using hy)
        simp only [List.countP_cons, this, h0]
  exact this _ _ h.len fun i d e hd he => (h.el i d e hd he).1
/-- between two calls -/
structure PlAt (σ : AH O) (pb mb wb : Nat) (n k : Nat) (M : MemS) (D : DS) (S : PoolS) (w : List Int) (a b : SA) : Prop where
  p : PoolAt σ pb mb M S w [wb]
  sim : Sim D S
  bd : Bd k S
  at_ : D.at_ (.agg [.i .i64 D.words, .sl a D.L.length, .sl b D.free.length, .i .i64 D.room])
  bx : σ.blk wb = some (.cells true 123 [.i .i64 D.words, .sl a D.L.length, .sl b D.free.length, .i .i64 D.room])
  r : 0 ≤ M.met.r ∧ 0 ≤ M.met.w ∧ M.met.r + M.met.w ≤ 100 * k
  sp : M.sp = [(true, w)]
  id : S.id = 0
  words : S.words = n
section
variable {σ : AH O} {pb mb wb n k : Nat} {M : MemS} {D : DS} {S : PoolS} {w : List Int} {a b : SA}
theorem PlAt.held (h : PlAt σ pb mb wb n k M D S w a b) : M.met.held = ((S.room * (S.words + 1) : Nat) : Int) := by
  have h1 := h.p.mi.ok.held
  have h2 := h.p.p.len
  rw [h.sp] at h1
  simp only [List.map_cons, List.map_nil, List.sum_cons, List.sum_nil, Nat.add_zero, h2] at h1
  exact h1
theorem plays_step (h : PlAt σ pb mb wb n k M D S w a b) (hk : k < 80) {so : SA} {N : Nat} (hN : N ≤ 80) (hkN : k < N) {o : POp} (ho : o.rng) {bb : Bid} {oo : Nat} (e : so = .loc bb oo 4)
    (l0 : ∀ σ : AH O, σ.ld bb (oo + k * 4) = some (.i .i64 o.kind)) (l1 : ∀ σ : AH O, σ.ld bb (oo + k * 4 + 1) = some (.i .i64 o.id)) (l2 : ∀ σ : AH O, σ.ld bb (oo + k * 4 + 1 + 1) = some (.i .i64 o.word)) (l3 : ∀ σ : AH O, σ.ld bb (oo + k * 4 + 1 + 1 + 1) = some (.i .u64 o.w)) {r7 : AV × AH O} (hr7 : r7.2.next = wb) (hn : n ≤ 6) :
    Ok (law10_PoolPlays_L1 (so, N) (some (.n mb, 0)) meter_Meter__Steps r7 law10_do (some (.n pb, 0)) pool_Pool__Count haymowref10_Count pool_Pool__Made (n : Int) meter_Meter__Held meter_Meter__Since haymowref01_Cmp ([.i .i64 (k : Int)], σ)) fun r =>
      ∃ σ' M' D' S' w' a' b', r = .inl ([.i .i64 ((k + 1 : Nat) : Int)], σ') ∧ PlAt σ' pb mb wb n (k + 1) M' D' S' w' a' b' := by
  subst e
  have hr := h.r
  have hbx := h.bx
  have hww := h.words
  have hwl := h.p.mi.lt wb (by simp)
  obtain ⟨tb, el, rest, hmb, hmt⟩ := h.p.mi.meter
  simp (config := { maxSteps := 2000000 }) -implicitDefEqProofs (disch := (first | omega | rfl | assumption | (simp only [rsD]; first | omega | assumption))) only [law10_PoolPlays_L1, hmb, hr7, Nat.reduceAdd, Nat.reduceMul, Nat.reduceLT, Int.reduceToNat, Int.reduceAdd, Int.reduceSub, Int.reduceMul, rsU, rsC]
  have E0 : Ext σ (σ.bump 1) := (Ext.refl σ).bump 1
  refine Ok.step (steps_ok (hmt.of E0.next (E0.blk _ hmt.lt)) h.p.mi.ok.met) fun r ⟨g1, g2⟩ => ?_
  obtain ⟨q, σ1⟩ := r
  simp only at g1 g2
  subst g1
  have n1 := g2.next
  have hbx1 : σ1.blk wb = _ := (g2.blk wb (by simp; omega)).trans hbx
  simp (config := { maxSteps := 2000000 }) -implicitDefEqProofs (disch := (first | omega | rfl | assumption | (simp only [rsD]; first | omega | assumption))) only [wcs, hbx1, l0, l1, l2, l3, Nat.reduceAdd, Nat.reduceMul, Nat.reduceLT, Int.reduceToNat, Int.reduceAdd, Int.reduceSub, Int.reduceMul, rsU, rsC]
  generalize hσ : AH.put _ σ.next _ = σ2
  have E2 : Ext σ σ2 := ⟨by rw [← hσ]; simp at n1; show σ.next ≤ σ1.next; omega, fun q hq => by rw [← hσ]; simp -implicitDefEqProofs (disch := omega) only [s_bn, s_bs, s_kn, bump_blk]; exact (g2.blk q (by simp; omega)).trans (E0.blk q hq)⟩
  have b2 : ∃ el, σ2.blk σ.next = some (.cells true el (wcs (M.met.r + M.met.w))) := by rw [← hσ]; exact ⟨_, s_bs⟩
  have n2 : σ.next < σ2.next := by rw [← hσ]; simp at n1; show σ.next < σ1.next; omega
  clear hσ
  obtain ⟨x2, b2⟩ := b2
  have hX : ∀ c ∈ σ.next :: [wb], c ∈ [wb] ∨ (σ.next ≤ c ∧ c < σ2.next) := fun c hc => by simp at hc ⊢; omega
  have hp2 : PlAt σ2 pb mb wb n k M D S w a b := { h with p := h.p.turn (L := []) E2.chg (by simp) fun c hc => .inl hc, bx := (E2.blk wb hwl).trans hbx }
  have hpX : PoolAt σ2 pb mb M S w [σ.next, wb] := h.p.turn (L := []) E2.chg (by simp) hX
  -- the call
  have hdo : Ok (law10_do [.p (some (.n pb, 0)), .agg [.i .i64 D.words, .sl a D.L.length, .sl b D.free.length, .i .i64 D.room], .agg o.cells] σ2) (Did σ2 pb mb M D S [σ.next, wb] k) := by
    have hc : M.calm := ⟨by omega, by omega⟩
    unfold POp.cells
    by_cases c0 : o.kind = 0
    · rw [c0]; exact do_take hpX hc h.sim h.bd hk h.at_ (by omega)
    by_cases c1 : o.kind = 1
    · rw [c1]; exact do_give hpX hc h.sim h.bd hk h.at_ (by omega) ho.id
    by_cases c2 : o.kind = 2
    · rw [c2]; exact do_get hpX hc h.sim h.bd hk h.at_ (by omega) ho.id
    by_cases c3 : o.kind = 3
    · rw [c3]; exact do_set hpX hc h.sim h.bd hk h.at_ (by omega) ho.id
    exact do_ask hpX (fun M' h1 h2 => ⟨by omega, by omega⟩) h.sim h.bd hk h.at_ (by omega) ho.id ⟨c0, c1, c2, c3⟩
  unfold POp.cells at hdo
  refine Ok.step hdo fun r ⟨⟨v, D', S', M', w', most, dr, dw, p1, p2, p3, p4, p5, p6, p7, p8, p9, p10, p11, p12⟩, kp⟩ => ?_
  obtain ⟨q, σ3⟩ := r
  simp only at p1 p5 kp
  subst p1
  obtain ⟨a1, b1, rfl, ha1, hb1⟩ := id p2
  obtain ⟨sa, _, rfl, _, _⟩ := Im.rd ha1
  obtain ⟨sb, _, rfl, _, _⟩ := Im.rd hb1
  have hbx3 : σ3.blk wb = _ := (kp.blk wb (by simp)).trans hp2.bx
  have b3 : σ3.blk σ.next = _ := (kp.blk σ.next (by simp)).trans b2
  simp (config := { maxSteps := 2000000 }) -implicitDefEqProofs (disch := (first | omega | rfl | assumption | (simp only [rsD]; first | omega | assumption))) only [hbx3, beq_self_eq_true, Nat.reduceAdd, Nat.reduceMul, Nat.reduceLT, Int.reduceToNat, Int.reduceAdd, Int.reduceSub, Int.reduceMul, rsU, rsC]
  generalize hσ : σ3.put wb _ = σ4
  have n4 : σ4.next = σ3.next := by rw [← hσ]; rfl
  have o4 : ∀ c, c ≠ wb → σ4.blk c = σ3.blk c := fun c hc => by rw [← hσ]; exact s_bn hc
  have bx4 : σ4.blk wb = some (.cells true 123 [.i .i64 D'.words, .sl sa D'.L.length, .sl sb D'.free.length, .i .i64 D'.room]) := by rw [← hσ]; exact s_bs
  clear hσ
  have C4 : Chg [wb] σ3 σ4 := ⟨by omega, fun c _ hm => o4 c (by simpa using hm)⟩
  have hp4 : PoolAt σ4 pb mb M' S' w' [σ.next, wb] := p5.turn C4 (fun c hc => .inl (by simp at hc; simp [hc])) fun c hc => .inl hc
  have b4 : σ4.blk σ.next = _ := (o4 _ (by omega)).trans b3
  have hsp' : M'.sp = [(true, w')] := by rw [p6.sp, h.sp, h.id]; rfl
  have fin : PlAt σ4 pb mb wb n (k + 1) M' D' S' w' sa sb := ⟨hp4.mono (by simp), p3, p4, p2, bx4, by have := p6.r; have := p6.w; omega, hsp', p11.trans h.id, p12.trans hww⟩
  have hct := pcount_ok hp4
  have hmd := pmade_ok hp4
  have hcnt := hp4.p.cnt
  have hsm := p3.small p4 (by omega)
  have q1 : ((false == true) = false) := rfl
  simp (config := { maxSteps := 2000000 }) -implicitDefEqProofs (disch := (first | omega | rfl | assumption | (simp only [rsD]; first | omega | assumption))) only [bx4, hct, eq_self, Nat.reduceAdd, Nat.reduceMul, Nat.reduceLT, Int.reduceToNat, Int.reduceAdd, Int.reduceSub, Int.reduceMul, rsU, rsC]
  refine Ok.step (rcount_ok hsm p2) fun r ⟨g3, g4⟩ => ?_
  obtain ⟨q, σ5⟩ := r
  simp only at g3 g4
  subst g3
  have l4 := hp4.mi.lt
  have bx5 : σ5.blk wb = _ := (g4.blk wb (l4 wb (by simp))).trans bx4
  have b5 : σ5.blk σ.next = _ := (g4.blk σ.next (l4 _ (by simp))).trans b4
  have fin5 : PlAt σ5 pb mb wb n (k + 1) M' D' S' w' sa sb := { fin with p := (hp4.ext g4).mono (by simp), bx := bx5 }
  have hmd5 := pmade_ok fin5.p
  obtain ⟨tb5, el5, rest5, hmb5, hmt5⟩ := fin5.p.mi.meter
  have hhd := held_ok hmt5
  have hroom := fin5.held
  have hlen := p3.len
  have hrm := p3.room
  have hprod : D'.room * ((n : Int) + 1) = M'.met.held := by rw [hroom, hrm, p12, hww]; simp
  have hheld := hmt5
  have t1 : ((S'.taken : Int) == ((D'.L.countP (·.tk) : Nat) : Int)) = true := s_eqT (by rw [hcnt, p3.taken])
  have t2 : ((S'.E.length : Int) == (D'.L.length : Int)) = true := s_eqT (by omega)
  have t3 : (M'.met.held == M'.met.held) = true := s_eqT rfl
  have hok := fin5.p.mi.ok.met.held
  have hbound : -9223372036854775808 ≤ M'.met.held ∧ M'.met.held ≤ 9223372036854775807 := by omega
  simp (config := { maxSteps := 2000000 }) -implicitDefEqProofs (disch := (first | omega | rfl | assumption | (simp only [rsD]; first | omega | assumption))) only [t1, bx5, hmd5, t2, hmb5, hhd, hprod, t3, eq_self, beq_self_eq_true, b5, wcs, Nat.reduceAdd, Nat.reduceMul, Nat.reduceLT, Int.reduceToNat, Int.reduceAdd, Int.reduceSub, Int.reduceMul, rsU, rsC]
  have hs := since_ok hmt5 fin5.p.mi.ok.met (s := M.met.r + M.met.w) (by omega) (by have := p6.r; have := p6.w; omega)
  simp only [wcs] at hs
  refine Ok.step hs fun r ⟨g5, g6⟩ => ?_
  obtain ⟨q, σ6⟩ := r
  simp only at g5 g6
  subst g5
  have hd : M'.met.r + M'.met.w - (M.met.r + M.met.w) = dr + dw := by have := p6.r; have := p6.w; omega
  have hmost : [AV.i .u64 0, .i .u64 most] = wcs most := by
    unfold wcs
    rw [show most / 18446744073709551616 = 0 by omega, show most % 18446744073709551616 = most by omega]
  rw [hd]
  simp (config := { maxSteps := 2000000 }) -implicitDefEqProofs (disch := (first | omega | rfl | assumption | (simp only [rsD]; first | omega | assumption))) only [Nat.reduceAdd, Nat.reduceMul, Nat.reduceLT, Int.reduceToNat, Int.reduceAdd, Int.reduceSub, Int.reduceMul, rsU, rsC]
  rw [hmost]
  refine Ok.step (rcmp_le (σ := σ6) (a := dr + dw) (b := most) (by omega) (by omega) (by omega)) fun r ⟨⟨m, g7, g8⟩, g9⟩ => ?_
  obtain ⟨q, σ7⟩ := r
  simp only at g7 g9
  subst g7
  have t4 : decide (m > 0) = false := decide_eq_false (by omega)
  simp (config := { maxSteps := 2000000 }) -implicitDefEqProofs (disch := (first | omega | rfl | assumption | (simp only [rsD]; first | omega | assumption))) only [t4, Nat.reduceAdd, Nat.reduceMul, Nat.reduceLT, Int.reduceToNat, Int.reduceAdd, Int.reduceSub, Int.reduceMul, rsU, rsC]
  have E7 := g6.trans g9
  refine Ok_some.2 ⟨σ7, M', D', S', w', sa, sb, by simp, { fin5 with p := fin5.p.ext E7, bx := (E7.blk wb (fin5.p.mi.lt wb (by simp))).trans bx5 }⟩
end
end Go.Abs.Try
