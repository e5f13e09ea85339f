/-
  PoolLinks: the entries come into the chain; the chain's entries are handed out. No conditions.
-/
import Derived.Test.YtkbkdbjneeineaaL10p
set_option linter.unusedVariables false
set_option linter.unusedSimpArgs false
set_option linter.constructorNameAsVariable false
set_option linter.unusedSimpArgs false
set_option linter.unusedVariables false
set_option linter.unusedSectionVars false
set_option maxHeartbeats 2000000
namespace Go.Abs.Try
open Go Go.Abs
variable {O : Type}

def ids (n : Nat) : List AV := (List.range n).map fun (i : Nat) => .i .i64 ((i : Int) + 1)
theorem ids_len (n : Nat) : (ids n).length = n := by simp [ids]
theorem ids_succ (n : Nat) : ids (n + 1) = ids n ++ [.i .i64 ((n : Int) + 1)] := by simp [ids, List.range_succ]
theorem ids_get {n k : Nat} (h : k < n) : (ids n)[k]? = some (.i .i64 ((k : Int) + 1)) := by simp [ids, h]
/-- k entries were taken and linked -/
structure PLk (σ : AH O) (pb mb nx pv W tb cc k : Nat) (M : MemS) (S : PoolS) (w : List Int) (ai : SA) : Prop where
  p : PoolAt σ pb mb M S w (tb :: cc :: SA.bk ai)
  words : S.words = W
  free : S.free = []
  len : S.E.length = k
  room : S.room ≤ 40
  lk : Linked S.E nx pv (List.range k)
  own : OwnS σ 3 1 ai k (ids k)
  btb : σ.blk tb = some (.cells true T_chain_Table (tblc S mb nx pv))
  bcc : σ.blk cc = some (.cells true T_chain_Chain (chnc (List.range k)))
  tc : tb ≠ cc
  r : M.met.r ≤ 20 * k
  wm : M.met.w ≤ 20 * k
theorem plinks_step {σ : AH O} {pb mb nx pv W tb cc k : Nat} {M : MemS} {S : PoolS} {w : List Int} {ai : SA} (h : PLk σ pb mb nx pv W tb cc k M S w ai) (h1 : nx < W) (h2 : pv < W) (hne : nx ≠ pv) {N : Nat} (hk : k < N) (hN : N ≤ 19) {n1 : Int} (h20 : IntKind.i64.wrap (Int.tmod n1 20) = (N : Int))
    {r31 r71 : List AV × AH O} (h31 : r31.2.next = tb) (h71 : r71.2.next = cc) :
    Ok (law10_PoolLinks_L1 n1 pool_Pool__Take (some (.n pb, 0)) r31 r71 chain_Table__Push ([.sl ai k, .i .i64 (k : Int)], σ)) fun r => ∃ σ' M' S' w' ai', r = .inl ([.sl ai' (k + 1), .i .i64 ((k + 1 : Nat) : Int)], σ') ∧ PLk σ' pb mb nx pv W tb cc (k + 1) M' S' w' ai' ∧ S'.id = S.id := by
  have hw := h.p.p.words
  have hwW := h.words
  have hr := h.r
  have hwm := h.wm
  have hlen := h.len
  have hroom := h.room
  have hmore : S.more ≤ 40 := by unfold PoolS.more; split <;> omega
  have hmw : S.more * (S.words + 1) ≤ 4194304 := Nat.le_trans (Nat.mul_le_mul hmore (show S.words + 1 ≤ 61 by omega)) (by decide)
  simp (config := { maxSteps := 2000000 }) -implicitDefEqProofs (disch := (first | omega | rfl | assumption | (simp only [rsD]; first | omega | assumption))) only [law10_PoolLinks_L1, h20, h31, h71, Nat.reduceAdd, Nat.reduceMul, Nat.reduceLT, Int.reduceToNat, Int.reduceAdd, Int.reduceSub, Int.reduceMul, rsU, rsC]
  refine Ok.step (ptake_new h.p ⟨by omega, by omega⟩ h.free (by omega) hmw (by omega)) fun r ⟨g1, M1, w1, g2, g3, g4⟩ => ?_
  obtain ⟨q, σ1⟩ := r
  simp only at g1 g2 g4
  rw [hlen] at g1
  subst g1
  have r1 := g3.r
  have t1 := g3.w
  have htb : σ1.blk tb = _ := (g4.blk _ (by simp)).trans h.btb
  have hcc : σ1.blk cc = _ := (g4.blk _ (by simp)).trans h.bcc
  simp only [tblc] at htb
  simp only [chnc] at hcc
  have hE1 : (S.E ++ [PE.fresh S.words])[k]? = some (PE.fresh S.words) := by rw [← hlen]; simp
  have hl1 : Linked (S.E ++ [PE.fresh S.words]) nx pv (List.range k) := h.lk.other fun i hi => List.getElem?_append_left (by rw [hlen]; exact List.mem_range.1 hi)
  simp (config := { maxSteps := 2000000 }) -implicitDefEqProofs (disch := (first | omega | rfl | assumption | (simp only [rsD]; first | omega | assumption))) only [htb, hcc, h31, h71, Nat.reduceAdd, Nat.reduceMul, Nat.reduceLT, Int.reduceToNat, Int.reduceAdd, Int.reduceSub, Int.reduceMul, rsU, rsC]
  have ts := tpush_ok g2 (nx := nx) (pv := pv) (show nx < S.words by omega) (show pv < S.words by omega) hne hl1 ⟨by omega, by omega⟩ (by simp; omega) (i := k) (by simp) hE1 rfl
  simp only [tbl, chn] at ts
  refine Ok.step ts fun r ⟨k1, M2, w2, E2, dw, k2, k3, k4, k5, k6, k7, k8⟩ => ?_
  obtain ⟨q, σ2⟩ := r
  simp only at k1 k2 k8
  subst k1
  have r2 := k5.r
  have t2 := k5.w
  have htb2 : σ2.blk tb = _ := (k8.blk _ (by simp)).trans htb
  have hcc2 : σ2.blk cc = _ := (k8.blk _ (by simp)).trans hcc
  have e0 : ((0 : Int) != 0) = false := rfl
  simp (config := { maxSteps := 2000000 }) -implicitDefEqProofs (disch := (first | omega | rfl | assumption | (simp only [rsD]; first | omega | assumption))) only [hcc2, h71, e0, Nat.reduceAdd, Nat.reduceMul, Nat.reduceLT, Int.reduceToNat, Int.reduceAdd, Int.reduceSub, Int.reduceMul, rsU, rsC]
  have hltx : ∀ b ∈ SA.bk ai, b < σ2.next := fun b hb => Nat.lt_of_lt_of_le (h.own.lt b hb) (Nat.le_trans g4.next k8.next)
  have hcl : cc < σ2.next := k2.mi.lt _ (by simp)
  have htl : tb < σ2.next := k2.mi.lt _ (by simp)
  have nxai : tb ∉ SA.bk ai ∧ cc ∉ SA.bk ai := by
    refine ⟨fun hm => ?_, fun hm => ?_⟩
    · obtain ⟨q, e1, e2, _⟩ := h.own.loc (by intro h0; subst h0; have := h.own.wh; cases ai <;> simp [SA.bk] at hm; rename_i b _ _; obtain ⟨q, e, _, _, e2, _⟩ := this; subst e; simp at hm; subst hm; rw [h.btb] at e2; cases e2)
      rw [e1] at hm; simp [SA.bk] at hm; subst hm; rw [h.btb] at e2; cases e2
    · obtain ⟨q, e1, e2, _⟩ := h.own.loc (by intro h0; subst h0; have := h.own.wh; cases ai <;> simp [SA.bk] at hm; rename_i b _ _; obtain ⟨q, e, _, _, e2, _⟩ := this; subst e; simp at hm; subst hm; rw [h.bcc] at e2; cases e2)
      rw [e1] at hm; simp [SA.bk] at hm; subst hm; rw [h.bcc] at e2; cases e2
  generalize hσ : ((σ2.put cc (.cells true _ _)).bump 2).put σ2.next (.cells true _ _) = σ3
  have n3 : σ3.next = σ2.next + 2 := by rw [← hσ]; rfl
  have b3 : σ3.blk cc = some (.cells true T_chain_Chain (chnc (List.range k ++ [k]))) := by rw [← hσ, s_bn (by omega)]; exact s_bs
  have o3 : ∀ b, b ≠ cc → b ≠ σ2.next → σ3.blk b = σ2.blk b := fun b hb hb2 => by rw [← hσ, s_bn hb2]; exact s_bn hb
  clear hσ
  have own3 : OwnS σ3 3 1 ai k (ids k) := h.own.of (by have := g4.next; have := k8.next; omega) fun b hb => by
    have := hltx b hb
    rw [o3 b (fun e => nxai.2 (e ▸ hb)) (by omega), k8.blk b (by simp [hb]), g4.blk b (by simp [hb])]
  refine Ok.step (app_ok (nid := σ2.next + 1) own3 (fun hm => by have := hltx _ hm; omega) (by omega) (show ([.i .i64 ((k : Int) + 1)] : List AV).length = 1 * 1 from rfl)) fun q ⟨a2, l1, l2, l3, l4, l5⟩ => ?_
  obtain ⟨q, σ4⟩ := q
  simp only at l1 l2 l3 l4
  subst l1
  simp (config := { maxSteps := 2000000 }) -implicitDefEqProofs (disch := (first | omega | rfl | assumption | (simp only [rsD]; first | omega | assumption))) only [Nat.reduceAdd, Nat.reduceMul, Nat.reduceLT, Int.reduceToNat, Int.reduceAdd, Int.reduceSub, Int.reduceMul, rsU, rsC]
  have chg : Chg (cc :: SA.bk ai) σ2 σ4 := ⟨by omega, fun b hb hm => by
    simp only [List.mem_cons, not_or] at hm
    rw [l4 b (by omega) hm.2, o3 b hm.1 (by omega)]⟩
  have p4 := k2.turn (Y := tb :: cc :: SA.bk a2) chg (fun b hb => .inl (List.mem_cons_of_mem _ hb)) fun b hb => by
    simp only [List.mem_cons] at hb
    rcases hb with rfl | rfl | hb
    · exact .inl (by simp)
    · exact .inl (by simp)
    · have := l5 b hb; exact .inr (by omega)
  refine Ok_some.2 ⟨σ4, M2, _, w2, a2, rfl, ⟨p4, hwW, h.free, ?_, ?_, by rw [List.range_succ]; exact k4, by rw [ids_succ]; exact l2, ?_, ?_, h.tc, by omega, by omega⟩, rfl⟩
  · show E2.length = k + 1
    rw [k3.len, List.length_append, hlen]; rfl
  · exact hmore
  · rw [l4 tb (by omega) nxai.1, o3 tb h.tc (by omega)]
    simp only [tblc]; exact htb2
  · rw [l4 cc (by omega) nxai.2, b3, List.range_succ]
/-- k entries of the chain were handed out -/
structure Hd (σ : AH O) (pb mb nx pv cb tb gb lb N k : Nat) (M : MemS) (S : PoolS) (w : List Int) (ai ag : SA) (B : Int) : Prop where
  p : PoolAt σ pb mb M S w (tb :: gb :: lb :: (SA.bk ai ++ SA.bk ag))
  oi : OwnS σ 3 1 ai N (ids N)
  og : OwnS σ 3 1 ag k (ids k)
  bg : σ.blk gb = some (.cells true 36 [.sl ag k])
  bl : σ.blk lb = some (.loop 3000 [(22, .p (some (.n gb, 0)))] .ready)
  bt : σ.blk tb = some (.cells true T_chain_Table (tblc S mb nx pv))
  gl : gb ≠ lb
  tg : tb ≠ gb
  tl : tb ≠ lb
  xi : gb ∉ SA.bk ai ∧ lb ∉ SA.bk ai ∧ tb ∉ SA.bk ai
  xg : gb ∉ SA.bk ag ∧ lb ∉ SA.bk ag ∧ tb ∉ SA.bk ag
  ig : ∀ b ∈ SA.bk ai, b ∉ SA.bk ag
  r : M.met.r ≤ B + k
  wm : M.met.w ≤ B
theorem round_ok {σ : AH O} {pb mb nx pv cb tb gb lb N k : Nat} {M : MemS} {S : PoolS} {w : List Int} {ai ag : SA} {B : Int} (h : Hd σ pb mb nx pv cb tb gb lb N k M S w ai ag B) (hk : k < N) (hN : N ≤ 19) :
    Ok (law10_PoolLinks_R0 [.p (some (.n lb, 0)), .i .i64 ((k : Int) + 1)] σ) fun r => r.1 = .b true ∧ ∃ ag', Hd r.2 pb mb nx pv cb tb gb lb N (k + 1) M S w ai ag' (B + 1) ∧ M.met.r ≤ B + k ∧ M.met.w ≤ B := by
  have hbl := h.bl
  have hbg := h.bg
  have hgl := h.gl
  have hgl2 : lb ≠ gb := fun e => hgl e.symm
  have hb1 : Nat.beq 3000 3000 = true := rfl
  have hltl : lb < σ.next := h.p.mi.lt _ (by simp)
  have hltg : gb < σ.next := h.p.mi.lt _ (by simp)
  have hltt : tb < σ.next := h.p.mi.lt _ (by simp)
  simp (config := { maxSteps := 2000000 }) -implicitDefEqProofs (disch := (first | omega | rfl | assumption | (simp only [rsD]; first | omega | assumption))) only [law10_PoolLinks_R0, law10_PoolLinks_R0_c, roundW, busyL, hbl, envOf, hbg, Nat.reduceAdd, Nat.reduceMul, Nat.reduceLT, Int.reduceToNat, Int.reduceAdd, Int.reduceSub, Int.reduceMul, rsU, rsC]
  generalize hσ : ((σ.put lb _).bump 2).put σ.next (.cells true _ _) = σ3
  have n3 : σ3.next = σ.next + 2 := by rw [← hσ]; rfl
  have l3 : σ3.blk lb = some (.loop 3000 [(22, .p (some (.n gb, 0)))] .busy) := by rw [← hσ, s_bn (by omega)]; exact s_bs
  have o3 : ∀ b, b ≠ lb → b ≠ σ.next → σ3.blk b = σ.blk b := fun b hb hb2 => by rw [← hσ, s_bn hb2]; exact s_bn hb
  clear hσ
  have og3 : OwnS σ3 3 1 ag k (ids k) := h.og.of (by omega) fun b hb => o3 b (fun e => h.xg.2.1 (e ▸ hb)) (by have := h.og.lt b hb; omega)
  refine Ok.step (app_ok (nid := σ.next + 1) og3 (fun hm => by have := h.og.lt _ hm; omega) (by omega) (show ([.i .i64 ((k : Int) + 1)] : List AV).length = 1 * 1 from rfl)) fun q ⟨a2, m1, m2, m3, m4, m5⟩ => ?_
  obtain ⟨q, σ4⟩ := q
  simp only at m1 m2 m3 m4
  subst m1
  have g4 : σ4.blk gb = some (.cells true 36 [.sl ag k]) := by rw [m4 gb (by omega) h.xg.1, o3 gb hgl (by omega)]; exact hbg
  have l4 : σ4.blk lb = _ := (m4 lb (by omega) h.xg.2.1).trans l3
  simp (config := { maxSteps := 2000000 }) -implicitDefEqProofs (disch := (first | omega | rfl | assumption | (simp only [rsD]; first | omega | assumption))) only [g4, l4, markL, hgl2, Nat.reduceAdd, Nat.reduceMul, Nat.reduceLT, Int.reduceToNat, Int.reduceAdd, Int.reduceSub, Int.reduceMul, rsU, rsC]
  generalize hσ : (σ4.put gb _).put lb _ = σ5
  have n5 : σ5.next = σ4.next := by rw [← hσ]; rfl
  have l5 : σ5.blk lb = some (.loop 3000 [(22, .p (some (.n gb, 0)))] .ready) := by rw [← hσ]; exact s_bs
  have g5 : σ5.blk gb = some (.cells true 36 [.sl a2 (k + 1)]) := by rw [← hσ, s_bn hgl]; exact s_bs
  have o5 : ∀ b, b ≠ lb → b ≠ gb → σ5.blk b = σ4.blk b := fun b hb hb2 => by rw [← hσ, s_bn hb]; exact s_bn hb2
  clear hσ
  have oa : ∀ b, b < σ.next → b ≠ lb → b ≠ gb → b ∉ SA.bk ag → σ5.blk b = σ.blk b := fun b hb h1 h2 h3 => by rw [o5 b h1 h2, m4 b (by omega) h3, o3 b h1 (by omega)]
  have chg : Chg (lb :: gb :: SA.bk ag) σ σ5 := ⟨by omega, fun b hb hm => by
    simp only [List.mem_cons, not_or] at hm
    exact oa b hb hm.1 hm.2.1 hm.2.2⟩
  have p5 := h.p.turn (Y := tb :: gb :: lb :: (SA.bk ai ++ SA.bk a2)) chg (fun b hb => .inl (by
    simp only [List.mem_cons] at hb
    rcases hb with rfl | rfl | hb
    · simp
    · simp
    · simp [hb])) fun b hb => by
    simp only [List.mem_cons, List.mem_append] at hb
    rcases hb with rfl | rfl | rfl | hb | hb
    · exact .inl (by simp)
    · exact .inl (by simp)
    · exact .inl (by simp)
    · exact .inl (by simp [hb])
    · have := m5 b hb; exact .inr (by omega)
  have hr := h.r
  have hw := h.wm
  refine Ok_some.2 ⟨rfl, a2, ⟨p5, h.oi.of (show σ.next ≤ σ5.next by omega) fun b hb => oa b (h.oi.lt b hb) (fun e => h.xi.2.1 (e ▸ hb)) (fun e => h.xi.1 (e ▸ hb)) (h.ig b hb), ?_, g5, l5, (oa tb hltt h.tl h.tg h.xg.2.2).trans h.bt, hgl, h.tg, h.tl, h.xi, ?_, fun b hb hb2 => ?_, by omega, by omega⟩, hr, hw⟩
  · rw [ids_succ]
    exact m2.of (show σ4.next ≤ σ5.next by omega) fun b hb => by have := m5 b hb; exact o5 b (by omega) (by omega)
  · refine ⟨fun hm => ?_, fun hm => ?_, fun hm => ?_⟩
    · have := m5 _ hm; omega
    · have := m5 _ hm; omega
    · have := m5 _ hm; omega
  · have := m5 _ hb2
    have := h.oi.lt b hb
    omega
end Go.Abs.Try
