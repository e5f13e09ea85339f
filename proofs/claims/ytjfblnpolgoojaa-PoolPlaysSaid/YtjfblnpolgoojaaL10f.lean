/-
  The statement PoolPlays: what is run returns true. No conditions.
-/
import Derived.Test.YtjfblnpolgoojaaL10e
set_option linter.unusedVariables false
set_option linter.unusedSimpArgs false
set_option linter.constructorNameAsVariable false
set_option linter.unusedSimpArgs false
set_option linter.unusedVariables false
set_option linter.unusedSectionVars false
set_option maxHeartbeats 2000000
namespace Go.Abs.Try
open Go Go.Abs
variable {O : Type}

section
variable {σ : AH O} {pb mb wb n k : Nat} {M : MemS} {D : DS} {S : PoolS} {w : List Int} {a b : SA}
/-- the words of an entry -/
theorem plays_words (h : PlAt σ pb mb wb n k M D S w a b) (hk : k ≤ 80) (hn : n ≤ 6) {r7 : AV × AH O} (hr7 : r7.2.next = wb) {M1 : MemS} {σ1 : AH O} (hp1 : PoolAt σ1 pb mb M1 S w [wb]) (hb1 : σ1.blk wb = some (.cells true 123 [.i .i64 D.words, .sl a D.L.length, .sl b D.free.length, .i .i64 D.room])) (hr1 : M1.met.r ≤ 100000 ∧ M1.met.w ≤ 8000)
    {i : Nat} {d : DE} {e : PE} (hd : D.L[i]? = some d) (he : S.E[i]? = some e) (q1 : d.tk = e.tk) (q3 : d.ws.length = S.words) (q4 : e.tk = true → d.ws = e.ws) :
    Ok (loopF (S := List AV × AH O) (T := (List AV × AH O) ⊕ ((List AV × AH O) ⊕ ((List AV × AH O) ⊕ (AV × AH O)))) (law10_PoolPlays_L3 (n : Int) r7 ((i : Int) + 1) pool_Pool__Get (some (.n pb, 0))) ([.i .i64 0], σ1)) fun r =>
      ∃ σ' M', r = .inl ([], σ') ∧ PoolAt σ' pb mb M' S w [wb] ∧ σ'.blk wb = some (.cells true 123 [.i .i64 D.words, .sl a D.L.length, .sl b D.free.length, .i .i64 D.room]) ∧ M'.met.r ≤ M1.met.r + 12 ∧ M'.met.w = M1.met.w := by
  have hr := h.r
  have hww := h.words
  have hil : i < D.L.length := (List.getElem?_eq_some_iff.1 hd).1
  have hll := h.sim.len
  have hE := h.bd.e
  obtain ⟨va, vb, e0, ha, hb⟩ := id h.at_
  cases e0
  obtain ⟨sa, vas, ea, ia, ca⟩ := Im.rd ha
  cases ea
  obtain ⟨y0, y1, ws, y2, y3⟩ := DS.cells_ ca hd
  obtain ⟨bb, oo, rfl, _⟩ := (ia O σ).ref hil
  have hld : ∀ (σ' : AH O) (j : Nat), j < 3 → σ'.ld bb (oo + i * 3 + j) = vas[i * 3 + j]? := fun σ' j hj => by
    obtain ⟨b2, o2, e2, hld⟩ := (ia O σ').ref hil
    cases e2
    exact hld j hj
  have ld0 : ∀ σ' : AH O, σ'.ld bb (oo + i * 3) = some (.b d.tk) := fun σ' => (hld σ' 0 (by decide)).trans y0
  have ld2 : ∀ σ' : AH O, σ'.ld bb (oo + i * 3 + 2) = some (.sl ws d.ws.length) := fun σ' => (hld σ' 2 (by decide)).trans y2
  have v0 : (i : Int) + 1 - 1 = i := by omega
  cases ht : e.tk with
  | false =>
    rw [ht] at q1
    rw [q1] at ld0
    rw [loopF_eq]
    by_cases hn0 : (0 : Int) < n
    · have d0 := decide_eq_true hn0
      simp (config := { maxSteps := 2000000 }) -implicitDefEqProofs (disch := (first | omega | rfl | assumption | (simp only [rsD]; first | omega | assumption))) only [law10_PoolPlays_L3, d0, hr7, hb1, v0, ld0, beq_self_eq_true, Nat.reduceAdd, Nat.reduceMul, Nat.reduceLT, Int.reduceToNat, Int.reduceAdd, Int.reduceSub, Int.reduceMul, rsU, rsC]
      exact Ok_some.2 ⟨σ1, M1, rfl, hp1, hb1, by omega, rfl⟩
    · have d0 := decide_eq_false hn0
      have d1 : (false == true) = false := rfl
      simp (config := { maxSteps := 2000000 }) -implicitDefEqProofs (disch := (first | omega | rfl | assumption | (simp only [rsD]; first | omega | assumption))) only [law10_PoolPlays_L3, d0, d1, Nat.reduceAdd, Nat.reduceMul, Nat.reduceLT, Int.reduceToNat, Int.reduceAdd, Int.reduceSub, Int.reduceMul, rsU, rsC]
      exact Ok_some.2 ⟨σ1, M1, rfl, hp1, hb1, by omega, rfl⟩
  | true =>
    rw [ht] at q1
    rw [q1] at ld0
    have ew := q4 ht
    refine Ok.count n (fun j s => ∃ σ2 M2, s = ([.i .i64 (j : Int)], σ2) ∧ PoolAt σ2 pb mb M2 S w [wb] ∧ σ2.blk wb = some (.cells true 123 [.i .i64 D.words, .sl (.loc bb oo 3) D.L.length, .sl b D.free.length, .i .i64 D.room]) ∧ M2.met.r ≤ M1.met.r + 2 * j ∧ M2.met.w = M1.met.w) ?_ ?_ ⟨σ1, M1, rfl, hp1, hb1, by omega, rfl⟩
    · rintro j s hj ⟨σ2, M2, rfl, hp2, hb2, hr2, hw2⟩
      have d0 : decide ((j : Int) < n) = true := decide_eq_true (by omega)
      simp (config := { maxSteps := 2000000 }) -implicitDefEqProofs (disch := (first | omega | rfl | assumption | (simp only [rsD]; first | omega | assumption))) only [law10_PoolPlays_L3, d0, hr7, hb2, v0, ld0, beq_self_eq_true, Nat.reduceAdd, Nat.reduceMul, Nat.reduceLT, Int.reduceToNat, Int.reduceAdd, Int.reduceSub, Int.reduceMul, rsU, rsC]
      refine Ok.step (pget_ok hp2 ⟨by omega, by omega⟩ he ht (k := j) (by omega) (by omega)) fun r ⟨p1, M3, p2, p3, p4⟩ => ?_
      obtain ⟨q, σ3⟩ := r
      simp only at p1 p2 p4
      subst p1
      have hb3 : σ3.blk wb = _ := (p4.blk wb (by simp)).trans hb2
      have hwl := hp2.p.wl e (List.mem_of_getElem? he)
      have hwg : (d.ws.map (AV.i .u64))[j]? = some (.i .u64 (e.ws.getD j 0)) := by
        rw [List.getElem?_map, ew, List.getD_eq_getElem?_getD, List.getElem?_eq_getElem (show j < e.ws.length by omega)]; rfl
      obtain ⟨wb2, wo, rfl, hld2⟩ := (y3 O σ3).at1 hwg
      rw [Nat.mul_one] at hld2
      have b0 : (((e.ws.getD j 0) == (e.ws.getD j 0)) = true) := s_eqT rfl
      have b1 : (((0 : Int) == 0) = true) := rfl
      simp (config := { maxSteps := 2000000 }) -implicitDefEqProofs (disch := (first | omega | rfl | assumption | (simp only [rsD]; first | omega | assumption))) only [hb3, v0, ld2, hld2, b0, b1, beq_self_eq_true, Nat.reduceAdd, Nat.reduceMul, Nat.reduceLT, Int.reduceToNat, Int.reduceAdd, Int.reduceSub, Int.reduceMul, rsU, rsC]
      have := p3.r
      have := p3.w
      exact Ok_some.2 ⟨σ3, M3, by simp, p2, hb3, by omega, by omega⟩
    · rintro s ⟨σ2, M2, rfl, hp2, hb2, hr2, hw2⟩
      have d0 : decide ((n : Int) < n) = false := decide_eq_false (by omega)
      have d1 : (false == true) = false := rfl
      simp (config := { maxSteps := 2000000 }) -implicitDefEqProofs (disch := (first | omega | rfl | assumption | (simp only [rsD]; first | omega | assumption))) only [law10_PoolPlays_L3, d0, d1, Nat.reduceAdd, Nat.reduceMul, Nat.reduceLT, Int.reduceToNat, Int.reduceAdd, Int.reduceSub, Int.reduceMul, rsU, rsC]
      exact Ok_some.2 ⟨σ2, M2, rfl, hp2, hb2, by omega, hw2⟩
theorem plays_end (h : PlAt σ pb mb wb n k M D S w a b) (hk : k ≤ 80) (hn : n ≤ 6) {r7 : AV × AH O} (hr7 : r7.2.next = wb) :
    Ok (loopF (S := List AV × AH O) (T := (List AV × AH O) ⊕ (AV × AH O)) (law10_PoolPlays_L2 r7 pool_Pool__Gen (some (.n pb, 0)) pool_Pool__Taken (n : Int) pool_Pool__Get) ([.i .i64 1], σ)) fun r => ∃ σ', r = .inl ([], σ') := by
  have hr := h.r
  have hll := h.sim.len
  have hE := h.bd.e
  obtain ⟨va, vb, e0, ha, hb⟩ := id h.at_
  cases e0
  obtain ⟨sa, vas, ea, ia, ca⟩ := Im.rd ha
  cases ea
  refine Ok.count D.L.length (fun j s => ∃ σ2 M2, s = ([.i .i64 ((j : Int) + 1)], σ2) ∧ PoolAt σ2 pb mb M2 S w [wb] ∧ σ2.blk wb = some (.cells true 123 [.i .i64 D.words, .sl a D.L.length, .sl b D.free.length, .i .i64 D.room]) ∧ M2.met.r ≤ M.met.r + 14 * j ∧ M2.met.w = M.met.w) ?_ ?_ ⟨σ, M, rfl, h.p, h.bx, by omega, rfl⟩
  · rintro i s hi ⟨σ2, M2, rfl, hp2, hb2, hr2, hw2⟩
    have hd := List.getElem?_eq_getElem hi
    generalize D.L[i] = d at hd
    obtain ⟨e, he, q1, q2, q3, q4⟩ := h.sim.get' hd
    obtain ⟨y0, y1, ws, y2, y3⟩ := DS.cells_ ca hd
    obtain ⟨bb, oo, ea, _⟩ := (ia O σ).ref hi
    have href : SA.ref a = some (bb, oo) := by rw [ea]; rfl
    have hld : ∀ (σ' : AH O) (j : Nat), j < 3 → σ'.ld bb (oo + i * 3 + j) = vas[i * 3 + j]? := fun σ' j hj => by
      obtain ⟨b2, o2, e2, hld⟩ := (ia O σ').ref hi
      rw [ea] at e2; cases e2
      exact hld j hj
    have ld0 : ∀ σ' : AH O, σ'.ld bb (oo + i * 3) = some (.b d.tk) := fun σ' => (hld σ' 0 (by decide)).trans y0
    have ld1 : ∀ σ' : AH O, σ'.ld bb (oo + i * 3 + 1) = some (.i .i64 d.gen) := fun σ' => (hld σ' 1 (by decide)).trans y1
    have v0 : (i : Int) + 1 - 1 = i := by omega
    simp (config := { maxSteps := 2000000 }) -implicitDefEqProofs (disch := (first | omega | rfl | assumption | (simp only [rsD]; first | omega | assumption))) only [law10_PoolPlays_L2, hr7, hb2, v0, ld1, href, Nat.reduceAdd, Nat.reduceMul, Nat.reduceLT, Int.reduceToNat, Int.reduceAdd, Int.reduceSub, Int.reduceMul, rsU, rsC]
    refine Ok.step (pgen_ok hp2 ⟨by omega, by omega⟩ he) fun r ⟨p1, M3, p2, p3, p4⟩ => ?_
    obtain ⟨q, σ3⟩ := r
    simp only at p1 p2 p4
    subst p1
    have hb3 : σ3.blk wb = _ := (p4.blk wb (by simp)).trans hb2
    have r3 := p3.r
    have w3 := p3.w
    have eg : ((e.gen : Int) == d.gen) = true := s_eqT q2.symm
    simp (config := { maxSteps := 2000000 }) -implicitDefEqProofs (disch := (first | omega | rfl | assumption | (simp only [rsD]; first | omega | assumption))) only [hb3, v0, ld0, ld1, href, eg, eq_self, beq_self_eq_true, Nat.reduceAdd, Nat.reduceMul, Nat.reduceLT, Int.reduceToNat, Int.reduceAdd, Int.reduceSub, Int.reduceMul, rsU, rsC]
    refine Ok.step (ptaken_ok p2 ⟨by omega, by omega⟩ he) fun r ⟨p5, M4, p6, p7, p8⟩ => ?_
    obtain ⟨q, σ4⟩ := r
    simp only at p5 p6 p8
    subst p5
    have hb4 : σ4.blk wb = _ := (p8.blk wb (by simp)).trans hb3
    have r4 := p7.r
    have w4 := p7.w
    have et : (e.tk == d.tk) = true := by rw [q1]; simp
    simp (config := { maxSteps := 2000000 }) -implicitDefEqProofs (disch := (first | omega | rfl | assumption | (simp only [rsD]; first | omega | assumption))) only [hb4, ld0, et, eq_self, Nat.reduceAdd, Nat.reduceMul, Nat.reduceLT, Int.reduceToNat, Int.reduceAdd, Int.reduceSub, Int.reduceMul, rsU, rsC]
    refine Ok.bindS (plays_words h hk hn hr7 p6 hb4 (by omega) hd he q1 q3 q4) ?_ (fun r hh => by obtain ⟨_, _, e, _⟩ := hh; cases e)
    rintro _ ⟨σ5, M5, e5, p9, hb5, r5, w5⟩
    cases e5
    simp (config := { maxSteps := 2000000 }) -implicitDefEqProofs (disch := (first | omega | rfl | assumption | (simp only [rsD]; first | omega | assumption))) only [Nat.reduceAdd, Nat.reduceMul, Nat.reduceLT, Int.reduceToNat, Int.reduceAdd, Int.reduceSub, Int.reduceMul, rsU, rsC]
    exact Ok_some.2 ⟨σ5, M5, by simp, p9, hb5, by omega, by omega⟩
  · rintro s ⟨σ2, M2, rfl, hp2, hb2, hr2, hw2⟩
    simp (config := { maxSteps := 2000000 }) -implicitDefEqProofs (disch := (first | omega | rfl | assumption | (simp only [rsD]; first | omega | assumption))) only [law10_PoolPlays_L2, hr7, hb2, Nat.reduceAdd, Nat.reduceMul, Nat.reduceLT, Int.reduceToNat, Int.reduceAdd, Int.reduceSub, Int.reduceMul, rsU, rsC]
    exact Ok_some.2 ⟨σ2, rfl⟩
end
theorem poolPlays_ok {σ : AH O} {words : Int} (hw : 0 ≤ words ∧ words ≤ 255) {so : SA} {ops : List POp} (hj : Imm 4 so ops.length (ops.flatMap POp.cells)) (hr : ∀ o ∈ ops, o.rng) : Ok (law10_PoolPlays [.i .u8 words, .sl so ops.length] σ) fun r => r.1 = .b true := by
  have few : ∀ {σ : AH O}, law10_few [.sl so ops.length] σ = some (.b (decide ((ops.length : Int) ≤ 80)), σ) := by intro σ; simp (config := { maxSteps := 2000000 }) -implicitDefEqProofs (disch := (first | omega | rfl | assumption | (simp only [rsD]; first | omega | assumption))) only [law10_few, law10_few_c, Nat.reduceAdd, Nat.reduceMul, Nat.reduceLT, Int.reduceToNat, Int.reduceAdd, Int.reduceSub, Int.reduceMul, rsU, rsC]
  obtain ⟨n, hn⟩ : ∃ n : Nat, 1 + words % 6 = n := ⟨(1 + words % 6).toNat, by omega⟩
  have hn2 : 1 ≤ n ∧ n ≤ 6 := by omega
  have hm := s_tmod (b := 6) hw.1
  simp (config := { maxSteps := 2000000 }) -implicitDefEqProofs (disch := (first | omega | rfl | assumption | (simp only [rsD]; first | omega | assumption))) only [law10_PoolPlays, law10_PoolPlays_c, hm, Nat.reduceAdd, Nat.reduceMul, Nat.reduceLT, Int.reduceToNat, Int.reduceAdd, Int.reduceSub, Int.reduceMul, rsU, rsC]
  refine Ok.step awake10_ok fun r g1 => ?_
  obtain ⟨q, σ1⟩ := r
  simp only at g1
  subst g1
  by_cases hbig : ¬ (ops.length : Int) ≤ 80
  · simp (config := { maxSteps := 2000000 }) -implicitDefEqProofs (disch := (first | omega | rfl | assumption | (simp only [rsD]; first | omega | assumption))) only [few, Nat.reduceAdd, Nat.reduceMul, Nat.reduceLT, Int.reduceToNat, Int.reduceAdd, Int.reduceSub, Int.reduceMul, rsU, rsC]
    exact Ok_some.2 rfl
  simp (config := { maxSteps := 2000000 }) -implicitDefEqProofs (disch := (first | omega | rfl | assumption | (simp only [rsD]; first | omega | assumption))) only [few, hn, Nat.reduceAdd, Nat.reduceMul, Nat.reduceLT, Int.reduceToNat, Int.reduceAdd, Int.reduceSub, Int.reduceMul, rsU, rsC]
  refine Ok.step (made10_ok (σ := σ1) (n := n) (by omega)) fun r ⟨mb, pb, M, id, g1, g2, g3, g4, g5, g6⟩ => ?_
  obtain ⟨q, σ2⟩ := r
  simp only at g1 g2
  subst g1
  subst g6
  simp (config := { maxSteps := 2000000 }) -implicitDefEqProofs (disch := (first | omega | rfl | assumption | (simp only [rsD]; first | omega | assumption))) only [Nat.reduceAdd, Nat.reduceMul, Nat.reduceLT, Int.reduceToNat, Int.reduceAdd, Int.reduceSub, Int.reduceMul, rsU, rsC]
  generalize hσ : AH.put _ σ2.next _ = σ3
  have E : Ext σ2 σ3 := by rw [← hσ]; exact ((Ext.refl σ2).bump 1).put (Nat.le_refl _) _
  have n3 : σ3.next = σ2.next + 1 := by rw [← hσ]; rfl
  have b3 : σ3.blk σ2.next = some (.cells true 123 [.i .i64 (n : Int), .sl .nil 0, .sl .nil 0, .i .i64 0]) := by rw [← hσ]; exact s_bs
  clear hσ
  have start : PlAt σ3 pb mb σ2.next n 0 M ⟨n, [], [], 0⟩ ⟨0, n, 0, [], [], 0⟩ [] .nil .nil := by
    refine ⟨g2.turn (L := []) E.chg (by simp) fun c hc => ?_, ⟨rfl, rfl, rfl, fun i d e hd => by simp at hd, rfl⟩, ⟨by show 1 ≤ n ∧ n ≤ 60; omega, Nat.le_refl _, Nat.le_refl _, fun e he => by simp at he, Nat.zero_le _⟩, ⟨_, _, rfl, .sl (Imm.nil 3) .nil, .sl (Imm.nil 1) .nil⟩, b3, by omega, g5, rfl, rfl⟩
    simp at hc; subst hc; right; omega
  refine Ok.bindS (Q := fun r => ∃ σ' M D S w a b k, r = .inl ([], σ') ∧ PlAt σ' pb mb σ2.next n k M D S w a b ∧ k ≤ 80) ?_ ?_ (fun r h => by obtain ⟨_, _, _, _, _, _, _, _, e, _⟩ := h; cases e)
  · refine Ok.count ops.length (fun k s => ∃ σ' M D S w a b, s = ([.i .i64 (k : Int)], σ') ∧ PlAt σ' pb mb σ2.next n k M D S w a b) ?_ ?_ ⟨σ3, M, _, _, _, _, _, rfl, start⟩
    · rintro k s hk ⟨σ', M, D, S, w, a, b, rfl, h⟩
      have hx := List.getElem?_eq_getElem hk
      have hxr := hr _ (List.mem_of_getElem? hx)
      generalize ops[k] = x at hx hxr
      obtain ⟨bb, o, e, hld⟩ := Imm.row POp.len hj hx (by omega)
      refine (plays_step h (by omega) (N := ops.length) (by omega) hk hxr e (fun σ => hld O σ 0 (by omega)) (fun σ => hld O σ 1 (by omega)) (fun σ => hld O σ 2 (by omega)) (fun σ => hld O σ 3 (by omega)) (r7 := _) rfl hn2.2).mono ?_
      rintro _ ⟨σ', M', D', S', w', a', b', rfl, h'⟩
      exact ⟨σ', M', D', S', w', a', b', rfl, h'⟩
    · rintro s ⟨σ', M, D, S, w, a, b, rfl, h⟩
      simp (config := { maxSteps := 2000000 }) -implicitDefEqProofs (disch := (first | omega | rfl | assumption | (simp only [rsD]; first | omega | assumption))) only [law10_PoolPlays_L1, Nat.reduceAdd, Nat.reduceMul, Nat.reduceLT, Int.reduceToNat, Int.reduceAdd, Int.reduceSub, Int.reduceMul, rsU, rsC]
      exact Ok_some.2 ⟨σ', M, D, S, w, a, b, _, rfl, h, by omega⟩
  rintro _ ⟨σ', M, D, S, w, a, b, k, e, h, hk⟩
  cases e
  simp (config := { maxSteps := 2000000 }) -implicitDefEqProofs (disch := (first | omega | rfl | assumption | (simp only [rsD]; first | omega | assumption))) only [Nat.reduceAdd, Nat.reduceMul, Nat.reduceLT, Int.reduceToNat, Int.reduceAdd, Int.reduceSub, Int.reduceMul, rsU, rsC]
  refine Ok.bindS (plays_end h hk hn2.2 (r7 := _) rfl) ?_ (fun r hh => by obtain ⟨_, e⟩ := hh; cases e)
  rintro _ ⟨σ'', e⟩
  cases e
  simp (config := { maxSteps := 2000000 }) -implicitDefEqProofs (disch := (first | omega | rfl | assumption | (simp only [rsD]; first | omega | assumption))) only [Nat.reduceAdd, Nat.reduceMul, Nat.reduceLT, Int.reduceToNat, Int.reduceAdd, Int.reduceSub, Int.reduceMul, rsU, rsC]
  exact Ok_some.2 rfl
end Go.Abs.Try
