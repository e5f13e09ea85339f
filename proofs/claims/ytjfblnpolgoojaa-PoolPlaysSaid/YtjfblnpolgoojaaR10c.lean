/-
  The document of layer 10: a number is given back. No conditions.
-/
import Derived.Test.YtjfblnpolgoojaaR10b
set_option linter.unusedVariables false
set_option linter.unusedSimpArgs false
set_option linter.constructorNameAsVariable false
set_option linter.unusedSimpArgs false
set_option linter.unusedVariables false
set_option linter.unusedSectionVars false
set_option maxHeartbeats 1000000
namespace Go.Abs.Try
open Go Go.Abs
variable {O : Type}

def DS.give (S : DS) (id : Int) : DS × Int :=
  match S.ent id with
  | some e => if e.tk = true then ({ S with L := S.L.set (id - 1).toNat ⟨false, e.gen + 1, e.ws⟩, free := S.free ++ [id] }, 0) else (S, 4)
  | none => (S, 4)
theorem rgive_ok {σ : AH O} {S : DS} (hs : S.small) (hg : ∀ e ∈ S.L, 0 ≤ e.gen ∧ e.gen ≤ 1000) {v : AV} (h : S.at_ v) {id : Int} (hr : -9223372036854775808 ≤ id ∧ id ≤ 9223372036854775807) : Ok (haymowref10_Give [v, .i .i64 id] σ) fun r => (∃ v', r.1 = .tup [v', .i .i64 (S.give id).2] ∧ (S.give id).1.at_ v') ∧ Ext σ r.2 := by
  refine frz_ok (Q := fun v => ∃ v', v = .tup [v', .i .i64 (S.give id).2] ∧ (S.give id).1.at_ v') ?_
  have hv := h
  obtain ⟨a, b, rfl, ha, hb⟩ := h
  obtain ⟨sa, va, rfl, ia, ca⟩ := Im.rd ha
  obtain ⟨sb, vb, rfl, ib, cb⟩ := Im.rd hb
  have hsl := hs.l
  have hsf := hs.f
  simp (config := { maxSteps := 2000000 }) -implicitDefEqProofs (disch := (first | omega | rfl | assumption | (simp only [rsD]; first | omega | assumption))) only [haymowref10_Give_c, Nat.reduceAdd, Nat.reduceMul, Nat.reduceLT, Int.reduceToNat, Int.reduceAdd, Int.reduceSub, Int.reduceMul, rsU, rsC]
  generalize hσ : AH.put _ (σ.next + 1) _ = σ1
  have b0 : ∃ el, σ1.blk σ.next = some (.cells true el [.i .i64 S.words, .sl sa S.L.length, .sl sb S.free.length, .i .i64 S.room]) := by rw [← hσ]; exact ⟨_, (s_bn (by omega)).trans s_bs⟩
  have b1 : ∃ el, σ1.blk (σ.next + 1) = some (.cells true el [.i .i64 0, .sl .nil 0, .sl .nil 0, .i .i64 0]) := by rw [← hσ]; exact ⟨_, s_bs⟩
  have E1 : Ext σ σ1 := by rw [← hσ]; exact ((((Ext.refl σ).bump 2).put (Nat.le_refl _) _).put (by omega) _)
  have n1 : σ1.next = σ.next + 2 := by rw [← hσ]; rfl
  clear hσ
  obtain ⟨el0, b0⟩ := b0
  obtain ⟨el1, b1⟩ := b1
  refine Ok.step (ris_ok hs hv hr) fun r ⟨g1, g2⟩ => ?_
  obtain ⟨q, σ2⟩ := r
  simp only at g1 g2
  subst g1
  have c0 : σ2.blk σ.next = _ := (g2.blk _ (by omega)).trans b0
  have c1 : σ2.blk (σ.next + 1) = _ := (g2.blk _ (by omega)).trans b1
  have bad : S.is id = false → S.give id = (S, 4) := fun hf => by
    unfold DS.give
    unfold DS.is at hf
    cases he : S.ent id with
    | none => rfl
    | some e => rw [he] at hf; simp only at hf; simp [hf]
  cases hi : S.is id with
  | false =>
    simp (config := { maxSteps := 2000000 }) -implicitDefEqProofs (disch := (first | omega | rfl | assumption | (simp only [rsD]; first | omega | assumption))) only [c0, c1, Nat.reduceAdd, Nat.reduceMul, Nat.reduceLT, Int.reduceToNat, Int.reduceAdd, Int.reduceSub, Int.reduceMul, rsU, rsC]
    rw [bad hi]
    refine Ok_some.2 ⟨_, [], DS.fzt (DS.fz0 hv), by simp, ?_, _, rfl, hv⟩
    exact ((E1.trans g2).put (by omega) _)
  | true =>
    obtain ⟨e, he⟩ : ∃ e, S.ent id = some e := by
      unfold DS.is at hi
      cases he : S.ent id with
      | none => rw [he] at hi; cases hi
      | some e => exact ⟨e, rfl⟩
    have htk : e.tk = true := by unfold DS.is at hi; rw [he] at hi; exact hi
    obtain ⟨i, rfl, hie, hl⟩ := DS.ent_some he
    have hgv : S.give ((i : Int) + 1) = ({ S with L := S.L.set i ⟨false, e.gen + 1, e.ws⟩, free := S.free ++ [(i : Int) + 1] }, 0) := by
      unfold DS.give
      rw [he]
      simp only [htk, if_true]
      rw [show ((i : Int) + 1 - 1).toNat = i by omega]
    have v0 : (i : Int) + 1 - 1 = i := by omega
    simp (config := { maxSteps := 2000000 }) -implicitDefEqProofs (disch := (first | omega | rfl | assumption | (simp only [rsD]; first | omega | assumption))) only [c0, Nat.reduceAdd, Nat.reduceMul, Nat.reduceLT, Int.reduceToNat, Int.reduceAdd, Int.reduceSub, Int.reduceMul, rsU, rsC]
    refine Ok.step (rcopied_ok hs hv) fun r ⟨a', vs, L, b', p1, p2, p3, p4, p5, p6, p7, p8, p9, _⟩ => ?_
    obtain ⟨q, σ3⟩ := r
    simp only at p1 p2 p3 p4 p9
    subst p1
    have d0 : σ3.blk σ.next = _ := (p9.blk _ (by have := g2.next; omega)).trans c0
    have d1 : σ3.blk (σ.next + 1) = _ := (p9.blk _ (by have := g2.next; omega)).trans c1
    obtain ⟨kb, rfl, hkb, hkl⟩ := p2.loc (by omega)
    have hkn := p7 kb (by simp [SA.bk])
    have nx2 := g2.next
    have hvl := p2.len
    have t0 : (S.L.flatMap DE.row)[i * 3 + 0]? = some (.lf (.b e.tk)) := by rw [fmt_get DE.len _ _ _ (by decide), hie]; rfl
    have t1 : (S.L.flatMap DE.row)[i * 3 + 1]? = some (.lf (.i .i64 e.gen)) := by rw [fmt_get DE.len _ _ _ (by decide), hie]; rfl
    rw [Nat.add_zero] at t0
    have w1 := p3.leafGet t1
    have ge := hg e (List.mem_of_getElem? hie)
    have s1 : splice vs (i * 3) [.b false] = vs.set (i * 3) (.b false) := splice_set (by omega)
    have w2 : (vs.set (i * 3) (.b false))[i * 3 + 1]? = some (.i .i64 e.gen) := by rw [List.getElem?_set, if_neg (by omega)]; exact w1
    have s2 : splice (vs.set (i * 3) (.b false)) (i * 3 + 1) [.i .i64 (e.gen + 1)] = (vs.set (i * 3) (.b false)).set (i * 3 + 1) (.i .i64 (e.gen + 1)) := splice_set (by rw [List.length_set]; omega)
    have k1 : Nat.ble (i * 3 + 1) vs.length = true := Nat.ble_eq_true_of_le (by omega)
    have k2 : Nat.ble (i * 3 + 1 + 1) (vs.set (i * 3) (.b false)).length = true := Nat.ble_eq_true_of_le (by rw [List.length_set]; omega)
    simp (config := { maxSteps := 2000000 }) -implicitDefEqProofs (disch := (first | omega | rfl | assumption | (simp only [rsD]; first | omega | assumption))) only [d0, v0, hkb, k1, s1, w2, k2, s2, Nat.reduceAdd, Nat.reduceMul, Nat.reduceLT, Int.reduceToNat, Int.reduceAdd, Int.reduceSub, Int.reduceMul, rsU, rsC]
    have t1' : ((S.L.flatMap DE.row).set (i * 3) (.lf (.b false)))[i * 3 + 1]? = some (.lf (.i .i64 e.gen)) := by rw [List.getElem?_set, if_neg (by omega)]; exact t1
    have hrows : ((S.L.flatMap DE.row).set (i * 3) (.lf (.b false))).set (i * 3 + 1) (.lf (.i .i64 (e.gen + 1))) = (S.L.set i ⟨false, e.gen + 1, e.ws⟩).flatMap DE.row := by
      have r1 := rows_set (S := S) (i := i) (e := e) ⟨false, e.gen, e.ws⟩ hie 0 (.lf (.b false)) (by decide) rfl
      have r2 := rows_set (S := { S with L := S.L.set i ⟨false, e.gen, e.ws⟩ }) (i := i) (e := ⟨false, e.gen, e.ws⟩) ⟨false, e.gen + 1, e.ws⟩ (by show (S.L.set i _)[i]? = _; rw [List.getElem?_set]; simp [hl]) 1 (.lf (.i .i64 (e.gen + 1))) (by decide) rfl
      simp only [List.set_set, Nat.add_zero] at r1 r2
      rw [r2, r1]
    have q3 := (p3.leafSet t0 (y := .b false) rfl).leafSet t1' (y := .i .i64 (e.gen + 1)) rfl
    rw [hrows] at q3
    have hv2 : ((vs.set (i * 3) (.b false)).set (i * 3 + 1) (.i .i64 (e.gen + 1))).length = S.L.length * 3 := by rw [List.length_set, List.length_set]; exact hvl
    generalize ((vs.set (i * 3) (AV.b false)).set (i * 3 + 1) (AV.i .i64 (e.gen + 1))) = vs2 at *
    have hkL := p5 kb (by simp [SA.bk])
    generalize hσ : AH.put _ σ3.next (.cells true 3 _) = σ4
    have n4 : σ4.next = σ3.next + 2 := by rw [← hσ]; rfl
    have e0 : σ4.blk σ.next = some (.cells true el0 [.i .i64 S.words, .sl (.loc (.n kb) 0 3) S.L.length, .sl b' S.free.length, .i .i64 S.room]) := by rw [← hσ]; exact (s_bn (by have := p9.next; omega)).trans ((s_bn (by omega)).trans s_bs)
    have ek : σ4.blk kb = some (.cells true 130 vs2) := by rw [← hσ]; exact (s_bn (by omega)).trans s_bs
    have o4 : ∀ b, b ≠ σ.next → b ≠ kb → b ≠ σ3.next → σ4.blk b = σ3.blk b := fun b h1 h2 h3 => by rw [← hσ]; exact (s_bn h3).trans ((s_bn h2).trans (s_bn h1))
    clear hσ
    have nx3 := p9.next
    have own4 : OwnS σ4 3 1 b' S.free.length (S.free.map (AV.i .i64)) := p4.of (by omega) fun b hb => o4 b (by have := p8 b hb; omega) (fun e => p6 b hb (by rw [e]; simp [SA.bk])) (by have := p4.lt b hb; omega)
    refine Ok.step (app_ok (nid := σ3.next + 1) own4 (fun hm => by have := p4.lt _ hm; omega) (by omega) (show [AV.i .i64 ((i : Int) + 1)].length = 1 * 1 from rfl)) fun q ⟨b2, q4, q5, q6, q7, q8⟩ => ?_
    obtain ⟨q, σ5⟩ := q
    simp only at q4 q5 q6 q7
    subst q4
    have nb : ∀ b, b < σ2.next → b ∉ SA.bk b' := fun b hb hm => by have := p8 b hm; omega
    have f0 : σ5.blk σ.next = _ := (q7 _ (by omega) (nb _ (by omega))).trans e0
    have f1 : σ5.blk (σ.next + 1) = _ := (q7 _ (by omega) (nb _ (by omega))).trans ((o4 _ (by omega) (by omega) (by omega)).trans d1)
    simp (config := { maxSteps := 2000000 }) -implicitDefEqProofs (disch := (first | omega | rfl | assumption | (simp only [rsD]; first | omega | assumption))) only [f0, f1, Nat.reduceAdd, Nat.reduceMul, Nat.reduceLT, Int.reduceToNat, Int.reduceAdd, Int.reduceSub, Int.reduceMul, rsU, rsC]
    generalize hσ : AH.put _ (σ.next + 1) _ = σ6
    have n6 : σ6.next = σ5.next := by rw [← hσ]; rfl
    have o6 : ∀ b, b ≠ σ.next → b ≠ σ.next + 1 → σ6.blk b = σ5.blk b := fun b hb hc => by rw [← hσ]; exact (s_bn hc).trans (s_bn hb)
    clear hσ
    obtain ⟨S', hS⟩ : ∃ S' : DS, S' = { S with L := S.L.set i ⟨false, e.gen + 1, e.ws⟩, free := S.free ++ [(i : Int) + 1] } := ⟨_, rfl⟩
    rw [hgv, ← hS]
    have eL : S'.L.length = S.L.length := by rw [hS]; exact List.length_set ..
    have eF : S'.free.length = S.free.length + 1 := by rw [hS]; simp
    have eR : S'.L.flatMap DE.row = (S.L.set i ⟨false, e.gen + 1, e.ws⟩).flatMap DE.row := by rw [hS]
    have eG : S'.free.map (AV.i .i64) = S.free.map (AV.i .i64) ++ [.i .i64 ((i : Int) + 1)] := by rw [hS]; simp
    have eW : S'.words = S.words ∧ S'.room = S.room := by rw [hS]; exact ⟨rfl, rfl⟩
    clear hS
    have ok6 : OwnS σ6 130 3 (.loc (.n kb) 0 3) S'.L.length vs2 := by
      rw [eL]
      exact OwnS.new hv2 ((o6 kb (by omega) (by omega)).trans ((q7 kb (by omega) (fun hm => p6 kb hm (by simp [SA.bk]))).trans ek)) (by omega)
    have ol6 : OwL σ6 (S'.L.flatMap DE.row) vs2 L := by
      rw [eR]
      exact q3.of (by omega) fun b hb => by
        have h1 := p7 b (by simp [hb])
        have h2 := p3.lt b hb
        have h3 : b ≠ kb := fun e => hkL (e ▸ hb)
        exact (o6 b (by omega) (by omega)).trans ((q7 b (by omega) (fun hm => p6 b hm (by simp [hb]))).trans (o4 b (by omega) h3 (by omega)))
    have of6 : OwnS σ6 3 1 b2 S'.free.length (S'.free.map (AV.i .i64)) := by
      rw [eF, eG]
      exact q5.of (by omega) fun b hb => o6 b (by have := q8 b hb; omega) (by have := q8 b hb; omega)
    obtain ⟨v', z1, z2⟩ := DS.fz ok6 ol6 of6 p5 fun b hb hm => by
      have h1 := q8 b hb
      rcases List.mem_append.1 hm with hm | hm
      · simp [SA.bk] at hm; omega
      · have := p3.lt b hm; omega
    rw [eL, eF, eW.1, eW.2] at z1
    have h06 : σ.next ≤ σ6.next := by omega
    refine Ok_some.2 ⟨_, _, DS.fzt z1, fun b hb => ?_, ⟨h06, fun b hb => ?_⟩, v', rfl, z2⟩
    · simp only [List.mem_append] at hb
      rcases hb with (hb | hb) | hb
      · have := p7 b (by simp [hb]); omega
      · have := p7 b (by simp [hb]); omega
      · have := q8 b hb; omega
    · show σ6.blk b = _
      rw [o6 b (by omega) (by omega), q7 b (by omega) (nb b (by omega)), o4 b (by omega) (by omega) (by omega), p9.blk b (by omega), g2.blk b (by omega), E1.blk b hb]
end Go.Abs.Try
