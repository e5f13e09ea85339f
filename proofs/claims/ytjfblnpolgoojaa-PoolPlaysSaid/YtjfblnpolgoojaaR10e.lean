/-
  The document of layer 10: an entry is taken, under a number that was given back. No conditions.
-/
import Derived.Test.YtjfblnpolgoojaaR10d
set_option linter.unusedVariables false
set_option linter.unusedSimpArgs false
set_option linter.constructorNameAsVariable false
set_option linter.unusedSimpArgs false
set_option linter.unusedVariables false
set_option linter.unusedSectionVars false
set_option maxHeartbeats 1000000
namespace Go.Abs.Try
open Go Go.Abs
variable {O : Type}

theorem DS.fz2 {σ : AH O} {S : DS} {a : SA} {vb vb' : AV} {vs : List AV} {L Lb : List Nat} (o : OwnS σ 130 3 a S.L.length vs) (c : OwL σ (S.L.flatMap DE.row) vs L) (f2 : FZ 6 σ.blk Lb vb vb') (m2 : Im S.tf vb') (d1 : ∀ x ∈ SA.bk a, x ∉ L) (d2 : ∀ x ∈ Lb, x ∉ SA.bk a ++ L) :
    ∃ v', FZ 7 σ.blk (SA.bk a ++ L ++ Lb) (.agg [.i .i64 S.words, .sl a S.L.length, vb, .i .i64 S.room]) v' ∧ S.at_ v' := by
  obtain ⟨va, f1, m1⟩ := Ow.fz (t := S.tl) (d := 5) (.sl o c d1) S.deep_l
  have h := FZL.cons0 (v := .i .i64 S.words) (FZ.flat rfl) (FZL.cons f1 (FZL.cons f2 (FZL.flat (vs := [.i .i64 S.room]) rfl) (by simp)) fun x hx hm => by
    simp only [List.append_nil] at hm
    exact d2 x hm hx)
  simp only [List.append_nil] at h
  exact ⟨_, FZ.agg h, va, vb', rfl, m1, m2⟩
def DS.taken (S : DS) (i : Nat) (e : DE) (F : List Int) : DS := { S with L := S.L.set i ⟨true, e.gen, List.replicate S.words.toNat 0⟩, free := F }
theorem rtake_old {σ : AH O} {S : DS} (hs : S.small) (hW : 0 ≤ S.words ∧ S.words ≤ 1000) {v : AV} (h : S.at_ v) {F : List Int} {i : Nat} {e : DE} (hF : S.free = F ++ [(i : Int) + 1]) (hie : S.L[i]? = some e) :
    Ok (haymowref10_Take [v] σ) fun r => (∃ v', r.1 = .tup [v', .i .i64 ((i : Int) + 1)] ∧ (S.taken i e F).at_ v') ∧ Ext σ r.2 := by
  refine frz_ok (Q := fun v => ∃ v', v = .tup [v', .i .i64 ((i : Int) + 1)] ∧ (S.taken i e F).at_ v') ?_
  have hv := h
  obtain ⟨a, b, rfl, ha, hb⟩ := h
  obtain ⟨sa, va, rfl, ia, ca⟩ := Im.rd ha
  obtain ⟨sb, vb, rfl, ib, cb⟩ := Im.rd hb
  have hsl := hs.l
  have hsf := hs.f
  have hl : i < S.L.length := (List.getElem?_eq_some_iff.1 hie).1
  have hfl : S.free.length = F.length + 1 := by rw [hF]; simp
  simp (config := { maxSteps := 2000000 }) -implicitDefEqProofs (disch := (first | omega | rfl | assumption | (simp only [rsD]; first | omega | assumption))) only [haymowref10_Take_c, Nat.reduceAdd, Nat.reduceMul, Nat.reduceLT, Int.reduceToNat, Int.reduceAdd, Int.reduceSub, Int.reduceMul, rsU, rsC]
  generalize hσ : AH.put _ (σ.next + 1) _ = σ1
  have b0 : ∃ el, σ1.blk σ.next = some (.cells true el [.i .i64 S.words, .sl sa S.L.length, .sl sb S.free.length, .i .i64 S.room]) := by rw [← hσ]; exact ⟨_, (s_bn (by omega)).trans s_bs⟩
  have b1 : ∃ el, σ1.blk (σ.next + 1) = some (.cells true el [.i .i64 0, .sl .nil 0, .sl .nil 0, .i .i64 0]) := by rw [← hσ]; exact ⟨_, s_bs⟩
  have E1 : Ext σ σ1 := by rw [← hσ]; exact ((((Ext.refl σ).bump 2).put (Nat.le_refl _) _).put (by omega) _)
  have n1 : σ1.next = σ.next + 2 := by rw [← hσ]; rfl
  clear hσ
  obtain ⟨el0, b0⟩ := b0
  obtain ⟨el1, b1⟩ := b1
  refine Ok.step (rcopied_ok hs hv) fun r ⟨a', vs, L, b', p1, p2, p3, p4, p5, p6, p7, p8, p9, _⟩ => ?_
  obtain ⟨q, σ3⟩ := r
  simp only at p1 p2 p3 p4 p9
  subst p1
  have nx3 := p9.next
  have d0 : σ3.blk σ.next = _ := (p9.blk _ (by omega)).trans b0
  have d1 : σ3.blk (σ.next + 1) = _ := (p9.blk _ (by omega)).trans b1
  obtain ⟨kb, rfl, hkb, hkl⟩ := p2.loc (by omega)
  obtain ⟨fb, rfl, hfb, hfbl⟩ := p4.loc (by omega)
  have hkn := p7 kb (by simp [SA.bk])
  have hfn := p8 fb (by simp [SA.bk])
  have hfk : fb ≠ kb := fun e => p6 fb (by simp [SA.bk]) (by simp [SA.bk, e])
  have hvl := p2.len
  have t0 : (S.L.flatMap DE.row)[i * 3 + 0]? = some (.lf (.b e.tk)) := by rw [fmt_get DE.len _ _ _ (by decide), hie]; rfl
  have t2 : (S.L.flatMap DE.row)[i * 3 + 2]? = some (.sl 22 1 e.ws.length ((e.ws.map (AV.i .u64)).map TV.lf)) := by rw [fmt_get DE.len _ _ _ (by decide), hie]; rfl
  rw [Nat.add_zero] at t0
  have v0 : (i : Int) + 1 - 1 = i := by omega
  have v1 : ((S.free.length : Int) - 1).toNat = F.length := by omega
  have f1 : (S.free.map (AV.i .i64))[F.length]? = some (.i .i64 ((i : Int) + 1)) := by rw [hF]; simp
  have s1 : splice vs (i * 3) [.b true] = vs.set (i * 3) (.b true) := splice_set (by omega)
  have k1 : Nat.ble (i * 3 + 1) vs.length = true := Nat.ble_eq_true_of_le (by omega)
  have k2 : Nat.ble (i * 3 + 2 + 1) (vs.set (i * 3) (.b true)).length = true := Nat.ble_eq_true_of_le (by rw [List.length_set]; omega)
  have i64r : ((i : Int) + 1) ≤ 1000 := by omega
  simp (config := { maxSteps := 2000000 }) -implicitDefEqProofs (disch := (first | omega | rfl | assumption | (simp only [rsD]; first | omega | assumption))) only [d0, d1, v0, v1, hkb, hfb, f1, k1, s1, Nat.sub_zero, k2, u64s_rep, Nat.reduceAdd, Nat.reduceMul, Nat.reduceLT, Int.reduceToNat, Int.reduceAdd, Int.reduceSub, Int.reduceMul, rsU, rsC]
  have s2 : ∀ x, splice (vs.set (i * 3) (.b true)) (i * 3 + 2) [x] = (vs.set (i * 3) (.b true)).set (i * 3 + 2) x := fun x => splice_set (by rw [List.length_set]; omega)
  simp only [s2]
  generalize hσ : AH.put _ (σ.next + 1) _ = σ6
  have n6 : σ6.next = σ3.next + 1 := by rw [← hσ]; rfl
  have o6 : ∀ b, b ≠ σ.next → b ≠ kb → b ≠ σ3.next → b ≠ σ.next + 1 → σ6.blk b = σ3.blk b := fun b h1 h2 h3 h4 => by
    rw [← hσ]; simp -implicitDefEqProofs (disch := omega) only [s_bn, s_bs, s_kn, bump_blk]
  have ew : σ6.blk σ3.next = some (.cells true 22 (u64s (List.replicate S.words.toNat 0))) := by rw [← hσ]; simp -implicitDefEqProofs (disch := omega) only [s_bn, s_bs, s_kn, bump_blk]
  have ek : σ6.blk kb = some (.cells true 130 ((vs.set (i * 3) (.b true)).set (i * 3 + 2) (.sl (.loc (.n σ3.next) 0 1) S.words.toNat))) := by rw [← hσ]; simp -implicitDefEqProofs (disch := omega) only [s_bn, s_bs, s_kn, bump_blk]
  clear hσ
  have q3 := p3.leafSet t0 (y := .b true) rfl
  have t2' : ((S.L.flatMap DE.row).set (i * 3) (.lf (.b true)))[i * 3 + 2]? = some (.sl 22 1 e.ws.length ((e.ws.map (AV.i .u64)).map TV.lf)) := by rw [List.getElem?_set, if_neg (by omega)]; exact t2
  obtain ⟨vw, A, D, B, y1, y2, rfl, y4, y5⟩ := q3.split t2'
  have own6 : OwnS σ6 22 1 (.loc (.n σ3.next) 0 1) S.words.toNat (u64s (List.replicate S.words.toNat 0)) := OwnS.new (by rw [u64s_len]; simp) ew (by omega)
  have hkL := p5 kb (by simp [SA.bk])
  have old : ∀ b, b ∈ A ∨ b ∈ B → σ6.blk b = σ3.blk b := fun b hb => by
    have hm : b ∈ A ++ (D ++ B) := by rcases hb with hb | hb <;> simp [hb]
    have h1 := p7 b (List.mem_append_right _ hm)
    have h2 := p3.lt b hm
    exact o6 b (by omega) (fun e => hkL (e ▸ hm)) (by omega) (by omega)
  have up := y5 σ6 _ _ _ (by omega) old (Ow.leaves own6 (u64s_flat _)) fun b hb => by
    simp [SA.bk] at hb
    subst hb
    exact ⟨fun hm => by have := p3.lt σ3.next (by simp [hm]); omega, fun hm => by have := p3.lt σ3.next (by simp [hm]); omega⟩
  have hrows : ((S.L.flatMap DE.row).set (i * 3) (.lf (.b true))).set (i * 3 + 2) (.sl 22 1 S.words.toNat ((u64s (List.replicate S.words.toNat 0)).map TV.lf)) = (S.L.set i ⟨true, e.gen, List.replicate S.words.toNat 0⟩).flatMap DE.row := by
    have r1 := rows_set (S := S) (i := i) (e := e) ⟨true, e.gen, e.ws⟩ hie 0 (.lf (.b true)) (by decide) rfl
    have r2 := rows_set (S := { S with L := S.L.set i ⟨true, e.gen, e.ws⟩ }) (i := i) (e := ⟨true, e.gen, e.ws⟩) ⟨true, e.gen, List.replicate S.words.toNat 0⟩ (by show (S.L.set i _)[i]? = _; rw [List.getElem?_set]; simp [hl]) 2 (.sl 22 1 S.words.toNat ((u64s (List.replicate S.words.toNat 0)).map TV.lf)) (by decide) (by simp [DE.row, u64s])
    simp only [List.set_set, Nat.add_zero] at r1 r2
    rw [r2, r1]
  rw [hrows] at up
  obtain ⟨S', hS⟩ : ∃ S' : DS, S' = S.taken i e F := ⟨_, rfl⟩
  rw [← hS]
  have eL : S'.L.length = S.L.length := by rw [hS]; exact List.length_set ..
  have eF : S'.free = F := by rw [hS]; rfl
  have eR : S'.L.flatMap DE.row = (S.L.set i ⟨true, e.gen, List.replicate S.words.toNat 0⟩).flatMap DE.row := by rw [hS]; rfl
  have eW : S'.words = S.words ∧ S'.room = S.room := by rw [hS]; exact ⟨rfl, rfl⟩
  clear hS
  rw [← eR] at up
  have hv2 : ((vs.set (i * 3) (.b true)).set (i * 3 + 2) (AV.sl (.loc (.n σ3.next) 0 1) S.words.toNat)).length = S'.L.length * 3 := by rw [List.length_set, List.length_set, eL]; exact hvl
  have ok6 : OwnS σ6 130 3 (.loc (.n kb) 0 3) S'.L.length _ := OwnS.new hv2 ek (by omega)
  have hf6 : σ6.blk fb = _ := (o6 fb (by omega) hfk (by omega) (by omega)).trans hfb
  have htk : (S.free.map (AV.i .i64)).take (F.length * 1) = F.map (AV.i .i64) := by rw [hF]; simp
  obtain ⟨z3, z4⟩ := FZ.pre (d := 4) (H := σ6.blk) (L := []) (es := 1) (n := F.length) (cs' := F.map (AV.i .i64)) hf6 rfl (by simp; omega) (by rw [htk]; exact FZL.flat (flat_ints F)) (by simp) (by simp)
  have z5 : Im S'.tf (.sl (.loc (.f (F.map (AV.i .i64))) 0 1) F.length) := by
    unfold DS.tf; rw [eF]
    exact .sl z4 (ImL.lfs (flat_ints F))
  obtain ⟨v', z1, z2⟩ := DS.fz2 ok6 up z3 z5 (fun b hb hm => by
    simp [SA.bk] at hb
    subst hb
    simp [SA.bk] at hm
    rcases hm with hm | hm | hm
    · exact hkL (by simp [hm])
    · omega
    · exact hkL (by simp [hm])) fun b hb hm => by
    simp at hb
    subst hb
    simp [SA.bk] at hm
    rcases hm with hm | hm | hm | hm
    · exact hfk hm
    · exact p6 b (by simp [SA.bk]) (by simp [hm])
    · omega
    · exact p6 b (by simp [SA.bk]) (by simp [hm])
  rw [eL, eW.1, eW.2] at z1
  have h06 : σ.next ≤ σ6.next := by omega
  refine Ok_some.2 ⟨_, _, DS.fzt z1, fun b hb => ?_, ⟨h06, fun b hb => ?_⟩, v', rfl, z2⟩
  · simp [SA.bk] at hb
    rcases hb with hb | hb | hb | hb | hb
    · omega
    · have := p7 b (by simp [hb]); omega
    · omega
    · have := p7 b (by simp [hb]); omega
    · omega
  · show σ6.blk b = _
    rw [o6 b (by omega) (by omega) (by omega) (by omega), p9.blk b (by omega), E1.blk b hb]
end Go.Abs.Try
