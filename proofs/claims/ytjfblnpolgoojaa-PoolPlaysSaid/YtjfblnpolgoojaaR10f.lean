/-
  The document of layer 10: an entry is taken, under a new number. No conditions.
-/
import Derived.Test.YtjfblnpolgoojaaR10e
set_option linter.unusedVariables false
set_option linter.unusedSimpArgs false
set_option linter.constructorNameAsVariable false
set_option linter.unusedSimpArgs false
set_option linter.unusedVariables false
set_option linter.unusedSectionVars false
set_option maxHeartbeats 1000000
namespace Go.Abs.Try
open Go Go.Abs
variable {O : Type}

def DS.roomy (S : DS) : Int := if (S.L.length : Int) = S.room then (if 2 * S.room > 8 then 2 * S.room else 8) else S.room
def DS.fresh (S : DS) : DS := { S with L := S.L ++ [⟨true, 0, List.replicate S.words.toNat 0⟩], room := S.roomy }
theorem rtake_new {σ : AH O} {S : DS} (hs : S.small) (hW : 0 ≤ S.words ∧ S.words ≤ 1000) (hR : 0 ≤ S.room ∧ S.room ≤ 1000000) {v : AV} (h : S.at_ v) (hF : S.free = []) :
    Ok (haymowref10_Take [v] σ) fun r => (∃ v', r.1 = .tup [v', .i .i64 ((S.L.length : Int) + 1)] ∧ S.fresh.at_ v') ∧ Ext σ r.2 := by
  refine frz_ok (Q := fun v => ∃ v', v = .tup [v', .i .i64 ((S.L.length : Int) + 1)] ∧ S.fresh.at_ v') ?_
  have hv := h
  obtain ⟨a, b, rfl, ha, hb⟩ := h
  obtain ⟨sa, va, rfl, ia, ca⟩ := Im.rd ha
  obtain ⟨sb, vb, rfl, ib, cb⟩ := Im.rd hb
  have hsl := hs.l
  have hf0 : S.free.length = 0 := by rw [hF]; rfl
  simp (config := { maxSteps := 2000000 }) -implicitDefEqProofs (disch := (first | omega | rfl | assumption | (simp only [rsD]; first | omega | assumption))) only [haymowref10_Take_c, Nat.reduceAdd, Nat.reduceMul, Nat.reduceLT, Int.reduceToNat, Int.reduceAdd, Int.reduceSub, Int.reduceMul, rsU, rsC]
  generalize hσ : AH.put _ (σ.next + 1) _ = σ1
  have b0 : ∃ el, σ1.blk σ.next = some (.cells true el [.i .i64 S.words, .sl sa S.L.length, .sl sb S.free.length, .i .i64 S.room]) := by rw [← hσ]; exact ⟨_, (s_bn (by omega)).trans s_bs⟩
  have b1 : ∃ el, σ1.blk (σ.next + 1) = some (.cells true el [.i .i64 0, .sl .nil 0, .sl .nil 0, .i .i64 0]) := by rw [← hσ]; exact ⟨_, s_bs⟩
  have E1 : Ext σ σ1 := by rw [← hσ]; exact ((((Ext.refl σ).bump 2).put (Nat.le_refl _) _).put (by omega) _)
  have n1 : σ1.next = σ.next + 2 := by rw [← hσ]; rfl
  clear hσ
  obtain ⟨el0, b0⟩ := b0
  obtain ⟨el1, b1⟩ := b1
  refine Ok.step (rcopied_ok hs hv) fun r ⟨a', vs, L, b', p1, p2, p3, p4, p5, p6, p7, p8, p9, _⟩ => ?_
  obtain ⟨q, σ3⟩ := r
  simp only at p1 p2 p3 p4 p9
  subst p1
  have nx3 := p9.next
  have d0 : σ3.blk σ.next = _ := (p9.blk _ (by omega)).trans b0
  have d1 : σ3.blk (σ.next + 1) = _ := (p9.blk _ (by omega)).trans b1
  have hvl := p2.len
  -- the room
  have mid : ∀ {R : Type} (K : List AV × AH O → Option R) (Q : R → Prop), (∀ σ4 : AH O, σ4.next = σ3.next → (∀ b, b ≠ σ.next → σ4.blk b = σ3.blk b) → σ4.blk σ.next = some (.cells true el0 [.i .i64 S.words, .sl a' S.L.length, .sl b' S.free.length, .i .i64 S.roomy]) → Ok (K ([], σ4)) Q) →
      Ok (K ([], σ3.put σ.next (.cells true el0 [.i .i64 S.words, .sl a' S.L.length, .sl b' S.free.length, .i .i64 S.roomy]))) Q := fun K Q hK => hK _ rfl (fun b hb => s_bn hb) s_bs
  have go : ∀ σ4 : AH O, σ4.next = σ3.next → (∀ b, b ≠ σ.next → σ4.blk b = σ3.blk b) → σ4.blk σ.next = some (.cells true el0 [.i .i64 S.words, .sl a' S.L.length, .sl b' S.free.length, .i .i64 S.roomy]) → True := fun _ _ _ _ => trivial
  have key : ∀ (σ0 : AH O), σ0.next = σ3.next → (∀ b, b ≠ σ.next → σ0.blk b = σ3.blk b) → σ0.blk σ.next = some (.cells true el0 [.i .i64 S.words, .sl a' S.L.length, .sl b' S.free.length, .i .i64 S.roomy]) →
      ∀ σ4 : AH O, σ4 = ((σ0.bump 3).put σ3.next (.cells true 22 (u64s (List.replicate S.words.toNat 0)))).put (σ3.next + 1) (.cells true 130 [.b true, .i .i64 0, .sl (.loc (.n σ3.next) 0 1) S.words.toNat]) →
      Ok (AH.appSl σ4 (σ3.next + 1 + 1) 130 3 a' S.L.length 1 [.b true, .i .i64 0, .sl (.loc (.n σ3.next) 0 1) S.words.toNat]) fun r => ∃ a2 vs2 L2, r.1 = .sl a2 (S.L.length + 1) ∧ OwnS r.2 130 3 a2 (S.L.length + 1) vs2 ∧ OwL r.2 (S.fresh.L.flatMap DE.row) vs2 L2 ∧ (∀ b ∈ SA.bk a2, b ∉ L2) ∧ (∀ b ∈ SA.bk a2 ++ L2, σ.next + 2 ≤ b) ∧ (∀ b ∈ SA.bk b', b ∉ SA.bk a2 ++ L2) ∧ r.2.next = σ3.next + 3 ∧ r.2.blk σ.next = some (.cells true el0 [.i .i64 S.words, .sl a' S.L.length, .sl b' S.free.length, .i .i64 S.roomy]) ∧ r.2.blk (σ.next + 1) = σ3.blk (σ.next + 1) ∧ (∀ b, b < σ.next → r.2.blk b = σ3.blk b) ∧ (∀ b ∈ SA.bk b', r.2.blk b = σ3.blk b) := by
    intro σ0 m0 m1 m2 σ4 hσ
    have n4 : σ4.next = σ3.next + 3 := by rw [hσ]; simp [m0]
    have o4 : ∀ b, b ≠ σ3.next → b ≠ σ3.next + 1 → σ4.blk b = σ0.blk b := fun b h1 h2 => by rw [hσ]; simp -implicitDefEqProofs (disch := omega) only [s_bn, s_bs, s_kn, bump_blk]
    have ew : σ4.blk σ3.next = some (.cells true 22 (u64s (List.replicate S.words.toNat 0))) := by rw [hσ]; simp -implicitDefEqProofs (disch := omega) only [s_bn, s_bs, s_kn, bump_blk]
    clear hσ
    have old : ∀ b, b < σ3.next → b ≠ σ.next → σ4.blk b = σ3.blk b := fun b h1 h2 => (o4 b (by omega) (by omega)).trans (m1 b h2)
    have own4 : OwnS σ4 130 3 a' S.L.length vs := p2.of (by omega) fun b hb => old b (p2.lt b hb) (by have := p7 b (by simp [hb]); omega)
    have ol4 : OwL σ4 (S.L.flatMap DE.row) vs L := p3.of (by omega) fun b hb => old b (p3.lt b hb) (by have := p7 b (by simp [hb]); omega)
    have onew : OwnS σ4 22 1 (.loc (.n σ3.next) 0 1) S.words.toNat (u64s (List.replicate S.words.toNat 0)) := OwnS.new (by rw [u64s_len]; simp) ew (by omega)
    refine (app_ok (nid := σ3.next + 1 + 1) own4 (fun hm => by have := p2.lt _ hm; omega) (by omega) (show [AV.b true, .i .i64 0, .sl (.loc (.n σ3.next) 0 1) S.words.toNat].length = 1 * 3 from rfl)).mono ?_
    rintro ⟨q, σ5⟩ ⟨a2, q4, q5, q6, q7, q8⟩
    simp only at q4 q5 q6 q7
    subst q4
    have na : ∀ b ∈ SA.bk a', b < σ3.next ∧ σ.next + 2 ≤ b := fun b hb => ⟨p2.lt b hb, by have := p7 b (by simp [hb]); omega⟩
    have nl : ∀ b ∈ L, b < σ3.next ∧ σ.next + 2 ≤ b := fun b hb => ⟨p3.lt b hb, by have := p7 b (by simp [hb]); omega⟩
    have ol5 : OwL σ5 (S.L.flatMap DE.row) vs L := ol4.of (by omega) fun b hb => q7 b (by have := nl b hb; omega) fun hm => p5 b hm hb
    have on5 : OwnS σ5 22 1 (.loc (.n σ3.next) 0 1) S.words.toNat (u64s (List.replicate S.words.toNat 0)) := onew.of (by omega) fun b hb => by
      simp [SA.bk] at hb; subst hb
      exact q7 _ (by omega) fun hm => by have := na _ hm; omega
    have row5 : OwL σ5 (DE.row ⟨true, 0, List.replicate S.words.toNat 0⟩) [.b true, .i .i64 0, .sl (.loc (.n σ3.next) 0 1) S.words.toNat] ([] ++ ([] ++ ([σ3.next] ++ []))) := by
      unfold DE.row
      have := Ow.leaves on5 (u64s_flat _)
      simp only [SA.bk] at this
      refine .cons (.im (.lf rfl)) (.cons (.im (.lf rfl)) (.cons ?_ .nil (by simp)) (by simp)) (by simp)
      simpa [u64s] using this
    have all := ol5.app row5 (fun b hb hm => by simp at hm; have := nl b hb; omega)
    have e1 : S.fresh.L.flatMap DE.row = S.L.flatMap DE.row ++ DE.row ⟨true, 0, List.replicate S.words.toNat 0⟩ := by simp [DS.fresh]
    rw [← e1] at all
    refine ⟨a2, _, _, rfl, q5, all, fun b hb hm => ?_, fun b hb => ?_, fun b hb hm => ?_, (show σ5.next = _ by omega), ?_, ?_, fun b hb => ?_, fun b hb => ?_⟩
    · have h1 := q8 b hb
      simp at hm
      rcases hm with hm | hm
      · have := nl b hm; omega
      · omega
    · simp at hb
      rcases hb with hb | hb | hb
      · have := q8 b hb; omega
      · exact (nl b hb).2
      · omega
    · have hbl := p4.lt b hb
      simp at hm
      rcases hm with hm | hm | hm
      · have := q8 b hm; omega
      · exact p6 b hb (by simp [hm])
      · omega
    · rw [q7 _ (by omega) (fun hm => by have := na _ hm; omega), o4 _ (by omega) (by omega)]; exact m2
    · rw [q7 _ (by omega) (fun hm => by have := na _ hm; omega)]; exact old _ (by omega) (by omega)
    · rw [q7 _ (by omega) (fun hm => by have := na _ hm; omega)]; exact old _ (by omega) (by omega)
    · have hbl := p4.lt b hb
      have := p8 b hb
      rw [q7 _ (by omega) (fun hm => p6 b hb (by simp [hm]))]; exact old _ (by omega) (by omega)
  have fin : ∀ (σ5 : AH O) (a2 : SA) (vs2 : List AV) (L2 : List Nat), OwnS σ5 130 3 a2 (S.L.length + 1) vs2 → OwL σ5 (S.fresh.L.flatMap DE.row) vs2 L2 → (∀ b ∈ SA.bk a2, b ∉ L2) → (∀ b ∈ SA.bk a2 ++ L2, σ.next + 2 ≤ b) → (∀ b ∈ SA.bk b', b ∉ SA.bk a2 ++ L2) → σ5.next = σ3.next + 3 → (∀ b, b < σ.next → σ5.blk b = σ3.blk b) → (∀ b ∈ SA.bk b', σ5.blk b = σ3.blk b) →
      ∀ σ6 : AH O, σ6.next = σ5.next → (∀ b, b ≠ σ.next → b ≠ σ.next + 1 → σ6.blk b = σ5.blk b) →
      Ok (some (AV.tup [.agg [.i .i64 S.words, .sl a2 (S.L.length + 1), .sl b' S.free.length, .i .i64 S.roomy], .i .i64 ((S.L.length : Int) + 1)], σ6)) fun r => ∃ v' L, FZ 8 r.2.blk L r.1 v' ∧ (∀ b ∈ L, σ.next ≤ b) ∧ Ext σ r.2 ∧ ∃ w, v' = .tup [w, .i .i64 ((S.L.length : Int) + 1)] ∧ S.fresh.at_ w := by
    intro σ5 a2 vs2 L2 w1 w2 w3 w4 w5 w6 w7 w8 σ6 n6 o6
    have eL : S.fresh.L.length = S.L.length + 1 := by simp [DS.fresh]
    have eF : S.fresh.free = S.free := rfl
    have g1 : OwnS σ6 130 3 a2 S.fresh.L.length vs2 := by
      rw [eL]; exact w1.of (by omega) fun b hb => o6 b (by have := w4 b (by simp [hb]); omega) (by have := w4 b (by simp [hb]); omega)
    have g2 : OwL σ6 (S.fresh.L.flatMap DE.row) vs2 L2 := w2.of (by omega) fun b hb => o6 b (by have := w4 b (by simp [hb]); omega) (by have := w4 b (by simp [hb]); omega)
    have g3 : OwnS σ6 3 1 b' S.fresh.free.length (S.fresh.free.map (AV.i .i64)) := p4.of (by omega) fun b hb => (o6 b (by have := p8 b hb; omega) (by have := p8 b hb; omega)).trans (w8 b hb)
    obtain ⟨v', z1, z2⟩ := DS.fz g1 g2 g3 w3 w5
    rw [eL, eF] at z1
    have h06 : σ.next ≤ σ6.next := by omega
    refine Ok_some.2 ⟨_, _, DS.fzt z1, fun b hb => ?_, ⟨h06, fun b hb => ?_⟩, v', rfl, z2⟩
    · rcases List.mem_append.1 hb with hb | hb
      · have := w4 b hb; omega
      · have := p8 b hb; omega
    · show σ6.blk b = _
      rw [o6 b (by omega) (by omega), w7 b hb, p9.blk b (by omega), E1.blk b hb]
  by_cases hr : (S.L.length : Int) = S.room
  · have q0 := s_eqT hr
    have hro : S.roomy = if 2 * S.room > 8 then 2 * S.room else 8 := if_pos hr
    simp (config := { maxSteps := 2000000 }) -implicitDefEqProofs (disch := (first | omega | rfl | assumption | (simp only [rsD]; first | omega | assumption))) only [d0, q0, ← hro, u64s_rep, Nat.reduceAdd, Nat.reduceMul, Nat.reduceLT, Int.reduceToNat, Int.reduceAdd, Int.reduceSub, Int.reduceMul, rsU, rsC]
    refine Ok.step (key (σ3.put σ.next (.cells true el0 [.i .i64 S.words, .sl a' S.L.length, .sl b' S.free.length, .i .i64 S.roomy])) rfl (fun b hb => s_bn hb) s_bs _ rfl) fun r ⟨a2, vs2, L2, k1, k2, k3, k4, k5, k6, k7, k8, k9, k10, k11⟩ => ?_
    obtain ⟨q, σ5⟩ := r
    simp only at k1 k2 k3 k7 k8 k9 k10 k11
    subst k1
    rw [d1] at k9
    simp (config := { maxSteps := 2000000 }) -implicitDefEqProofs (disch := (first | omega | rfl | assumption | (simp only [rsD]; first | omega | assumption))) only [k8, k9, Nat.reduceAdd, Nat.reduceMul, Nat.reduceLT, Int.reduceToNat, Int.reduceAdd, Int.reduceSub, Int.reduceMul, rsU, rsC]
    exact fin σ5 a2 vs2 L2 k2 k3 k4 k5 k6 k7 k10 k11 _ rfl fun b h1 h2 => by simp -implicitDefEqProofs (disch := omega) only [s_bn, s_bs, s_kn, bump_blk]
  · have q0 := s_eqF hr
    have hro : S.roomy = S.room := if_neg hr
    simp (config := { maxSteps := 2000000 }) -implicitDefEqProofs (disch := (first | omega | rfl | assumption | (simp only [rsD]; first | omega | assumption))) only [d0, q0, u64s_rep, Nat.reduceAdd, Nat.reduceMul, Nat.reduceLT, Int.reduceToNat, Int.reduceAdd, Int.reduceSub, Int.reduceMul, rsU, rsC]
    refine Ok.step (key (σ3.put σ.next (.cells true el0 [.i .i64 S.words, .sl a' S.L.length, .sl b' S.free.length, .i .i64 S.room])) rfl (fun b hb => s_bn hb) (by rw [hro]; exact s_bs) _ rfl) fun r ⟨a2, vs2, L2, k1, k2, k3, k4, k5, k6, k7, k8, k9, k10, k11⟩ => ?_
    obtain ⟨q, σ5⟩ := r
    simp only at k1 k2 k3 k7 k8 k9 k10 k11
    subst k1
    rw [d1] at k9
    simp (config := { maxSteps := 2000000 }) -implicitDefEqProofs (disch := (first | omega | rfl | assumption | (simp only [rsD]; first | omega | assumption))) only [k8, k9, Nat.reduceAdd, Nat.reduceMul, Nat.reduceLT, Int.reduceToNat, Int.reduceAdd, Int.reduceSub, Int.reduceMul, rsU, rsC]
    exact fin σ5 a2 vs2 L2 k2 k3 k4 k5 k6 k7 k10 k11 _ rfl fun b h1 h2 => by simp -implicitDefEqProofs (disch := omega) only [s_bn, s_bs, s_kn, bump_blk]
/-- how many are taken -/
def DS.count (S : DS) (k : Nat) : Nat := (S.L.take k).countP (·.tk)
theorem rcount_ok {σ : AH O} {S : DS} (hs : S.small) {v : AV} (h : S.at_ v) : Ok (haymowref10_Count [v] σ) fun r => r.1 = .i .i64 (S.L.countP (·.tk)) ∧ Ext σ r.2 := by
  obtain ⟨a, b, rfl, ha, hb⟩ := h
  obtain ⟨sa, va, rfl, ia, ca⟩ := Im.rd ha
  obtain ⟨sb, vb, rfl, ib, cb⟩ := Im.rd hb
  have hsl := hs.l
  simp (config := { maxSteps := 2000000 }) -implicitDefEqProofs (disch := (first | omega | rfl | assumption | (simp only [rsD]; first | omega | assumption))) only [haymowref10_Count, haymowref10_Count_c, Nat.reduceAdd, Nat.reduceMul, Nat.reduceLT, Int.reduceToNat, Int.reduceAdd, Int.reduceSub, Int.reduceMul, rsU, rsC]
  generalize hσ : (σ.bump 1).put σ.next _ = σ1
  have b0 : ∃ el, σ1.blk σ.next = some (.cells true el [.i .i64 S.words, .sl sa S.L.length, .sl sb S.free.length, .i .i64 S.room]) := by rw [← hσ]; exact ⟨_, s_bs⟩
  have E1 : Ext σ σ1 := by rw [← hσ]; exact ((Ext.refl σ).bump 1).put (Nat.le_refl _) _
  clear hσ
  obtain ⟨el0, b0⟩ := b0
  have lp : Ok (loopF (S := List AV × AH O) (T := List AV × AH O) (haymowref10_Count_L1 σ) ([.i .i64 0, .i .i64 0], σ1)) fun r => r = ([.i .i64 (S.L.countP (·.tk))], σ1) := by
    refine Ok.count S.L.length (fun k s => s = ([.i .i64 (S.count k : Int), .i .i64 (k : Int)], σ1)) ?_ ?_ (by simp [DS.count])
    · rintro k s hk rfl
      have hx := List.getElem?_eq_getElem hk
      generalize S.L[k] = e at hx
      obtain ⟨c0, _, _⟩ := DS.cells_ ca hx
      obtain ⟨bb, oo, rfl, _⟩ := (ia O σ1).ref hk
      have hld : σ1.ld bb (oo + k * 3) = some (.b e.tk) := by
        obtain ⟨b2, o2, e2, hld⟩ := (ia O σ1).ref hk
        cases e2
        have := hld 0 (by decide)
        rw [Nat.add_zero, Nat.add_zero, c0] at this; exact this
      have hct : S.count (k + 1) = S.count k + (if e.tk = true then 1 else 0) := by
        unfold DS.count
        rw [List.take_add_one, hx]
        simp [List.countP_append, List.countP_cons]
      have hle : S.count k ≤ 1000 := by
        unfold DS.count
        have := List.countP_le_length (p := (·.tk)) (l := S.L.take k)
        rw [List.length_take] at this; omega
      cases ht : e.tk with
      | true =>
        rw [ht] at hct
        rw [ht] at hld
        simp (config := { maxSteps := 2000000 }) -implicitDefEqProofs (disch := (first | omega | rfl | assumption | (simp only [rsD]; first | omega | assumption))) only [haymowref10_Count_L1, b0, hld, Nat.reduceAdd, Nat.reduceMul, Nat.reduceLT, Int.reduceToNat, Int.reduceAdd, Int.reduceSub, Int.reduceMul, rsU, rsC]
        exact Ok_some.2 (by simp [hct])
      | false =>
        rw [ht] at hct
        rw [ht] at hld
        simp (config := { maxSteps := 2000000 }) -implicitDefEqProofs (disch := (first | omega | rfl | assumption | (simp only [rsD]; first | omega | assumption))) only [haymowref10_Count_L1, b0, hld, Nat.reduceAdd, Nat.reduceMul, Nat.reduceLT, Int.reduceToNat, Int.reduceAdd, Int.reduceSub, Int.reduceMul, rsU, rsC]
        exact Ok_some.2 (by simp [hct])
    · rintro s rfl
      simp (config := { maxSteps := 2000000 }) -implicitDefEqProofs (disch := (first | omega | rfl | assumption | (simp only [rsD]; first | omega | assumption))) only [haymowref10_Count_L1, b0, Nat.reduceAdd, Nat.reduceMul, Nat.reduceLT, Int.reduceToNat, Int.reduceAdd, Int.reduceSub, Int.reduceMul, rsU, rsC]
      exact Ok_some.2 (by simp [DS.count])
  refine Ok.step lp fun r hr => ?_
  subst hr
  simp (config := { maxSteps := 2000000 }) -implicitDefEqProofs (disch := (first | omega | rfl | assumption | (simp only [rsD]; first | omega | assumption))) only [Nat.reduceAdd, Nat.reduceMul, Nat.reduceLT, Int.reduceToNat, Int.reduceAdd, Int.reduceSub, Int.reduceMul, rsU, rsC]
  exact Ok_some.2 ⟨rfl, E1⟩
end Go.Abs.Try
