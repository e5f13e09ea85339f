/-
  The document of layer 10: a word is written. No conditions.
-/
import Derived.Test.YtjfblnpolgoojaaR10c
set_option linter.unusedVariables false
set_option linter.unusedSimpArgs false
set_option linter.constructorNameAsVariable false
set_option linter.unusedSimpArgs false
set_option linter.unusedVariables false
set_option linter.unusedSectionVars false
set_option maxHeartbeats 1000000
namespace Go.Abs.Try
open Go Go.Abs
variable {O : Type}

def DS.setw (S : DS) (id word x : Int) : DS × Int :=
  if S.wrong id word = 0 then (match S.ent id with
    | some e => ({ S with L := S.L.set (id - 1).toNat { e with ws := e.ws.set word.toNat x } }, 0)
    | none => (S, 0))
  else (S, S.wrong id word)
theorem ow_own {σ : AH O} {el es n : Nat} {cs : List TV} {b o e' : Nat} {D : List Nat} (h : Ow σ (.sl el es n cs) (.sl (.loc (.n b) o e') n) D) : ∃ vs L, OwnS σ el es (.loc (.n b) o e') n vs ∧ OwL σ cs vs L ∧ D = b :: L ∧ b ∉ L := by
  cases h with
  | im h => cases h with | sl h hc => have := h.bk; simp [SA.bk] at this
  | sl h hc hd => exact ⟨_, _, h, hc, rfl, hd b (by simp [SA.bk])⟩
theorem rsetd_ok {σ : AH O} {S : DS} (hs : S.small) (hw : ∀ e ∈ S.L, (e.ws.length : Int) = S.words) {v : AV} (h : S.at_ v) {id word x : Int} (hr : -9223372036854775808 ≤ id ∧ id ≤ 9223372036854775807) : Ok (haymowref10_Set [v, .i .i64 id, .i .i64 word, .i .u64 x] σ) fun r => (∃ v', r.1 = .tup [v', .i .i64 (S.setw id word x).2] ∧ (S.setw id word x).1.at_ v') ∧ Ext σ r.2 := by
  refine frz_ok (Q := fun v => ∃ v', v = .tup [v', .i .i64 (S.setw id word x).2] ∧ (S.setw id word x).1.at_ v') ?_
  have hv := h
  obtain ⟨a, b, rfl, ha, hb⟩ := h
  obtain ⟨sa, va, rfl, ia, ca⟩ := Im.rd ha
  obtain ⟨sb, vb, rfl, ib, cb⟩ := Im.rd hb
  have hsl := hs.l
  have hsf := hs.f
  simp (config := { maxSteps := 2000000 }) -implicitDefEqProofs (disch := (first | omega | rfl | assumption | (simp only [rsD]; first | omega | assumption))) only [haymowref10_Set_c, Nat.reduceAdd, Nat.reduceMul, Nat.reduceLT, Int.reduceToNat, Int.reduceAdd, Int.reduceSub, Int.reduceMul, rsU, rsC]
  generalize hσ : AH.put _ (σ.next + 1) _ = σ1
  have b0 : ∃ el, σ1.blk σ.next = some (.cells true el [.i .i64 S.words, .sl sa S.L.length, .sl sb S.free.length, .i .i64 S.room]) := by rw [← hσ]; exact ⟨_, (s_bn (by omega)).trans s_bs⟩
  have b1 : ∃ el, σ1.blk (σ.next + 1) = some (.cells true el [.i .i64 0, .sl .nil 0, .sl .nil 0, .i .i64 0]) := by rw [← hσ]; exact ⟨_, s_bs⟩
  have E1 : Ext σ σ1 := by rw [← hσ]; exact ((((Ext.refl σ).bump 2).put (Nat.le_refl _) _).put (by omega) _)
  have n1 : σ1.next = σ.next + 2 := by rw [← hσ]; rfl
  clear hσ
  obtain ⟨el0, b0⟩ := b0
  obtain ⟨el1, b1⟩ := b1
  refine Ok.step (rwrong_ok hs hv hr) fun r ⟨g1, g2⟩ => ?_
  obtain ⟨q, σ2⟩ := r
  simp only at g1 g2
  subst g1
  have c0 : σ2.blk σ.next = _ := (g2.blk _ (by omega)).trans b0
  have c1 : σ2.blk (σ.next + 1) = _ := (g2.blk _ (by omega)).trans b1
  by_cases hz : S.wrong id word = 0
  · have e0 : ((0 : Int) != 0) = false := rfl
    rw [hz]
    obtain ⟨e, he, htk, hwd⟩ : ∃ e, S.ent id = some e ∧ e.tk = true ∧ 0 ≤ word ∧ word < S.words := by
      unfold DS.wrong DS.is at hz
      cases he : S.ent id with
      | none => rw [he] at hz; simp at hz
      | some e =>
        rw [he] at hz
        simp only at hz
        split at hz
        · rename_i htk
          split at hz
          · cases hz
          · exact ⟨e, rfl, htk, by omega, by omega⟩
        · cases hz
    obtain ⟨i, rfl, hie, hl⟩ := DS.ent_some he
    have hwl := hw e (List.mem_of_getElem? hie)
    have v0 : (i : Int) + 1 - 1 = i := by omega
    simp (config := { maxSteps := 2000000 }) -implicitDefEqProofs (disch := (first | omega | rfl | assumption | (simp only [rsD]; first | omega | assumption))) only [c0, e0, Nat.reduceAdd, Nat.reduceMul, Nat.reduceLT, Int.reduceToNat, Int.reduceAdd, Int.reduceSub, Int.reduceMul, rsU, rsC]
    refine Ok.step (rcopied_ok hs hv) fun r ⟨a', vs, L, b', p1, p2, p3, p4, p5, p6, p7, p8, p9, pw⟩ => ?_
    obtain ⟨q, σ3⟩ := r
    simp only at p1 p2 p3 p4 p9
    subst p1
    have nx2 := g2.next
    have d0 : σ3.blk σ.next = _ := (p9.blk _ (by omega)).trans c0
    have d1 : σ3.blk (σ.next + 1) = _ := (p9.blk _ (by omega)).trans c1
    obtain ⟨kb, rfl, hkb, hkl⟩ := p2.loc (by omega)
    have hkn := p7 kb (by simp [SA.bk])
    have t2 : (S.L.flatMap DE.row)[i * 3 + 2]? = some (.sl 22 1 e.ws.length ((e.ws.map (AV.i .u64)).map TV.lf)) := by rw [fmt_get DE.len _ _ _ (by decide), hie]; rfl
    obtain ⟨vw, A, D, B, y1, y2, rfl, y4, y5⟩ := p3.split t2
    obtain ⟨w0, _, _, rfl, _⟩ := y2.rd
    obtain ⟨a0, m0, z1, z2⟩ := pw i hl
    rw [y1] at z1
    simp only [Option.some.injEq, AV.sl.injEq] at z1
    obtain ⟨rfl, rfl⟩ := z1
    obtain ⟨wb, rfl⟩ := z2 (by omega)
    obtain ⟨ws0, LD, ow, olw, rfl, hwb⟩ := ow_own y2
    obtain ⟨rfl, rfl⟩ := olw.ofLeaves
    obtain ⟨wb', ewb, hwbk, hwbl⟩ := ow.loc (by omega)
    cases ewb
    have hwn := p7 wb (by simp)
    have hwkb : wb ≠ kb := fun e => p5 kb (by simp [SA.bk]) (by simp [e])
    have hwl2 : (e.ws.map (AV.i .u64)).length = e.ws.length := List.length_map _
    obtain ⟨wd, rfl⟩ : ∃ wd : Nat, word = wd := ⟨word.toNat, by omega⟩
    have k1 : Nat.ble (wd + 1) (e.ws.map (AV.i .u64)).length = true := Nat.ble_eq_true_of_le (by omega)
    have s3 : splice (e.ws.map (AV.i .u64)) wd [.i .u64 x] = (e.ws.set wd x).map (AV.i .u64) := by rw [splice_set (by omega), List.map_set]
    simp (config := { maxSteps := 2000000 }) -implicitDefEqProofs (disch := (first | omega | rfl | assumption | (simp only [rsD]; first | omega | assumption))) only [d0, d1, v0, hkb, y1, hwbk, k1, s3, Nat.reduceAdd, Nat.reduceMul, Nat.reduceLT, Int.reduceToNat, Int.reduceAdd, Int.reduceSub, Int.reduceMul, rsU, rsC]
    generalize hσ : AH.put _ (σ.next + 1) _ = σ6
    have nx3 := p9.next
    have n6 : σ6.next = σ3.next := by rw [← hσ]; rfl
    have o6 : ∀ b, b ≠ σ.next → b ≠ wb → b ≠ σ.next + 1 → σ6.blk b = σ3.blk b := fun b h1 h2 h3 => by rw [← hσ]; exact (s_bn h3).trans ((s_bn h2).trans (s_bn h1))
    have ew : σ6.blk wb = some (.cells true 22 ((e.ws.set wd x).map (AV.i .u64))) := by rw [← hσ]; exact (s_bn (by omega)).trans s_bs
    clear hσ
    have hgv : S.setw ((i : Int) + 1) (wd : Int) x = ({ S with L := S.L.set i { e with ws := e.ws.set wd x } }, 0) := by
      unfold DS.setw
      rw [if_pos hz, he]
      simp only [Int.toNat_natCast]
      rw [show ((i : Int) + 1 - 1).toNat = i by omega]
    have hrows := rows_set (S := S) (i := i) (e := e) { e with ws := e.ws.set wd x } hie 2 (.sl 22 1 e.ws.length (((e.ws.set wd x).map (AV.i .u64)).map TV.lf)) (by decide) (by simp [DE.row])
    have own6 : OwnS σ6 22 1 (.loc (.n wb) 0 1) e.ws.length ((e.ws.set wd x).map (AV.i .u64)) := OwnS.new (by simp) ew (by omega)
    have fo : ∀ b, b ∈ A ∨ b ∈ B → b ≠ wb := fun b hb e1 => by
      obtain ⟨u1, u2⟩ := y4 wb (by simp)
      rcases hb with hb | hb
      · exact u1 (e1 ▸ hb)
      · exact u2 (e1 ▸ hb)
    have old : ∀ b, b ∈ A ∨ b ∈ B → σ6.blk b = σ3.blk b := fun b hb => by
      have h1 := p7 b (by rcases hb with hb | hb <;> simp [hb])
      exact o6 b (by omega) (fo b hb) (by omega)
    have up := y5 σ6 _ _ _ (by omega) old (Ow.leaves own6 (flat_ints _)) fun b hb => by
      simp [SA.bk] at hb
      subst hb
      exact y4 b (by simp)
    rw [set_same y1, ← hrows] at up
    obtain ⟨S', hS⟩ : ∃ S' : DS, S' = { S with L := S.L.set i { e with ws := e.ws.set wd x } } := ⟨_, rfl⟩
    rw [hgv, ← hS]
    have eL : S'.L.length = S.L.length := by rw [hS]; exact List.length_set ..
    have eF : S'.free = S.free := by rw [hS]
    have eR : S'.L.flatMap DE.row = (S.L.set i { e with ws := e.ws.set wd x }).flatMap DE.row := by rw [hS]
    have eW : S'.words = S.words ∧ S'.room = S.room := by rw [hS]; exact ⟨rfl, rfl⟩
    clear hS
    rw [← eR] at up
    have ok6 : OwnS σ6 130 3 (.loc (.n kb) 0 3) S'.L.length vs := by
      rw [eL]
      exact p2.of (by omega) fun b hb => by
        simp [SA.bk] at hb
        subst hb
        exact o6 b (by omega) (fun e => hwkb e.symm) (by omega)
    have of6 : OwnS σ6 3 1 b' S'.free.length (S'.free.map (AV.i .i64)) := by
      rw [eF]
      exact p4.of (by omega) fun b hb => o6 b (by have := p8 b hb; omega) (fun e1 => p6 b hb (by simp [e1])) (by have := p8 b hb; omega)
    obtain ⟨v', z1, z2⟩ := DS.fz ok6 up of6 (fun b hb hm => p5 b hb (by simpa [SA.bk] using hm)) fun b hb hm => p6 b hb (by simpa [SA.bk] using hm)
    rw [eL, eF, eW.1, eW.2] at z1
    have h06 : σ.next ≤ σ6.next := by omega
    refine Ok_some.2 ⟨_, _, DS.fzt z1, fun b hb => ?_, ⟨h06, fun b hb => ?_⟩, v', rfl, z2⟩
    · rcases List.mem_append.1 hb with hb | hb
      · have := p7 b (by simpa [SA.bk] using hb); omega
      · have := p8 b hb; omega
    · show σ6.blk b = _
      rw [o6 b (by omega) (by omega) (by omega), p9.blk b (by omega), g2.blk b (by omega), E1.blk b hb]
  · have e0 : (S.wrong id word != 0) = true := by simp [hz]
    have hgv : S.setw id word x = (S, S.wrong id word) := by unfold DS.setw; rw [if_neg hz]
    simp (config := { maxSteps := 2000000 }) -implicitDefEqProofs (disch := (first | omega | rfl | assumption | (simp only [rsD]; first | omega | assumption))) only [c0, c1, e0, Nat.reduceAdd, Nat.reduceMul, Nat.reduceLT, Int.reduceToNat, Int.reduceAdd, Int.reduceSub, Int.reduceMul, rsU, rsC]
    rw [hgv]
    refine Ok_some.2 ⟨_, [], DS.fzt (DS.fz0 hv), by simp, ?_, _, rfl, hv⟩
    exact ((E1.trans g2).put (by omega) _)
end Go.Abs.Try
