/-
  The statement PoolPlays: the other calls, at the pool and in its document. No conditions.
-/
import Derived.Test.YtjfblnpolgoojaaL10b
set_option linter.unusedVariables false
set_option linter.unusedSimpArgs false
set_option linter.constructorNameAsVariable false
set_option linter.unusedSimpArgs false
set_option linter.unusedVariables false
set_option linter.unusedSectionVars false
set_option maxHeartbeats 2000000
namespace Go.Abs.Try
open Go Go.Abs
variable {O : Type}

section
variable {σ : AH O} {pb mb : Nat} {M : MemS} {S : PoolS} {w : List Int} {X : List Nat} {D : DS} {k : Nat} {v : AV}
theorem pwrong_eq (sim : Sim D S) {i : Nat} {d : DE} {e : PE} {word : Int} (hent : D.ent ((i : Int) + 1) = some d) (q1 : d.tk = e.tk) : pwrong S e word = D.wrong ((i : Int) + 1) word := by
  unfold pwrong DS.wrong DS.is
  rw [hent, sim.words]
  simp only [q1]
theorem wrong4 {id word : Int} (hn : D.ent id = none) : D.wrong id word = 4 := by
  unfold DS.wrong DS.is
  rw [hn]; rfl
theorem do_set (h : PoolAt σ pb mb M S w X) (hc : M.calm) (sim : Sim D S) (bd : Bd k S) (hk : k < 80) (hv : D.at_ v) (hm : M.met.r ≤ 1000000 ∧ M.met.w ≤ 1000000) {a b c : Int} (hr : -9223372036854775808 ≤ a ∧ a ≤ 9223372036854775807) :
    Ok (law10_do [.p (some (.n pb, 0)), v, .agg [.i .i64 3, .i .i64 a, .i .i64 b, .i .u64 c]] σ) (Did σ pb mb M D S X k) := by
  have hsm := sim.small bd (by omega)
  have hww := bd.w
  obtain ⟨va, vb, rfl, ha, hb⟩ := id hv
  obtain ⟨sa, _, rfl, _, _⟩ := Im.rd ha
  obtain ⟨sb, _, rfl, _, _⟩ := Im.rd hb
  have e1 : ((3 : Int) == 0) = false := rfl
  have e2 : ((3 : Int) == 1) = false := rfl
  have e3 : ((3 : Int) == 2) = false := rfl
  have e4 : ((3 : Int) == 3) = true := rfl
  simp (config := { maxSteps := 2000000 }) -implicitDefEqProofs (disch := (first | omega | rfl | assumption | (simp only [rsD]; first | omega | assumption))) only [law10_do, law10_do_c, e1, e2, e3, e4, Nat.reduceAdd, Nat.reduceMul, Nat.reduceLT, Int.reduceToNat, Int.reduceAdd, Int.reduceSub, Int.reduceMul, rsU, rsC]
  obtain ⟨h1, k1⟩ := boxes h (.cells true 123 [.i .i64 D.words, .sl sa D.L.length, .sl sb D.free.length, .i .i64 D.room]) (.cells true 116 [.i .i64 3, .i .i64 a, .i .i64 b, .i .u64 c]) (.cells true 123 [.i .i64 0, .sl .nil 0, .sl .nil 0, .i .i64 0])
  generalize hσ : AH.put _ (σ.next + 1 + 1) _ = σ1 at *
  have b0 : σ1.blk σ.next = some (.cells true 123 [.i .i64 D.words, .sl sa D.L.length, .sl sb D.free.length, .i .i64 D.room]) := by rw [← hσ, s_bn (by omega), s_bn (by omega)]; exact s_bs
  have b1 : σ1.blk (σ.next + 1) = some (.cells true 116 [.i .i64 3, .i .i64 a, .i .i64 b, .i .u64 c]) := by rw [← hσ, s_bn (by omega)]; exact s_bs
  have b2 : σ1.blk (σ.next + 1 + 1) = some (.cells true 123 [.i .i64 0, .sl .nil 0, .sl .nil 0, .i .i64 0]) := by rw [← hσ]; exact s_bs
  clear hσ
  have go : ∀ (σ2 : AH O) (D' : DS) (S' : PoolS) (n : Int) {M' : MemS} {w' : List Int} {dr dw : Int}, D.setw a b c = (D', n) → Sim D' S' → Bd (k + 1) S' → S'.id = S.id → S'.words = S.words → PoolAt σ2 pb mb M' S' w' (σ.next :: (σ.next + 1) :: (σ.next + 1 + 1) :: X) → Wrt M M' S.id w' dr dw → 0 ≤ dr → 0 ≤ dw → dr + dw ≤ 2 → Keep (σ.next :: (σ.next + 1) :: (σ.next + 1 + 1) :: X) σ1 σ2 →
      Ok (haymowref10_Set [.agg [.i .i64 D.words, .sl sa D.L.length, .sl sb D.free.length, .i .i64 D.room], .i .i64 a, .i .i64 b, .i .u64 c] σ2) fun r => ∃ w1 w2 : SA, ∃ m1 m2 : Nat, r.1 = .tup [.agg [.i .i64 D'.words, .sl w1 m1, .sl w2 m2, .i .i64 D'.room], .i .i64 n] ∧ r.2.blk σ.next = σ1.blk σ.next ∧ r.2.blk (σ.next + 1 + 1) = σ1.blk (σ.next + 1 + 1) ∧ ∀ σ4 : AH O, σ4.next = r.2.next → (∀ b, b ≠ σ.next → b ≠ σ.next + 1 → b ≠ σ.next + 1 + 1 → σ4.blk b = r.2.blk b) → Did σ pb mb M D S X k (.tup [.agg [.i .i64 D'.words, .sl w1 m1, .sl w2 m2, .i .i64 D'.room], .i .u64 2, .b true], σ4) := by
    intro σ2 D' S' n M' w' dr dw eg sim' bd' hid hwo hp hwr h0 h1' hle kp
    refine (rsetd_ok hsm (widths sim) hv hr).mono ?_
    rintro ⟨q, σ3⟩ ⟨⟨v', e, hv'⟩, E3⟩
    simp only at e E3
    rw [eg] at e hv'
    subst e
    obtain ⟨wa, wb, rfl, ha', hb'⟩ := id hv'
    obtain ⟨w1, _, rfl, _, _⟩ := Im.rd ha'
    obtain ⟨w2, _, rfl, _, _⟩ := Im.rd hb'
    have l0 := hp.mi.tail.lt
    exact ⟨w1, w2, _, _, rfl, (E3.blk _ (l0 _ (by simp))).trans (kp.blk _ (by simp)), (E3.blk _ (l0 _ (by simp))).trans (kp.blk _ (by simp)), fun σ4 n4 o4 => did_of h k1 kp E3 hp hwr h0 h1' (by omega) (by omega) sim' bd' hid hwo hv' n4 o4⟩
  rcases sim.ent (id := a) with ⟨hn, hno⟩ | ⟨i, d, e, rfl, hent, hdd, he, hi, q1, q2, q3, q4⟩
  · have pg := pset_no h1 hc hno (k := b) (x := c)
    have eg : D.setw a b c = (D, 4) := by unfold DS.setw; rw [wrong4 hn]; rfl
    simp (config := { maxSteps := 2000000 }) -implicitDefEqProofs (disch := (first | omega | rfl | assumption | (simp only [rsD]; first | omega | assumption))) only [pg, b0, b1, Nat.reduceAdd, Nat.reduceMul, Nat.reduceLT, Int.reduceToNat, Int.reduceAdd, Int.reduceSub, Int.reduceMul, rsU, rsC]
    refine Ok.step (go σ1 D S 4 eg sim bd.up rfl rfl h1 (Wrt.refl h.now) (by omega) (by omega) (by omega) (Keep.refl _ _)) fun r ⟨w1, w2, m1, m2, g1, g2, g3, g4⟩ => ?_
    obtain ⟨q, σ3⟩ := r
    simp only at g1 g2 g3 g4
    subst g1
    rw [b0] at g2
    rw [b2] at g3
    simp (config := { maxSteps := 2000000 }) -implicitDefEqProofs (disch := (first | omega | rfl | assumption | (simp only [rsD]; first | omega | assumption))) only [g2, g3, beq_self_eq_true, Nat.reduceAdd, Nat.reduceMul, Nat.reduceLT, Int.reduceToNat, Int.reduceAdd, Int.reduceSub, Int.reduceMul, rsU, rsC]
    exact Ok_some.2 (g4 _ rfl fun b x1 x2 x3 => by simp -implicitDefEqProofs (disch := omega) only [s_bn, s_bs, s_kn, bump_blk])
  · have pe := pwrong_eq sim (word := b) hent q1
    by_cases hz : pwrong S e b = 0
    · have hcase : e.tk = true ∧ 0 ≤ b ∧ b < S.words := by
        unfold pwrong at hz
        split at hz
        · rename_i htk
          split at hz
          · cases hz
          · exact ⟨htk, by omega, by omega⟩
        · cases hz
      obtain ⟨bw, rfl⟩ : ∃ bw : Nat, b = bw := ⟨b.toNat, by omega⟩
      obtain ⟨ht, hb0, hb1⟩ := hcase
      have eg : D.setw ((i : Int) + 1) (bw : Int) c = ({ D with L := D.L.set i { d with ws := d.ws.set bw c } }, 0) := by
        unfold DS.setw
        rw [if_pos (pe.symm.trans hz), hent]
        simp only [Int.toNat_natCast]
        rw [show ((i : Int) + 1 - 1).toNat = i by omega]
      have sim' : Sim { D with L := D.L.set i { d with ws := d.ws.set bw c } } { S with E := S.E.set i { e with ws := e.ws.set bw c } } := sim.set (i := i) (d := { d with ws := d.ws.set bw c }) (e := { e with ws := e.ws.set bw c }) q1 q2 (by simp [q3]) (fun _ => by simp [q4 ht]) sim.free S.taken
      have bd' : Bd (k + 1) { S with E := S.E.set i { e with ws := e.ws.set bw c } } := bd.set (by have := bd.g e (List.mem_of_getElem? he); simp only; omega) (by have := bd.f; omega) S.taken
      refine Ok.step (pset_ok h1 hc he ht (by omega) (by omega)) fun r ⟨p1, M', w', p2, p3, p4⟩ => ?_
      obtain ⟨q, σ2⟩ := r
      simp only at p1 p2 p4
      subst p1
      have c0 : σ2.blk σ.next = _ := (p4.blk _ (by simp)).trans b0
      have c1 : σ2.blk (σ.next + 1) = _ := (p4.blk _ (by simp)).trans b1
      simp (config := { maxSteps := 2000000 }) -implicitDefEqProofs (disch := (first | omega | rfl | assumption | (simp only [rsD]; first | omega | assumption))) only [c0, c1, Nat.reduceAdd, Nat.reduceMul, Nat.reduceLT, Int.reduceToNat, Int.reduceAdd, Int.reduceSub, Int.reduceMul, rsU, rsC]
      refine Ok.step (go σ2 _ _ 0 eg sim' bd' rfl rfl p2 p3 (by omega) (by omega) (by omega) p4) fun r ⟨w1, w2, m1, m2, g1, g2, g3, g4⟩ => ?_
      obtain ⟨q, σ3⟩ := r
      simp only at g1 g2 g3 g4
      subst g1
      rw [b0] at g2
      rw [b2] at g3
      simp (config := { maxSteps := 2000000 }) -implicitDefEqProofs (disch := (first | omega | rfl | assumption | (simp only [rsD]; first | omega | assumption))) only [g2, g3, beq_self_eq_true, Nat.reduceAdd, Nat.reduceMul, Nat.reduceLT, Int.reduceToNat, Int.reduceAdd, Int.reduceSub, Int.reduceMul, rsU, rsC]
      exact Ok_some.2 (g4 _ rfl fun b x1 x2 x3 => by simp -implicitDefEqProofs (disch := omega) only [s_bn, s_bs, s_kn, bump_blk])
    · have eg : D.setw ((i : Int) + 1) b c = (D, pwrong S e b) := by
        unfold DS.setw
        rw [if_neg (by rw [← pe]; exact hz), pe]
      refine Ok.step (pset_bad h1 hc he hz) fun r ⟨p1, M', p2, p3, p4⟩ => ?_
      obtain ⟨q, σ2⟩ := r
      simp only at p1 p2 p4
      subst p1
      have c0 : σ2.blk σ.next = _ := (p4.blk _ (by simp)).trans b0
      have c1 : σ2.blk (σ.next + 1) = _ := (p4.blk _ (by simp)).trans b1
      simp (config := { maxSteps := 2000000 }) -implicitDefEqProofs (disch := (first | omega | rfl | assumption | (simp only [rsD]; first | omega | assumption))) only [c0, c1, Nat.reduceAdd, Nat.reduceMul, Nat.reduceLT, Int.reduceToNat, Int.reduceAdd, Int.reduceSub, Int.reduceMul, rsU, rsC]
      refine Ok.step (go σ2 D S _ eg sim bd.up rfl rfl p2 p3 (by omega) (by omega) (by omega) p4) fun r ⟨w1, w2, m1, m2, g1, g2, g3, g4⟩ => ?_
      obtain ⟨q, σ3⟩ := r
      simp only at g1 g2 g3 g4
      subst g1
      rw [b0] at g2
      rw [b2] at g3
      simp (config := { maxSteps := 2000000 }) -implicitDefEqProofs (disch := (first | omega | rfl | assumption | (simp only [rsD]; first | omega | assumption))) only [g2, g3, beq_self_eq_true, Nat.reduceAdd, Nat.reduceMul, Nat.reduceLT, Int.reduceToNat, Int.reduceAdd, Int.reduceSub, Int.reduceMul, rsU, rsC]
      exact Ok_some.2 (g4 _ rfl fun b x1 x2 x3 => by simp -implicitDefEqProofs (disch := omega) only [s_bn, s_bs, s_kn, bump_blk])
theorem do_get (h : PoolAt σ pb mb M S w X) (hc : M.calm) (sim : Sim D S) (bd : Bd k S) (hk : k < 80) (hv : D.at_ v) (hm : M.met.r ≤ 1000000 ∧ M.met.w ≤ 1000000) {a b c : Int} (hr : -9223372036854775808 ≤ a ∧ a ≤ 9223372036854775807) :
    Ok (law10_do [.p (some (.n pb, 0)), v, .agg [.i .i64 2, .i .i64 a, .i .i64 b, .i .u64 c]] σ) (Did σ pb mb M D S X k) := by
  have hsm := sim.small bd (by omega)
  have hww := bd.w
  obtain ⟨va, vb, rfl, ha, hb⟩ := id hv
  obtain ⟨sa, vas, rfl, ia, ca⟩ := Im.rd ha
  obtain ⟨sb, _, rfl, _, _⟩ := Im.rd hb
  have e1 : ((2 : Int) == 0) = false := rfl
  have e2 : ((2 : Int) == 1) = false := rfl
  have e3 : ((2 : Int) == 2) = true := rfl
  simp (config := { maxSteps := 2000000 }) -implicitDefEqProofs (disch := (first | omega | rfl | assumption | (simp only [rsD]; first | omega | assumption))) only [law10_do, law10_do_c, e1, e2, e3, Nat.reduceAdd, Nat.reduceMul, Nat.reduceLT, Int.reduceToNat, Int.reduceAdd, Int.reduceSub, Int.reduceMul, rsU, rsC]
  obtain ⟨h1, k1⟩ := boxes h (.cells true 123 [.i .i64 D.words, .sl sa D.L.length, .sl sb D.free.length, .i .i64 D.room]) (.cells true 116 [.i .i64 2, .i .i64 a, .i .i64 b, .i .u64 c]) (.cells true 123 [.i .i64 0, .sl .nil 0, .sl .nil 0, .i .i64 0])
  generalize hσ : AH.put _ (σ.next + 1 + 1) _ = σ1 at *
  have b0 : σ1.blk σ.next = some (.cells true 123 [.i .i64 D.words, .sl sa D.L.length, .sl sb D.free.length, .i .i64 D.room]) := by rw [← hσ, s_bn (by omega), s_bn (by omega)]; exact s_bs
  have b1 : σ1.blk (σ.next + 1) = some (.cells true 116 [.i .i64 2, .i .i64 a, .i .i64 b, .i .u64 c]) := by rw [← hσ, s_bn (by omega)]; exact s_bs
  have b2 : σ1.blk (σ.next + 1 + 1) = some (.cells true 123 [.i .i64 0, .sl .nil 0, .sl .nil 0, .i .i64 0]) := by rw [← hσ]; exact s_bs
  clear hσ
  have go : ∀ (σ2 : AH O) {M' : MemS} {dr dw : Int}, PoolAt σ2 pb mb M' S w (σ.next :: (σ.next + 1) :: (σ.next + 1 + 1) :: X) → Wrt M M' S.id w dr dw → 0 ≤ dr → 0 ≤ dw → dr + dw ≤ 2 → Keep (σ.next :: (σ.next + 1) :: (σ.next + 1 + 1) :: X) σ1 σ2 →
      Ok (haymowref10_Wrong [.agg [.i .i64 D.words, .sl sa D.L.length, .sl sb D.free.length, .i .i64 D.room], .i .i64 a, .i .i64 b] σ2) fun r => r.1 = .i .i64 (D.wrong a b) ∧ r.2.blk σ.next = σ1.blk σ.next ∧ r.2.blk (σ.next + 1) = σ1.blk (σ.next + 1) ∧ r.2.blk (σ.next + 1 + 1) = σ1.blk (σ.next + 1 + 1) ∧ ∀ σ4 : AH O, σ4.next = r.2.next → (∀ b, b ≠ σ.next → b ≠ σ.next + 1 → b ≠ σ.next + 1 + 1 → σ4.blk b = r.2.blk b) → Did σ pb mb M D S X k (.tup [.agg [.i .i64 D.words, .sl sa D.L.length, .sl sb D.free.length, .i .i64 D.room], .i .u64 2, .b true], σ4) := by
    intro σ2 M' dr dw hp hwr h0 h1' hle kp
    refine (rwrong_ok hsm hv hr).mono ?_
    rintro ⟨q, σ3⟩ ⟨e, E3⟩
    simp only at e E3
    subst e
    have l0 := hp.mi.tail.lt
    exact ⟨rfl, (E3.blk _ (l0 _ (by simp))).trans (kp.blk _ (by simp)), (E3.blk _ (l0 _ (by simp))).trans (kp.blk _ (by simp)), (E3.blk _ (l0 _ (by simp))).trans (kp.blk _ (by simp)), fun σ4 n4 o4 => did_of h k1 kp E3 hp hwr h0 h1' (by omega) (by omega) sim bd.up rfl rfl hv n4 o4⟩
  rcases sim.ent (id := a) with ⟨hn, hno⟩ | ⟨i, d, e, rfl, hent, hdd, he, hi, q1, q2, q3, q4⟩
  · have pg := pget_no h1 hc hno (k := b)
    simp (config := { maxSteps := 2000000 }) -implicitDefEqProofs (disch := (first | omega | rfl | assumption | (simp only [rsD]; first | omega | assumption))) only [pg, b0, b1, Nat.reduceAdd, Nat.reduceMul, Nat.reduceLT, Int.reduceToNat, Int.reduceAdd, Int.reduceSub, Int.reduceMul, rsU, rsC]
    refine Ok.step (go σ1 h1 (Wrt.refl h.now) (by omega) (by omega) (by omega) (Keep.refl _ _)) fun r ⟨g1, g2, g5, g3, g4⟩ => ?_
    obtain ⟨q, σ3⟩ := r
    simp only at g1 g2 g3 g4
    rw [wrong4 hn] at g1
    subst g1
    rw [b0] at g2
    rw [b2] at g3
    have f4 : ((4 : Int) == 0) = false := rfl
    simp (config := { maxSteps := 2000000 }) -implicitDefEqProofs (disch := (first | omega | rfl | assumption | (simp only [rsD]; first | omega | assumption))) only [g2, g3, f4, beq_self_eq_true, Nat.reduceAdd, Nat.reduceMul, Nat.reduceLT, Int.reduceToNat, Int.reduceAdd, Int.reduceSub, Int.reduceMul, rsU, rsC]
    exact Ok_some.2 (g4 _ rfl fun b x1 x2 x3 => by simp -implicitDefEqProofs (disch := omega) only [s_bn, s_bs, s_kn, bump_blk])
  · have pe := pwrong_eq sim (word := b) hent q1
    by_cases hz : pwrong S e b = 0
    · have hcase : e.tk = true ∧ 0 ≤ b ∧ b < S.words := by
        unfold pwrong at hz
        split at hz
        · rename_i htk
          split at hz
          · cases hz
          · exact ⟨htk, by omega, by omega⟩
        · cases hz
      obtain ⟨bw, rfl⟩ : ∃ bw : Nat, b = bw := ⟨b.toNat, by omega⟩
      obtain ⟨ht, hb0, hb1⟩ := hcase
      refine Ok.step (pget_ok h1 hc he ht (by omega) (by omega)) fun r ⟨p1, M', p2, p3, p4⟩ => ?_
      obtain ⟨q, σ2⟩ := r
      simp only at p1 p2 p4
      subst p1
      have c0 : σ2.blk σ.next = _ := (p4.blk _ (by simp)).trans b0
      have c1 : σ2.blk (σ.next + 1) = _ := (p4.blk _ (by simp)).trans b1
      simp (config := { maxSteps := 2000000 }) -implicitDefEqProofs (disch := (first | omega | rfl | assumption | (simp only [rsD]; first | omega | assumption))) only [c0, c1, Nat.reduceAdd, Nat.reduceMul, Nat.reduceLT, Int.reduceToNat, Int.reduceAdd, Int.reduceSub, Int.reduceMul, rsU, rsC]
      refine Ok.step (go σ2 p2 p3 (by omega) (by omega) (by omega) p4) fun r ⟨g1, g2, g5, g3, g4⟩ => ?_
      obtain ⟨q, σ3⟩ := r
      simp only at g1 g2 g3 g4 g5
      rw [← pe, hz] at g1
      subst g1
      rw [b0] at g2
      rw [b2] at g3
      rw [b1] at g5
      have hl : i < D.L.length := (List.getElem?_eq_some_iff.1 hdd).1
      obtain ⟨_, _, ws, y1, y2⟩ := DS.cells_ ca hdd
      obtain ⟨bb, oo, rfl, _⟩ := (ia O σ3).ref hl
      have hld : σ3.ld bb (oo + i * 3 + 2) = some (.sl ws d.ws.length) := by
        obtain ⟨b2, o2, e2, hld⟩ := (ia O σ3).ref hl
        cases e2
        rw [hld 2 (by decide), y1]
      have hwg : (d.ws.map (AV.i .u64))[bw]? = some (.i .u64 (e.ws.getD bw 0)) := by
        rw [List.getElem?_map, q4 ht, List.getD_eq_getElem?_getD]
        have := h.p.wl e (List.mem_of_getElem? he)
        rw [List.getElem?_eq_getElem (show bw < e.ws.length by omega)]; rfl
      obtain ⟨wb, wo, rfl, hld2⟩ := (y2 O σ3).at1 hwg
      rw [Nat.mul_one] at hld2
      have v0 : (i : Int) + 1 - 1 = i := by omega
      simp (config := { maxSteps := 2000000 }) -implicitDefEqProofs (disch := (first | omega | rfl | assumption | (simp only [rsD]; first | omega | assumption))) only [g2, g3, g5, v0, hld, hld2, beq_self_eq_true, Nat.reduceAdd, Nat.reduceMul, Nat.reduceLT, Int.reduceToNat, Int.reduceAdd, Int.reduceSub, Int.reduceMul, rsU, rsC]
      exact Ok_some.2 (g4 _ rfl fun b x1 x2 x3 => by simp -implicitDefEqProofs (disch := omega) only [s_bn, s_bs, s_kn, bump_blk])
    · refine Ok.step (pget_bad h1 hc he hz) fun r ⟨p1, M', p2, p3, p4⟩ => ?_
      obtain ⟨q, σ2⟩ := r
      simp only at p1 p2 p4
      subst p1
      have c0 : σ2.blk σ.next = _ := (p4.blk _ (by simp)).trans b0
      have c1 : σ2.blk (σ.next + 1) = _ := (p4.blk _ (by simp)).trans b1
      simp (config := { maxSteps := 2000000 }) -implicitDefEqProofs (disch := (first | omega | rfl | assumption | (simp only [rsD]; first | omega | assumption))) only [c0, c1, Nat.reduceAdd, Nat.reduceMul, Nat.reduceLT, Int.reduceToNat, Int.reduceAdd, Int.reduceSub, Int.reduceMul, rsU, rsC]
      refine Ok.step (go σ2 p2 p3 (by omega) (by omega) (by omega) p4) fun r ⟨g1, g2, g5, g3, g4⟩ => ?_
      obtain ⟨q, σ3⟩ := r
      simp only at g1 g2 g3 g4
      rw [← pe] at g1
      subst g1
      rw [b0] at g2
      rw [b2] at g3
      have f4 := s_eqF hz
      simp (config := { maxSteps := 2000000 }) -implicitDefEqProofs (disch := (first | omega | rfl | assumption | (simp only [rsD]; first | omega | assumption))) only [g2, g3, f4, beq_self_eq_true, Nat.reduceAdd, Nat.reduceMul, Nat.reduceLT, Int.reduceToNat, Int.reduceAdd, Int.reduceSub, Int.reduceMul, rsU, rsC]
      exact Ok_some.2 (g4 _ rfl fun b x1 x2 x3 => by simp -implicitDefEqProofs (disch := omega) only [s_bn, s_bs, s_kn, bump_blk])
end
end Go.Abs.Try
