/-
  A form is copied into blocks of its own. No conditions.
-/
import Derived.Test.YteklninbijohcaaF10
set_option linter.unusedVariables false
set_option linter.unusedSimpArgs false
set_option linter.constructorNameAsVariable false
set_option linter.unusedSimpArgs false
set_option linter.unusedVariables false
set_option linter.unusedSectionVars false
set_option maxHeartbeats 1000000
namespace Go.Abs.Try
open Go Go.Abs
variable {O : Type}

theorem copied_step {σ0 σ : AH O} {base : Nat} {F : FV} {a : SA} {k : Nat} (fF : F.few) (iF : Nodes a F.nodes) (hk : k < F.nodes.length) (h6 : σ0.next + 1 = base) (W : WF σ σ0.next base ⟨F.nodes.take k, F.roots, F.weak⟩) :
    Ok (diff_copied_L1 (a, F.nodes.length) σ0 diff_clone ([.i .i64 (k : Int)], σ)) fun r => ∃ σ', r = .inl ([.i .i64 ((k + 1 : Nat) : Int)], σ') ∧ WF σ' σ0.next base ⟨F.nodes.take (k + 1), F.roots, F.weak⟩ ∧ Only σ σ' σ0.next base := by
  obtain ⟨l1, l2, e, b, c, A, B, C, h1, P⟩ := W
  obtain ⟨x, hx⟩ : ∃ x, F.nodes[k]? = some x := ⟨_, List.getElem?_eq_getElem hk⟩
  have len : (F.nodes.take k).length = k := by simp; omega
  simp only [len] at h1
  obtain ⟨n1, n2, n3, n4⟩ := fF
  obtain ⟨u, o, p, q, rfl, hp, hq, ld⟩ := iF.node hx
  have xf := n2 x (List.mem_of_getElem? hx)
  obtain ⟨d0, d1, d2, d3, d4, d5, d6⟩ := ld O (σ.bump 1)
  have di := decide_eq_true (show (k : Int) < (F.nodes.length : Int) by omega)
  simp (config := { maxSteps := 2000000 }) -implicitDefEqProofs (disch := (first | omega | rfl | assumption | (simp only [rsD]; first | omega | assumption))) only [diff_copied_L1, di, d0, d1, d2, d3, d4, d5, d6, h1, Nat.reduceAdd, Nat.reduceMul, Nat.reduceLT, Int.reduceToNat, Int.reduceAdd, Int.reduceSub, Int.reduceMul, rsU, rsC]
  refine Ok.step (dclone hp hq xf) fun r ⟨p', q', g1, g2, m⟩ => ?_
  obtain ⟨z, σ2⟩ := r
  simp only at g1 g2
  subst g1
  have x2 := g2.e.next
  simp only [rsD] at x2
  have hf := (g2.e.blk σ0.next (by simp; omega)).trans ((by ((try simp only [rsD] at *); simp -implicitDefEqProofs (disch := (first | omega | rfl | assumption | (simp only [rsD]; first | omega | assumption))) only [s_bs, s_bn, s_kn, bump_blk]) : _ = σ.blk σ0.next).trans h1)
  simp (config := { maxSteps := 2000000 }) -implicitDefEqProofs (disch := (first | omega | rfl | assumption | (simp only [rsD]; first | omega | assumption))) only [NV.cells, hf, eq_self, Nat.reduceAdd, Nat.reduceMul, Nat.reduceLT, Int.reduceToNat, Int.reduceAdd, Int.reduceSub, Int.reduceMul, rsU, rsC]
  obtain ⟨E2, K, o2, hK⟩ := g2
  simp only [rsD] at hK
  have ltA := P.n.lt
  have PB := P.of (σ' := σ2.put (σ.next + 1) (.cells true T_canon_Node (x.cells p' q'))) (by show σ.next ≤ σ2.next; omega) fun y h1 h2 => by rw [s_bn (by omega), E2.blk y (by simp; omega)]; ((try simp only [rsD] at *); simp -implicitDefEqProofs (disch := (first | omega | rfl | assumption | (simp only [rsD]; first | omega | assumption))) only [s_bs, s_bn, s_kn, bump_blk])
  have ap := PB.n.app (x := x) (nid := σ.next + 1 + 1) (owl_put o2 fun hm => by have := hK _ hm; omega) (fun y hy hm => by have := ltA y hy; have := hK y hm; omega) m ⟨fun hm => by have := ltA _ hm; omega, fun hm => by have := hK _ hm; omega⟩ (by show _ < σ2.next; omega)
  simp only [len] at ap
  unfold NV.cells at ap
  refine Ok.step ap fun r ⟨a', A', g1, g2, g3, g4, g5⟩ => ?_
  obtain ⟨z, σ3⟩ := r
  simp only at g1 g2 g3 g4
  subst g1
  have n3 : σ3.next = σ2.next := g3
  have hf3 : σ3.blk σ0.next = some (.cells true T_canon_Form [.sl e k, .sl b F.roots.length, .sl c F.weak.length]) := by
    rw [g4 _ (by omega) (fun hm => by have := (P.lA _ hm).1; omega), s_bn (by omega)]; exact hf
  simp (config := { maxSteps := 2000000 }) -implicitDefEqProofs (disch := (first | omega | rfl | assumption | (simp only [rsD]; first | omega | assumption))) only [hf3, Nat.reduceAdd, Nat.reduceMul, Nat.reduceLT, Int.reduceToNat, Int.reduceAdd, Int.reduceSub, Int.reduceMul, rsU, rsC]
  have A'ge : ∀ y ∈ A', y ∈ A ∨ σ.next ≤ y := fun y hy => by
    rcases g5 y hy with h | h | h
    · exact .inr (by omega)
    · exact .inl h
    · exact .inr (by have := hK y h; omega)
  have A'b : ∀ y ∈ A', base ≤ y := fun y hy => by
    rcases A'ge y hy with h | h
    · exact (P.lA y h).1
    · omega
  refine Ok_some.2 ⟨_, rfl, ⟨l1, by show base ≤ σ3.next; omega, a', b, c, A', B, C, ?_, ?_⟩, ⟨by show σ.next ≤ σ3.next; omega, fun y h1 h2 => ?_⟩⟩
  · rw [s_bs]; simp; omega
  · rw [show F.nodes.take (k + 1) = F.nodes.take k ++ [x] by rw [List.take_add_one, hx]; rfl]
    refine P.nodes l2 (by show σ.next ≤ σ3.next; omega) (g2.of (Nat.le_refl _) fun y hy => s_bn (by have := A'b y hy; omega)) A'ge fun y hy => ?_
    have hy1 : base ≤ y ∧ y < σ.next ∧ y ∉ A := by
      rcases hy with hy | hy
      · exact ⟨(P.lB y hy).1, P.r.lt y hy, fun hm => (P.lA y hm).2.1 hy⟩
      · exact ⟨P.lC y hy, P.w.lt y hy, fun hm => (P.lA y hm).2.2 hy⟩
    rw [s_bn (by omega), g4 y (by omega) hy1.2.2, s_bn (by omega), E2.blk y (by simp; omega)]; ((try simp only [rsD] at *); simp -implicitDefEqProofs (disch := (first | omega | rfl | assumption | (simp only [rsD]; first | omega | assumption))) only [s_bs, s_bn, s_kn, bump_blk])
  · rw [s_bn h2, g4 y (by omega) (fun hm => by have := (P.lA y hm).1; omega), s_bn (by omega), E2.blk y (by simp; omega)]; ((try simp only [rsD] at *); simp -implicitDefEqProofs (disch := (first | omega | rfl | assumption | (simp only [rsD]; first | omega | assumption))) only [s_bs, s_bn, s_kn, bump_blk])
theorem copied_ok {σ : AH O} {F : FV} {v : AV} (hF : F.At v) (fF : F.few) : Ok (diff_copied [v] σ) fun r => ∃ a b c A B C, r.1 = .agg [.sl a F.nodes.length, .sl b F.roots.length, .sl c F.weak.length] ∧ Parts r.2 σ.next F a b c A B C ∧ Ext σ r.2 := by
  obtain ⟨a, b, c, rfl, iN, iR, iW⟩ := hF
  simp (config := { maxSteps := 2000000 }) -implicitDefEqProofs (disch := (first | omega | rfl | assumption | (simp only [rsD]; first | omega | assumption))) only [diff_copied, diff_copied_c, Nat.reduceAdd, Nat.reduceMul, Nat.reduceLT, Int.reduceToNat, Int.reduceAdd, Int.reduceSub, Int.reduceMul, rsU, rsC]
  refine Ok.step (clone_i iR fF.r) fun r ⟨b', g1, g2, m1⟩ => ?_
  obtain ⟨z, σ1⟩ := r
  simp only at g1 g2
  subst g1
  have x1 := g2.e.next
  simp only [rsD] at x1
  simp (config := { maxSteps := 2000000 }) -implicitDefEqProofs (disch := (first | omega | rfl | assumption | (simp only [rsD]; first | omega | assumption))) only [s_ext g2.e, eq_self, Nat.reduceAdd, Nat.reduceMul, Nat.reduceLT, Int.reduceToNat, Int.reduceAdd, Int.reduceSub, Int.reduceMul, rsU, rsC]
  refine Ok.step (clone_i iW fF.w) fun r ⟨c', g3, g4, m2⟩ => ?_
  obtain ⟨z, σ2⟩ := r
  simp only at g3 g4
  subst g3
  have x2 := g4.e.next
  simp (config := { maxSteps := 2000000 }) -implicitDefEqProofs (disch := (first | omega | rfl | assumption | (simp only [rsD]; first | omega | assumption))) only [s_ext g2.e, s_ext g4.e, eq_self, Nat.reduceAdd, Nat.reduceMul, Nat.reduceLT, Int.reduceToNat, Int.reduceAdd, Int.reduceSub, Int.reduceMul, rsU, rsC]
  have k1 := g2.e
  have k2 := g4.e
  have lw : ∀ y, y < σ.next → σ2.blk y = σ.blk y := fun y hy => by ((have x0 := (k1).next); (have x1 := (k2).next); (try simp only [rsD] at *); simp -implicitDefEqProofs (disch := (first | omega | rfl | assumption | (simp only [rsD]; first | omega | assumption))) only [s_bs, s_bn, s_kn, bump_blk, s_ext (k1), s_ext (k2)])
  have lb1 : σ2.blk (σ.next + 1) = some (.cells true T_canon_Form [.sl .nil 0, .sl .nil 0, .sl .nil 0]) := by ((have x0 := (k1).next); (have x1 := (k2).next); (try simp only [rsD] at *); simp -implicitDefEqProofs (disch := (first | omega | rfl | assumption | (simp only [rsD]; first | omega | assumption))) only [s_bs, s_bn, s_kn, bump_blk, s_ext (k1), s_ext (k2)])
  obtain ⟨E1, L1, o1, h1⟩ := g2
  obtain ⟨E2, L2, o2, h2⟩ := g4
  have lt1 := o1.lt
  have W0 : WF (σ2.put (σ.next + 2) (.cells true T_canon_Form [.sl .nil 0, .sl b' F.roots.length, .sl c' F.weak.length])) (σ.next + 2) (σ.next + 3) ⟨F.nodes.take 0, F.roots, F.weak⟩ := by
    simp only [rsD] at h1
    refine ⟨by omega, by show σ.next + 3 ≤ σ2.next; omega, .nil, b', c', [], L1, L2, s_bs, ⟨BldM.nil _ _ NV.len, ?_, ?_, by simp, fun y hy => ⟨by have := h1 y hy; omega, fun hm => by have := h2 y hm; have := lt1 y hy; omega⟩, fun y hy => by have := h2 y hy; omega⟩⟩
    · exact ow_put (owl_one (o1.of E2.next fun y hy => E2.blk y (lt1 y hy))) fun hm => by have := h1 _ hm; omega
    · exact ow_put (owl_one o2) fun hm => by have := h2 _ hm; omega
  generalize hs6 : AH.put (AH.put (AH.bump σ 2) _ _) _ _ = s6 at *
  have n6 : s6.next = σ.next + 2 := by rw [← hs6]; rfl
  have lp : Ok (loopF (S := List AV × AH O) (T := List AV × AH O) (diff_copied_L1 (a, F.nodes.length) s6 diff_clone) ([.i .i64 0], σ2.put (σ.next + 2) (.cells true T_canon_Form [.sl .nil 0, .sl b' F.roots.length, .sl c' F.weak.length]))) fun r => ∃ σ', r = ([], σ') ∧ WF σ' (σ.next + 2) (σ.next + 3) F ∧ Only (σ2.put (σ.next + 2) (.cells true T_canon_Form [.sl .nil 0, .sl b' F.roots.length, .sl c' F.weak.length])) σ' (σ.next + 2) (σ.next + 3) := by
    refine Ok.count F.nodes.length (fun k st => ∃ σ', st = ([.i .i64 (k : Int)], σ') ∧ WF σ' (σ.next + 2) (σ.next + 3) ⟨F.nodes.take k, F.roots, F.weak⟩ ∧ Only (σ2.put (σ.next + 2) (.cells true T_canon_Form [.sl .nil 0, .sl b' F.roots.length, .sl c' F.weak.length])) σ' (σ.next + 2) (σ.next + 3)) ?_ ?_ ⟨_, rfl, W0, Only.refl _ _ _⟩
    · rintro k st hk ⟨σ3, rfl, W3, Y3⟩
      rw [← n6] at W3
      refine (copied_step fF iN hk (by omega) W3).mono ?_
      rintro _ ⟨σ4, rfl, W4, Y4⟩
      rw [n6] at W4 Y4
      exact ⟨σ4, rfl, W4, Y3.trans Y4⟩
    · rintro st ⟨σ3, rfl, W3, Y3⟩
      simp (config := { maxSteps := 2000000 }) -implicitDefEqProofs (disch := (first | omega | rfl | assumption | (simp only [rsD]; first | omega | assumption))) only [diff_copied_L1, Nat.reduceAdd, Nat.reduceMul, Nat.reduceLT, Int.reduceToNat, Int.reduceAdd, Int.reduceSub, Int.reduceMul, rsU, rsC]
      rw [List.take_length] at W3
      exact Ok_some.2 ⟨σ3, rfl, W3, Y3⟩
  refine Ok.step lp ?_
  rintro _ ⟨σ3, rfl, ⟨_, q2, a', b', c', A, B, C, q3, P⟩, Y⟩
  have hb1 : σ3.blk (σ.next + 1) = some (.cells true T_canon_Form [.sl .nil 0, .sl .nil 0, .sl .nil 0]) := by rw [Y.o _ (by omega) (by omega), s_bn (by omega)]; exact lb1
  simp (config := { maxSteps := 2000000 }) -implicitDefEqProofs (disch := (first | omega | rfl | assumption | (simp only [rsD]; first | omega | assumption))) only [q3, hb1, Nat.reduceAdd, Nat.reduceMul, Nat.reduceLT, Int.reduceToNat, Int.reduceAdd, Int.reduceSub, Int.reduceMul, rsU, rsC]
  have P2 := P.of (σ' := σ3.put (σ.next + 1) (.cells true T_canon_Form [.sl a' F.nodes.length, .sl b' F.roots.length, .sl c' F.weak.length])) (Nat.le_refl _) fun y h1 h2 => s_bn (by omega)
  refine Ok_some.2 ⟨a', b', c', A, B, C, rfl, ⟨P2.n, P2.r, P2.w, fun y hy => ⟨by have := (P2.lA y hy).1; omega, (P2.lA y hy).2⟩, fun y hy => ⟨by have := (P2.lB y hy).1; omega, (P2.lB y hy).2⟩, fun y hy => by have := P2.lC y hy; omega⟩, ⟨by show σ.next ≤ σ3.next; omega, fun y hy => ?_⟩⟩
  rw [s_bn (by omega), Y.o y (by omega) (by omega), s_bn (by omega)]; exact lw y hy
end Go.Abs.Try
