/-
  A form is copied into blocks of its own. No conditions.
-/
import Derived.Test.YteklninbijohcaaF92
set_option linter.unusedVariables false
set_option linter.unusedSimpArgs false
set_option linter.constructorNameAsVariable false
set_option linter.unusedSimpArgs false
set_option linter.unusedVariables false
set_option linter.unusedSectionVars false
set_option maxHeartbeats 1000000
namespace Go.Abs.Try
open Go Go.Abs
variable {O : Type}

theorem copied_step {σ0 σ : AH O} {base : Nat} {F : FV} {a : SA} {k : Nat} (fF : F.few) (iF : Nodes a F.nodes) (hk : k < F.nodes.length) (h6 : σ0.next + 1 = base) (W : WF σ σ0.next base ⟨F.nodes.take k, F.roots, F.weak⟩) :
    Ok (diff_copied_L1 (a, F.nodes.length) σ0 diff_clone ([.i .i64 (k : Int)], σ)) fun r => ∃ σ', r = .inl ([.i .i64 ((k + 1 : Nat) : Int)], σ') ∧ WF σ' σ0.next base ⟨F.nodes.take (k + 1), F.roots, F.weak⟩ ∧ Only σ σ' σ0.next base := by
  obtain ⟨l1, l2, e, b, c, A, B, C, h1, P⟩ := W
  obtain ⟨x, hx⟩ : ∃ x, F.nodes[k]? = some x := ⟨_, List.getElem?_eq_getElem hk⟩
  have len : (F.nodes.take k).length = k := by simp; omega
  simp only [len] at h1
  obtain ⟨n1, n2, n3, n4⟩ := fF
  obtain ⟨u, o, p, q, rfl, hp, hq, ld⟩ := iF.node hx
  have xf := n2 x (List.mem_of_getElem? hx)
  obtain ⟨d0, d1, d2, d3, d4, d5, d6⟩ := ld O (σ.bump 1)
  have di := decide_eq_true (show (k : Int) < (F.nodes.length : Int) by omega)
  simp (config := { maxSteps := 2000000 }) -implicitDefEqProofs (disch := (first | omega | rfl | assumption | (simp only [rsD]; first | omega | assumption))) only [diff_copied_L1, di, d0, d1, d2, d3, d4, d5, d6, h1, Nat.reduceAdd, Nat.reduceMul, Nat.reduceLT, Int.reduceToNat, Int.reduceAdd, Int.reduceSub, Int.reduceMul, rsU, rsC]
  refine Ok.step (dclone hp hq xf) fun r ⟨p', q', g1, g2, m⟩ => ?_
  obtain ⟨z, σ2⟩ := r
  simp only at g1 g2
  subst g1
  have x2 := g2.e.next
  simp only [rsD] at x2
  have hf := (g2.e.blk σ0.next (by simp; omega)).trans ((by ((try simp only [rsD] at *); simp -implicitDefEqProofs (disch := (first | omega | rfl | assumption | (simp only [rsD]; first | omega | assumption))) only [s_bs, s_bn, s_kn, bump_blk]) : _ = σ.blk σ0.next).trans h1)
  simp (config := { maxSteps := 2000000 }) -implicitDefEqProofs (disch := (first | omega | rfl | assumption | (simp only [rsD]; first | omega | assumption))) only [NV.cells, hf, eq_self, Nat.reduceAdd, Nat.reduceMul, Nat.reduceLT, Int.reduceToNat, Int.reduceAdd, Int.reduceSub, Int.reduceMul, rsU, rsC]
  obtain ⟨E2, K, o2, hK⟩ := g2
  simp only [rsD] at hK
  have ltA := P.n.lt
  have PB := P.of (σ' := σ2.put (σ.next + 1) (.cells true T_canon_Node (x.cells p' q'))) (by show σ.next ≤ σ2.next; omega) fun y h1 h2 => by rw [s_bn (by omega), E2.blk y (by simp; omega)]; ((try simp only [rsD] at *); simp -implicitDefEqProofs (disch := (first | omega | rfl | assumption | (simp only [rsD]; first | omega | assumption))) only [s_bs, s_bn, s_kn, bump_blk])
  have ap := PB.n.app (x := x) (nid := σ.next + 1 + 1) (owl_put o2 fun hm => by have := hK _ hm; omega) (fun y hy hm => by have := ltA y hy; have := hK y hm; omega) m ⟨fun hm => by have := ltA _ hm; omega, fun hm => by have := hK _ hm; omega⟩ (by show _ < σ2.next; omega)
  simp only [len] at ap
  unfold NV.cells at ap
  refine Ok.step ap fun r ⟨a', A', g1, g2, g3, g4, g5⟩ => ?_
  obtain ⟨z, σ3⟩ := r
  simp only at g1 g2 g3 g4
  subst g1
  have n3 : σ3.next = σ2.next := g3
  have hf3 : σ3.blk σ0.next = some (.cells true T_canon_Form [.sl e k, .sl b F.roots.length, .sl c F.weak.length]) := by
    rw [g4 _ (by omega) (fun hm => by have := (P.lA _ hm).1; omega), s_bn (by omega)]; exact hf
  simp (config := { maxSteps := 2000000 }) -implicitDefEqProofs (disch := (first | omega | rfl | assumption | (simp only [rsD]; first | omega | assumption))) only [hf3, Nat.reduceAdd, Nat.reduceMul, Nat.reduceLT, Int.reduceToNat, Int.reduceAdd, Int.reduceSub, Int.reduceMul, rsU, rsC]
  have A'ge : ∀ y ∈ A', y ∈ A ∨ σ.next ≤ y := fun y hy => by
    rcases g5 y hy with h | h | h
    · exact .inr (by omega)
    · exact .inl h
    · exact .inr (by have := hK y h; omega)
  have A'b : ∀ y ∈ A', base ≤ y := fun y hy => by
    rcases A'ge y hy with h | h
    · exact (P.lA y h).1
    · omega
  refine Ok_some.2 ⟨_, rfl, ⟨l1, by show base ≤ σ3.next; omega, a', b, c, A', B, C, ?_, ?_⟩, ⟨by show σ.next ≤ σ3.next; omega, fun y h1 h2 => ?_⟩⟩
  · rw [s_bs]; simp; omega
  · rw [show F.nodes.take (k + 1) = F.nodes.take k ++ [x] by rw [List.take_add_one, hx]; rfl]
    refine P.nodes l2 (by show σ.next ≤ σ3.next; omega) (g2.of (Nat.le_refl _) fun y hy => s_bn (by have := A'b y hy; omega)) A'ge fun y hy => ?_
    have hy1 : base ≤ y ∧ y < σ.next ∧ y ∉ A := by
      rcases hy with hy | hy
      · exact ⟨(P.lB y hy).1, P.r.lt y hy, fun hm => (P.lA y hm).2.1 hy⟩
      · exact ⟨P.lC y hy, P.w.lt y hy, fun hm => (P.lA y hm).2.2 hy⟩
    rw [s_bn (by omega), g4 y (by omega) hy1.2.2, s_bn (by omega), E2.blk y (by simp; omega)]; ((try simp only [rsD] at *); simp -implicitDefEqProofs (disch := (first | omega | rfl | assumption | (simp only [rsD]; first | omega | assumption))) only [s_bs, s_bn, s_kn, bump_blk])
  · rw [s_bn h2, g4 y (by omega) (fun hm => by have := (P.lA y hm).1; omega), s_bn (by omega), E2.blk y (by simp; omega)]; ((try simp only [rsD] at *); simp -implicitDefEqProofs (disch := (first | omega | rfl | assumption | (simp only [rsD]; first | omega | assumption))) only [s_bs, s_bn, s_kn, bump_blk])
theorem copied_ok {σ : AH O} {F : FV} {v : AV} (hF : F.At v) (fF : F.few) : Ok (diff_copied [v] σ) fun r => ∃ a b c A B C, r.1 = .agg [.sl a F.nodes.length, .sl b F.roots.length, .sl c F.weak.length] ∧ Parts r.2 σ.next F a b c A B C ∧ Ext σ r.2 := by
  obtain ⟨a, b, c, rfl, iN, iR, iW⟩ := hF
  simp (config := { maxSteps := 2000000 }) -implicitDefEqProofs (disch := (first | omega | rfl | assumption | (simp only [rsD]; first | omega | assumption))) only [diff_copied, diff_copied_c, Nat.reduceAdd, Nat.reduceMul, Nat.reduceLT, Int.reduceToNat, Int.reduceAdd, Int.reduceSub, Int.reduceMul, rsU, rsC]
  refine Ok.step (clone_i iR fF.r) fun r ⟨b', g1, g2, m1⟩ => ?_
  obtain ⟨z, σ1⟩ := r
  simp only at g1 g2
  subst g1
  have x1 := g2.e.next
  simp only [rsD] at x1
  simp (config := { maxSteps := 2000000 }) -implicitDefEqProofs (disch := (first | omega | rfl | assumption | (simp only [rsD]; first | omega | assumption))) only [s_ext g2.e, eq_self, Nat.reduceAdd, Nat.reduceMul, Nat.reduceLT, Int.reduceToNat, Int.reduceAdd, Int.reduceSub, Int.reduceMul, rsU, rsC]
  refine Ok.step (clone_i iW fF.w) fun r ⟨c', g3, g4, m2⟩ => ?_
  obtain ⟨z, σ2⟩ := r
  simp only at g3 g4
  subst g3
  have x2 := g4.e.next
  simp (config := { maxSteps := 2000000 }) -implicitDefEqProofs (disch := (first | omega | rfl | assumption | (simp only [rsD]; first | omega | assumption))) only [s_ext g2.e, s_ext g4.e, eq_self, Nat.reduceAdd, Nat.reduceMul, Nat.reduceLT, Int.reduceToNat, Int.reduceAdd, Int.reduceSub, Int.reduceMul, rsU, rsC]
  have k1 := g2.e
  have k2 := g4.e
  have lw : ∀ y, y < σ.next → σ2.blk y = σ.blk y := fun y hy => by ((have x0 := (k1).next); (have x1 := (k2).next); (try simp only [rsD] at *); simp -implicitDefEqProofs (disch := (first | omega | rfl | assumption | (simp only [rsD]; first | omega | assumption))) only [s_bs, s_bn, s_kn, bump_blk, s_ext (k1), s_ext (k2)])
  have lb1 : σ2.blk (σ.next + 1) = some (.cells true T_canon_Form [.sl .nil 0, .sl .nil 0, .sl .nil 0]) := by ((have x0 := (k1).next); (have x1 := (k2).next); (try simp only [rsD] at *); simp -implicitDefEqProofs (disch := (first | omega | rfl | assumption | (simp only [rsD]; first | omega | assumption))) only [s_bs, s_bn, s_kn, bump_blk, s_ext (k1), s_ext (k2)])
  obtain ⟨E1, L1, o1, h1⟩ := g2
  obtain ⟨E2, L2, o2, h2⟩ := g4
  have lt1 := o1.lt
  have W0 : WF (σ2.put (σ.next + 2) (.cells true T_canon_Form [.sl .nil 0, .sl b' F.roots.length, .sl c' F.weak.length])) (σ.next + 2) (σ.next + 3) ⟨F.nodes.take 0, F.roots, F.weak⟩ := by
    simp only [rsD] at h1
    refine ⟨by omega, by show σ.next + 3 ≤ σ2.next; omega, .nil, b', c', [], L1, L2, s_bs, ⟨BldM.nil _ _ NV.len, ?_, ?_, by simp, fun y hy => ⟨by have := h1 y hy; omega, fun hm => by have := h2 y hm; have := lt1 y hy; omega⟩, fun y hy => by have := h2 y hy; omega⟩⟩
    · exact ow_put (owl_one (o1.of E2.next fun y hy => E2.blk y (lt1 y hy))) fun hm => by have := h1 _ hm; omega
    · exact ow_put (owl_one o2) fun hm => by have := h2 _ hm; omega
  generalize hs6 : AH.put (AH.put (AH.bump σ 2) _ _) _ _ = s6 at *
  have n6 : s6.next = σ.next + 2 := by rw [← hs6]; rfl
  have lp : Ok (loopF (S := List AV × AH O) (T := List AV × AH O) (diff_copied_L1 (a, F.nodes.length) s6 diff_clone) ([.i .i64 0], σ2.put (σ.next + 2) (.cells true T_canon_Form [.sl .nil 0, .sl b' F.roots.length, .sl c' F.weak.length]))) fun r => ∃ σ', r = ([], σ') ∧ WF σ' (σ.next + 2) (σ.next + 3) F ∧ Only (σ2.put (σ.next + 2) (.cells true T_canon_Form [.sl .nil 0, .sl b' F.roots.length, .sl c' F.weak.length])) σ' (σ.next + 2) (σ.next + 3) := by
    refine Ok.count F.nodes.length (fun k st => ∃ σ', st = ([.i .i64 (k : Int)], σ') ∧ WF σ' (σ.next + 2) (σ.next + 3) ⟨F.nodes.take k, F.roots, F.weak⟩ ∧ Only (σ2.put (σ.next + 2) (.cells true T_canon_Form [.sl .nil 0, .sl b' F.roots.length, .sl c' F.weak.length])) σ' (σ.next + 2) (σ.next + 3)) ?_ ?_ ⟨_, rfl, W0, Only.refl _ _ _⟩
    · rintro k st hk ⟨σ3, rfl, W3, Y3⟩
      rw [← n6] at W3
      refine (copied_step fF iN hk (by omega) W3).mono ?_
      rintro _ ⟨σ4, rfl, W4, Y4⟩
      rw [n6] at W4 Y4
      exact ⟨σ4, rfl, W4, Y3.trans Y4⟩
    · rintro st ⟨σ3, rfl, W3, Y3⟩
      simp (config := { maxSteps := 2000000 }) -implicitDefEqProofs (disch := (first | omega | rfl | assumption | (simp only [rsD]; first | omega | assumption))) only [diff_copied_L1, Nat.reduceAdd, Nat.reduceMul, Nat.reduceLT, Int.reduceToNat, Int.reduceAdd, Int.reduceSub, Int.reduceMul, rsU, rsC]
      rw [List.take_length] at W3
      exact Ok_some.2 ⟨σ3, rfl, W3, Y3⟩
  refine Ok.step lp ?_
  rintro _ ⟨σ3, rfl, ⟨_, q2, a', b', c', A, B, C, q3, P⟩, Y⟩
  have hb1 : σ3.blk (σ.next + 1) = some (.cells true T_canon_Form [.sl .nil 0, .sl .nil 0, .sl .nil 0]) := by rw [Y.o _ (by omega) (by omega), s_bn (by omega)]; exact lb1
  simp (config := { maxSteps := 2000000 }) -implicitDefEqProofs (disch := (first | omega | rfl | assumption | (simp only [rsD]; first | omega | assumption))) only [q3, hb1, Nat.reduceAdd, Nat.reduceMul, Nat.reduceLT, Int.reduceToNat, Int.reduceAdd, Int.reduceSub, Int.reduceMul, rsU, rsC]
  have P2 := P.of (σ' := σ3.put (σ.next + 1) (.cells true T_canon_Form [.sl a' F.nodes.length, .sl b' F.roots.length, .sl c' F.weak.length])) (Nat.le_refl _) fun y h1 h2 => s_bn (by omega)
  refine Ok_some.2 ⟨a', b', c', A, B, C, rfl, ⟨P2.n, P2.r, P2.w, fun y hy => ⟨by have := (P2.lA y hy).1; omega, (P2.lA y hy).2⟩, fun y hy => ⟨by have := (P2.lB y hy).1; omega, (P2.lB y hy).2⟩, fun y hy => by have := P2.lC y hy; omega⟩, ⟨by show σ.next ≤ σ3.next; omega, fun y hy => ?_⟩⟩
  rw [s_bn (by omega), Y.o y (by omega) (by omega), s_bn (by omega)]; exact lw y hy
end Go.Abs.Try
set_option linter.unusedSimpArgs false
set_option linter.unusedVariables false
set_option linter.unusedSectionVars false
set_option maxHeartbeats 1000000
namespace Go.Abs.Try
open Go Go.Abs
variable {O : Type}

def FV.zero : FV := ⟨[], [], []⟩
/-- what 'Apply' gives: the form, the change that failed and how -/
def appl : FV → Nat → List CV → FV × Int × Int
  | F, _, [] => (F, 0, 0)
  | F, n, c :: l => if (one F c).1 = 0 then appl (one F c).2 (n + 1) l else (FV.zero, n, (one F c).1)
/-- the form behind the first ones, if none failed -/
def upto : FV → List CV → Option FV
  | F, [] => some F
  | F, c :: l => if (one F c).1 = 0 then upto (one F c).2 l else none
theorem one_len (F : FV) (c : CV) (h : F.nodes.length ≤ 10000000) : (one F c).2.nodes.length ≤ 10000000 := by
  unfold one
  split
  · split
    · exact h
    · simp only [sized_len]; omega
  · split
    · exact h
    · split
      · exact h
      · split
        · exact h
        · split
          · exact h
          · split
            · exact h
            · split
              · simpa using h
              · split
                · exact h
                · split <;> simpa using h
/-- one change's cells, wherever it is read -/
theorem chg_at {a : SA} {l : List CV} (h : Chgs a l) {i : Nat} {c : CV} (hx : l[i]? = some c) : ∃ b o p q r, a = .loc b o 13 ∧ Ints .i64 p c.whole.P ∧ Ints .u64 q c.whole.R ∧ Ints .i64 r c.list ∧ ∀ (O : Type) (σ : AH O) (j : Nat), j < 13 → σ.ld b (o + i * 13 + j) = (c.cells p q r)[j]? := by
  obtain ⟨b, o, us, e, h1, h2⟩ := h.get hx
  obtain ⟨p, q, r, rfl, hp, hq, hr⟩ := CV.un h1
  exact ⟨b, o, p, q, r, e, hp, hq, hr, fun O σ j hj => h2 O σ j hj⟩
theorem apply_step {σ7 s σ : AH O} {base n : Nat} {F : FV} {a : SA} {l : List CV} {c : CV} (hl : Chgs a l) (hc : l[n]? = some c) (fc : c.few) (hn : l.length ≤ 100000000) (W : WF σ σ7.next base F) (hF : F.nodes.length ≤ 10000000) (hz : s.next + 1 < σ7.next) (bz : σ.blk (s.next + 1) = some (.cells true T_canon_Form [.sl .nil 0, .sl .nil 0, .sl .nil 0])) :
    Ok (diff_Apply_L1 (a, l.length) diff_one σ7 s ([.i .i64 (n : Int)], σ)) fun r => if (one F c).1 = 0 then ∃ σ', r = .inl ([.i .i64 ((n + 1 : Nat) : Int)], σ') ∧ WF σ' σ7.next base (one F c).2 ∧ Only σ σ' σ7.next base else ∃ σ', r = .inr (.inr (.tup [.agg [.sl .nil 0, .sl .nil 0, .sl .nil 0], .i .i64 (n : Int), .i .i64 (one F c).1], σ')) ∧ σ.next ≤ σ'.next ∧ ∀ y, y < σ7.next → y ≠ s.next + 1 → σ'.blk y = σ.blk y := by
  have hn' := (List.getElem?_eq_some_iff.1 hc).1
  obtain ⟨b, o, p, q, r, rfl, hp, hq, hr, ld⟩ := chg_at hl hc
  have hlt := W.lt
  have hle := W.le
  have di := decide_eq_true (show (n : Int) < (l.length : Int) by omega)
  have d0 := ld O (σ.bump 1) 0 (by decide)
  have d1 := ld O (σ.bump 1) 1 (by decide)
  have d2 := ld O (σ.bump 1) 2 (by decide)
  have d3 := ld O (σ.bump 1) 3 (by decide)
  have d4 := ld O (σ.bump 1) 4 (by decide)
  have d5 := ld O (σ.bump 1) 5 (by decide)
  have d6 := ld O (σ.bump 1) 6 (by decide)
  have d7 := ld O (σ.bump 1) 7 (by decide)
  have d8 := ld O (σ.bump 1) 8 (by decide)
  have d9 := ld O (σ.bump 1) 9 (by decide)
  have d10 := ld O (σ.bump 1) 10 (by decide)
  have d11 := ld O (σ.bump 1) 11 (by decide)
  have d12 := ld O (σ.bump 1) 12 (by decide)
  simp only [Nat.add_zero, CV.cells, List.getElem?_cons_zero, List.getElem?_cons_succ] at d0 d1 d2 d3 d4 d5 d6 d7 d8 d9 d10 d11 d12
  simp (config := { maxSteps := 2000000 }) -implicitDefEqProofs (disch := (first | omega | rfl | assumption | (simp only [rsD]; first | omega | assumption))) only [diff_Apply_L1, di, d0, d1, d2, d3, d4, d5, d6, d7, d8, d9, d10, d11, d12, Nat.reduceAdd, Nat.reduceMul, Nat.reduceLT, Int.reduceToNat, Int.reduceAdd, Int.reduceSub, Int.reduceMul, rsU, rsC]
  have W0 : WF ((σ.bump 1).put σ.next (.cells true T_diff_Change (c.cells p q r))) σ7.next base F := W.keep (by simp) (by ((try simp only [rsD] at *); simp -implicitDefEqProofs (disch := (first | omega | rfl | assumption | (simp only [rsD]; first | omega | assumption))) only [s_bs, s_bn, s_kn, bump_blk])) fun y h1 h2 => by ((try simp only [rsD] at *); simp -implicitDefEqProofs (disch := (first | omega | rfl | assumption | (simp only [rsD]; first | omega | assumption))) only [s_bs, s_bn, s_kn, bump_blk])
  refine Ok.step (one_ok W0 hF hp hq hr fc) fun r ⟨g1, g2, g3⟩ => ?_
  obtain ⟨z, σ2⟩ := r
  simp only at g1 g2 g3
  subst g1
  have o2 : ∀ y, y < base → y ≠ σ7.next → σ2.blk y = σ.blk y := fun y h1 h2 => (g3.o y h1 h2).trans (by ((try simp only [rsD] at *); simp -implicitDefEqProofs (disch := (first | omega | rfl | assumption | (simp only [rsD]; first | omega | assumption))) only [s_bs, s_bn, s_kn, bump_blk]))
  have n2 := g3.n
  simp only [rsD] at n2
  by_cases e : (one F c).1 = 0
  · have q0 := s_eqT e
    simp only [if_pos e]
    simp (config := { maxSteps := 2000000 }) -implicitDefEqProofs (disch := (first | omega | rfl | assumption | (simp only [rsD]; first | omega | assumption))) only [q0, Nat.reduceAdd, Nat.reduceMul, Nat.reduceLT, Int.reduceToNat, Int.reduceAdd, Int.reduceSub, Int.reduceMul, rsU, rsC]
    exact Ok_some.2 ⟨σ2, by simp, g2, by omega, o2⟩
  · have q0 := s_eqF e
    simp only [if_neg e]
    have bz2 := (o2 (s.next + 1) (by omega) (by omega)).trans bz
    simp (config := { maxSteps := 2000000 }) -implicitDefEqProofs (disch := (first | omega | rfl | assumption | (simp only [rsD]; first | omega | assumption))) only [q0, bz2, Nat.reduceAdd, Nat.reduceMul, Nat.reduceLT, Int.reduceToNat, Int.reduceAdd, Int.reduceSub, Int.reduceMul, rsU, rsC]
    refine Ok_some.2 ⟨_, rfl, by show σ.next ≤ σ2.next; omega, fun y h1 h2 => ?_⟩
    rw [s_bn h2]; exact o2 y (by omega) (by omega)
end Go.Abs.Try
set_option linter.unusedSimpArgs false
set_option linter.unusedVariables false
set_option linter.unusedSectionVars false
set_option maxHeartbeats 1000000
namespace Go.Abs.Try
open Go Go.Abs
variable {O : Type}

theorem upto_snoc (F : FV) : ∀ (l : List CV) (c : CV), upto F (l ++ [c]) = (upto F l).bind fun G => if (one G c).1 = 0 then some (one G c).2 else none
  | [], c => by simp [upto]
  | d :: l, c => by
    have ih := upto_snoc (one F d).2 l c
    simp only [List.cons_append, upto]
    split
    · exact ih
    · rfl
theorem upto_app (F : FV) : ∀ (l m : List CV), upto F (l ++ m) = (upto F l).bind fun G => upto G m
  | [], m => by simp [upto]
  | d :: l, m => by
    have ih := upto_app (one F d).2 l m
    simp only [List.cons_append, upto]
    split
    · exact ih
    · rfl
theorem upto_take (F : FV) {l : List CV} {n : Nat} {c : CV} (hc : l[n]? = some c) : upto F (l.take (n + 1)) = (upto F (l.take n)).bind fun G => if (one G c).1 = 0 then some (one G c).2 else none := by
  rw [List.take_add_one, hc, Option.toList_some, upto_snoc]
def _root_.Go.Abs.FV.row (F : FV) : List TV := [.sl T_canon_Node 7 F.nodes.length (F.nodes.flatMap NV.row), ints .i64 F.roots, ints .i64 F.weak]
theorem _root_.Go.Abs.FV.row_at {F : FV} {vs : List AV} (h : ImL F.row vs) : F.At (.agg vs) := by
  cases h with
  | cons h1 hc =>
    cases hc with
    | cons h2 hc =>
      cases hc with
      | cons h3 hc =>
        cases hc
        obtain ⟨a, rfl, g1⟩ := Row.of NV.len h1 rfl
        obtain ⟨b, rfl, g2⟩ := ints_un h2
        obtain ⟨c, rfl, g3⟩ := ints_un h3
        exact ⟨a, b, c, rfl, g1, g2, g3⟩
theorem _root_.Go.Abs.FV.deep (G : FV) : ∀ t ∈ G.row, t.deep 5 := by
  intro t ht
  simp only [FV.row, List.mem_cons, List.not_mem_nil, or_false] at ht
  rcases ht with rfl | rfl | rfl
  · exact rows_deep (d := 4) fun x => NV.deep x 3
  · exact ints_deep _ _ 4
  · exact ints_deep _ _ 4
theorem apply_ok {σ : AH O} {F G : FV} {v : AV} {a : SA} {l : List CV} (hF : F.At v) (fF : F.few) (hl : Chgs a l) (fl : ∀ c ∈ l, c.few) (hn : l.length ≤ 100000000) (hu : upto F l = some G) : Ok (diff_Apply [v, .sl a l.length] σ) fun r => (∃ vs, r.1 = .tup (.agg vs :: [.i .i64 0, .i .i64 0]) ∧ ImL G.row vs) ∧ Ext σ r.2 := by
  obtain ⟨a1, b1, c1, rfl, iN, iR, iW⟩ := id hF
  refine frz_aggs (G.deep) rfl ?_
  simp (config := { maxSteps := 2000000 }) -implicitDefEqProofs (disch := (first | omega | rfl | assumption | (simp only [rsD]; first | omega | assumption))) only [diff_Apply_c, Nat.reduceAdd, Nat.reduceMul, Nat.reduceLT, Int.reduceToNat, Int.reduceAdd, Int.reduceSub, Int.reduceMul, rsU, rsC]
  have hF' : F.At (.agg [.sl a1 F.nodes.length, .sl b1 F.roots.length, .sl c1 F.weak.length]) := hF
  refine Ok.step (copied_ok hF' fF) fun r ⟨a2, b2, c2, A, B, C, g1, P, E⟩ => ?_
  obtain ⟨z, σ1⟩ := r
  simp only at g1 P E
  subst g1
  have x1 := E.next
  simp only [rsD] at x1 P
  simp (config := { maxSteps := 2000000 }) -implicitDefEqProofs (disch := (first | omega | rfl | assumption | (simp only [rsD]; first | omega | assumption))) only [Nat.reduceAdd, Nat.reduceMul, Nat.reduceLT, Int.reduceToNat, Int.reduceAdd, Int.reduceSub, Int.reduceMul, rsU, rsC]
  have lw : ∀ y, y < σ.next → σ1.blk y = σ.blk y := fun y hy => by ((have x0 := (E).next); (try simp only [rsD] at *); simp -implicitDefEqProofs (disch := (first | omega | rfl | assumption | (simp only [rsD]; first | omega | assumption))) only [s_bs, s_bn, s_kn, bump_blk, s_ext (E)])
  have bz : σ1.blk (σ.next + 1) = some (.cells true T_canon_Form [.sl .nil 0, .sl .nil 0, .sl .nil 0]) := by ((have x0 := (E).next); (try simp only [rsD] at *); simp -implicitDefEqProofs (disch := (first | omega | rfl | assumption | (simp only [rsD]; first | omega | assumption))) only [s_bs, s_bn, s_kn, bump_blk, s_ext (E)])
  have W0 : WF (σ1.put (σ.next + 2) (.cells true T_canon_Form [.sl a2 F.nodes.length, .sl b2 F.roots.length, .sl c2 F.weak.length])) (σ.next + 2) (σ.next + 3) F :=
    ⟨by omega, by show σ.next + 3 ≤ σ1.next; omega, a2, b2, c2, A, B, C, s_bs, P.of (Nat.le_refl _) fun y h1 h2 => s_bn (by omega)⟩
  generalize hs7 : AH.put (AH.put (AH.bump σ 2) _ _) _ _ = s7 at *
  have n7 : s7.next = σ.next + 2 := by rw [← hs7]; rfl
  have lp : Ok (loopF (S := List AV × AH O) (T := (List AV × AH O) ⊕ (AV × AH O)) (diff_Apply_L1 (a, l.length) diff_one s7 σ) ([.i .i64 0], σ1.put (σ.next + 2) (.cells true T_canon_Form [.sl a2 F.nodes.length, .sl b2 F.roots.length, .sl c2 F.weak.length]))) fun r => ∃ σ', r = .inl ([], σ') ∧ WF σ' (σ.next + 2) (σ.next + 3) G ∧ Only (σ1.put (σ.next + 2) (.cells true T_canon_Form [.sl a2 F.nodes.length, .sl b2 F.roots.length, .sl c2 F.weak.length])) σ' (σ.next + 2) (σ.next + 3) := by
    generalize hs8 : AH.put σ1 _ _ = s8 at *
    have bz8 : s8.blk (σ.next + 1) = some (.cells true T_canon_Form [.sl .nil 0, .sl .nil 0, .sl .nil 0]) := by rw [← hs8, s_bn (by omega)]; exact bz
    refine Ok.count l.length (fun k st => ∃ σ' H, st = ([.i .i64 (k : Int)], σ') ∧ upto F (l.take k) = some H ∧ H.nodes.length ≤ 10000000 ∧ WF σ' (σ.next + 2) (σ.next + 3) H ∧ Only s8 σ' (σ.next + 2) (σ.next + 3)) ?_ ?_ ⟨s8, F, rfl, rfl, by have := fF.n; omega, W0, Only.refl _ _ _⟩
    · rintro k st hk ⟨σ3, H, rfl, u3, b3, W3, Y3⟩
      obtain ⟨c, hc⟩ : ∃ c, l[k]? = some c := ⟨_, List.getElem?_eq_getElem hk⟩
      rw [← n7] at W3 Y3
      have st := apply_step (s := σ) hl hc (fl c (List.mem_of_getElem? hc)) hn W3 b3 (by omega) ((Y3.o _ (by omega) (by omega)).trans bz8)
      have hu' := upto_take F hc
      rw [u3, Option.bind_some] at hu'
      by_cases e : (one H c).1 = 0
      · simp only [if_pos e] at st hu'
        refine st.mono ?_
        rintro _ ⟨σ4, rfl, W4, Y4⟩
        rw [n7] at W4 Y4 Y3
        exact ⟨σ4, _, rfl, hu', one_len _ _ b3, W4, Y3.trans Y4⟩
      · exfalso
        simp only [if_neg e] at hu'
        rw [← List.take_append_drop (k + 1) l, upto_app, hu', Option.bind_none] at hu
        cases hu
    · rintro st ⟨σ3, H, rfl, u3, b3, W3, Y3⟩
      simp (config := { maxSteps := 2000000 }) -implicitDefEqProofs (disch := (first | omega | rfl | assumption | (simp only [rsD]; first | omega | assumption))) only [diff_Apply_L1, Nat.reduceAdd, Nat.reduceMul, Nat.reduceLT, Int.reduceToNat, Int.reduceAdd, Int.reduceSub, Int.reduceMul, rsU, rsC]
      rw [List.take_length, hu] at u3
      cases u3
      exact Ok_some.2 ⟨σ3, rfl, W3, Y3⟩
  refine Ok.bindS lp ?_ (fun r hh => by obtain ⟨_, e, _⟩ := hh; cases e)
  rintro _ ⟨σ3, e3, ⟨_, q2, a', b', c', A', B', C', q3, P'⟩, Y⟩
  cases e3
  have bz3 : σ3.blk (σ.next + 1) = some (.cells true T_canon_Form [.sl .nil 0, .sl .nil 0, .sl .nil 0]) := by rw [Y.o _ (by omega) (by omega), s_bn (by omega)]; exact bz
  simp (config := { maxSteps := 2000000 }) -implicitDefEqProofs (disch := (first | omega | rfl | assumption | (simp only [rsD]; first | omega | assumption))) only [q3, bz3, Nat.reduceAdd, Nat.reduceMul, Nat.reduceLT, Int.reduceToNat, Int.reduceAdd, Int.reduceSub, Int.reduceMul, rsU, rsC]
  have no : ∀ y, σ.next + 3 ≤ y → y ≠ σ.next + 1 := fun y h => by omega
  have P2 := P'.of (σ' := σ3.put (σ.next + 1) (.cells true T_canon_Form [.sl a' G.nodes.length, .sl b' G.roots.length, .sl c' G.weak.length])) (Nat.le_refl _) fun y h1 h2 => s_bn (no y h1)
  have o := OwL.cons P2.n.ow (OwL.cons P2.r (OwL.cons P2.w .nil (by simp)) (fun y hy hm => (P2.lB y hy).2 (by simpa using hm))) (fun y hy hm => by
    rcases List.mem_append.1 hm with hm | hm
    · exact (P2.lA y hy).2.1 hm
    · exact (P2.lA y hy).2.2 (by simpa using hm))
  refine Ok_some.2 ⟨_, rfl, ⟨by have := Y.n; show σ.next ≤ σ3.next; omega, fun y hy => ?_⟩, _, o, fun y hy => ?_⟩
  · rw [s_bn (by omega), Y.o y (by omega) (by omega), s_bn (by omega)]; exact lw y hy
  · simp only [List.mem_append, List.append_nil] at hy
    rcases hy with hy | hy | hy
    · have := (P2.lA y hy).1; omega
    · have := (P2.lB y hy).1; omega
    · have := P2.lC y hy; omega
end Go.Abs.Try
set_option linter.unusedSimpArgs false
set_option linter.unusedVariables false
set_option linter.unusedSectionVars false
set_option maxHeartbeats 1000000
namespace Go.Abs.Try
open Go Go.Abs
variable {O : Type}

theorem few_ok {σ : AH O} {F : FV} {v : AV} (hF : F.At v) : Ok (law47_few [v] σ) fun r => ∃ t, r.1 = .b t ∧ (t = true → F.few ∧ F.nodes.length ≤ 20) ∧ Ext σ r.2 := by
  obtain ⟨a, b, c, rfl, iN, iR, iW⟩ := hF.it
  simp (config := { maxSteps := 2000000 }) -implicitDefEqProofs (disch := (first | omega | rfl | assumption | (simp only [rsD]; first | omega | assumption))) only [law47_few, law47_few_c, Nat.reduceAdd, Nat.reduceMul, Nat.reduceLT, Int.reduceToNat, Int.reduceAdd, Int.reduceSub, Int.reduceMul, rsU, rsC]
  generalize hs : AH.put (AH.bump σ 1) _ _ = s1
  have b1 : s1.blk σ.next = some (.cells true T_canon_Form [.sl a F.nodes.length, .sl b F.roots.length, .sl c F.weak.length]) := by rw [← hs]; ((try simp only [rsD] at *); simp -implicitDefEqProofs (disch := (first | omega | rfl | assumption | (simp only [rsD]; first | omega | assumption))) only [s_bs, s_bn, s_kn, bump_blk])
  have E1 : Ext σ s1 := by rw [← hs]; exact (ext_of (by (try simp only [rsD] at *); omega) (fun b hb => by (try simp only [rsD] at *); simp -implicitDefEqProofs (disch := (first | omega | rfl | assumption | (simp only [rsD]; first | omega | assumption))) only [s_bn, s_kn, bump_blk]))
  refine Ok.bindS (Q := fun r => (r = .inl ([], s1) ∧ ∀ k x, k < 20 → F.nodes[k]? = some x → x.few) ∨ r = .inr (.b false, s1)) ?_ ?_ ?_
  · refine Ok.count (min F.nodes.length 20) (fun k st => st = ([.i .i64 (k : Int)], s1) ∧ ∀ j x, j < k → F.nodes[j]? = some x → x.few) ?_ ?_ ⟨rfl, fun j x h => by omega⟩
    · rintro k st hk ⟨rfl, ih⟩
      obtain ⟨x, hx⟩ : ∃ x, F.nodes[k]? = some x := ⟨_, List.getElem?_eq_getElem (by omega)⟩
      obtain ⟨u, o, p, q, rfl, hp, hq, ld⟩ := iN.node hx
      obtain ⟨_, _, _, _, _, d5, d6⟩ := ld O s1
      have di := decide_eq_true (show (k : Int) < (F.nodes.length : Int) by omega)
      have dj := decide_eq_true (show (k : Int) < 20 by omega)
      by_cases e1 : (x.P.length : Int) > 20
      · have q1 := decide_eq_true e1
        simp (config := { maxSteps := 2000000 }) -implicitDefEqProofs (disch := (first | omega | rfl | assumption | (simp only [rsD]; first | omega | assumption))) only [law47_few_L1, b1, di, dj, d5, q1, Nat.reduceAdd, Nat.reduceMul, Nat.reduceLT, Int.reduceToNat, Int.reduceAdd, Int.reduceSub, Int.reduceMul, rsU, rsC]
        exact Ok_some.2 (.inr rfl)
      have q1 := decide_eq_false e1
      by_cases e2 : (x.R.length : Int) > 20
      · have q2 := decide_eq_true e2
        simp (config := { maxSteps := 2000000 }) -implicitDefEqProofs (disch := (first | omega | rfl | assumption | (simp only [rsD]; first | omega | assumption))) only [law47_few_L1, b1, di, dj, d5, d6, q1, q2, Nat.reduceAdd, Nat.reduceMul, Nat.reduceLT, Int.reduceToNat, Int.reduceAdd, Int.reduceSub, Int.reduceMul, rsU, rsC]
        exact Ok_some.2 (.inr rfl)
      have q2 := decide_eq_false e2
      simp (config := { maxSteps := 2000000 }) -implicitDefEqProofs (disch := (first | omega | rfl | assumption | (simp only [rsD]; first | omega | assumption))) only [law47_few_L1, b1, di, dj, d5, d6, q1, q2, Nat.reduceAdd, Nat.reduceMul, Nat.reduceLT, Int.reduceToNat, Int.reduceAdd, Int.reduceSub, Int.reduceMul, rsU, rsC]
      refine Ok_some.2 ⟨by simp, fun j y hj hy => ?_⟩
      by_cases ej : j = k
      · subst ej; rw [hx] at hy; cases hy; exact ⟨by omega, by omega⟩
      · exact ih j y (by omega) hy
    · rintro st ⟨rfl, ih⟩
      by_cases e : F.nodes.length ≤ 20
      · have di := decide_eq_false (show ¬ ((min F.nodes.length 20 : Nat) : Int) < (F.nodes.length : Int) by omega)
        simp (config := { maxSteps := 2000000 }) -implicitDefEqProofs (disch := (first | omega | rfl | assumption | (simp only [rsD]; first | omega | assumption))) only [law47_few_L1, b1, di, Nat.reduceAdd, Nat.reduceMul, Nat.reduceLT, Int.reduceToNat, Int.reduceAdd, Int.reduceSub, Int.reduceMul, rsU, rsC]
        exact Ok_some.2 (.inl ⟨rfl, fun k x hk hx => ih k x (by have := (List.getElem?_eq_some_iff.1 hx).1; omega) hx⟩)
      · have di := decide_eq_true (show ((min F.nodes.length 20 : Nat) : Int) < (F.nodes.length : Int) by omega)
        have dj := decide_eq_false (show ¬ ((min F.nodes.length 20 : Nat) : Int) < 20 by omega)
        simp (config := { maxSteps := 2000000 }) -implicitDefEqProofs (disch := (first | omega | rfl | assumption | (simp only [rsD]; first | omega | assumption))) only [law47_few_L1, b1, di, dj, Nat.reduceAdd, Nat.reduceMul, Nat.reduceLT, Int.reduceToNat, Int.reduceAdd, Int.reduceSub, Int.reduceMul, rsU, rsC]
        exact Ok_some.2 (.inl ⟨rfl, fun k x hk hx => ih k x (by omega) hx⟩)
  · rintro _ (⟨e, ih⟩ | e)
    · cases e
      by_cases e1 : F.nodes.length ≤ 20
      · have q1 := decide_eq_true (show (F.nodes.length : Int) ≤ 20 by omega)
        by_cases e2 : F.roots.length ≤ 20
        · have q2 := decide_eq_true (show (F.roots.length : Int) ≤ 20 by omega)
          simp (config := { maxSteps := 2000000 }) -implicitDefEqProofs (disch := (first | omega | rfl | assumption | (simp only [rsD]; first | omega | assumption))) only [b1, q1, q2, Nat.reduceAdd, Nat.reduceMul, Nat.reduceLT, Int.reduceToNat, Int.reduceAdd, Int.reduceSub, Int.reduceMul, rsU, rsC]
          refine Ok_some.2 ⟨_, rfl, fun h => ⟨⟨by omega, fun x hx => ?_, by omega, by have := of_decide_eq_true h; omega⟩, e1⟩, E1⟩
          obtain ⟨k, hk, rfl⟩ := List.getElem_of_mem hx
          exact ih k _ (by omega) (List.getElem?_eq_getElem hk)
        · have q2 := decide_eq_false (show ¬ (F.roots.length : Int) ≤ 20 by omega)
          simp (config := { maxSteps := 2000000 }) -implicitDefEqProofs (disch := (first | omega | rfl | assumption | (simp only [rsD]; first | omega | assumption))) only [b1, q1, q2, Nat.reduceAdd, Nat.reduceMul, Nat.reduceLT, Int.reduceToNat, Int.reduceAdd, Int.reduceSub, Int.reduceMul, rsU, rsC]
          exact Ok_some.2 ⟨false, rfl, by simp, E1⟩
      · have q1 := decide_eq_false (show ¬ (F.nodes.length : Int) ≤ 20 by omega)
        simp (config := { maxSteps := 2000000 }) -implicitDefEqProofs (disch := (first | omega | rfl | assumption | (simp only [rsD]; first | omega | assumption))) only [b1, q1, Nat.reduceAdd, Nat.reduceMul, Nat.reduceLT, Int.reduceToNat, Int.reduceAdd, Int.reduceSub, Int.reduceMul, rsU, rsC]
        exact Ok_some.2 ⟨false, rfl, by simp, E1⟩
    · cases e
  · rintro _ (⟨e, ih⟩ | e)
    · cases e
    · cases e; exact ⟨false, rfl, by simp, E1⟩
end Go.Abs.Try
