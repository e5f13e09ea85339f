/-
  Changes are applied. No conditions.
-/
import Derived.Test.YteklninbijohcaaF11
set_option linter.unusedVariables false
set_option linter.unusedSimpArgs false
set_option linter.constructorNameAsVariable false
set_option linter.unusedSimpArgs false
set_option linter.unusedVariables false
set_option linter.unusedSectionVars false
set_option maxHeartbeats 1000000
namespace Go.Abs.Try
open Go Go.Abs
variable {O : Type}

def FV.zero : FV := ⟨[], [], []⟩
/-- what 'Apply' gives: the form, the change that failed and how -/
def appl : FV → Nat → List CV → FV × Int × Int
  | F, _, [] => (F, 0, 0)
  | F, n, c :: l => if (one F c).1 = 0 then appl (one F c).2 (n + 1) l else (FV.zero, n, (one F c).1)
/-- the form behind the first ones, if none failed -/
def upto : FV → List CV → Option FV
  | F, [] => some F
  | F, c :: l => if (one F c).1 = 0 then upto (one F c).2 l else none
theorem one_len (F : FV) (c : CV) (h : F.nodes.length ≤ 10000000) : (one F c).2.nodes.length ≤ 10000000 := by
  unfold one
  split
  · split
    · exact h
    · simp only [sized_len]; omega
  · split
    · exact h
    · split
      · exact h
      · split
        · exact h
        · split
          · exact h
          · split
            · exact h
            · split
              · simpa using h
              · split
                · exact h
                · split <;> simpa using h
/-- one change's cells, wherever it is read -/
theorem chg_at {a : SA} {l : List CV} (h : Chgs a l) {i : Nat} {c : CV} (hx : l[i]? = some c) : ∃ b o p q r, a = .loc b o 13 ∧ Ints .i64 p c.whole.P ∧ Ints .u64 q c.whole.R ∧ Ints .i64 r c.list ∧ ∀ (O : Type) (σ : AH O) (j : Nat), j < 13 → σ.ld b (o + i * 13 + j) = (c.cells p q r)[j]? := by
  obtain ⟨b, o, us, e, h1, h2⟩ := h.get hx
  obtain ⟨p, q, r, rfl, hp, hq, hr⟩ := CV.un h1
  exact ⟨b, o, p, q, r, e, hp, hq, hr, fun O σ j hj => h2 O σ j hj⟩
theorem apply_step {σ7 s σ : AH O} {base n : Nat} {F : FV} {a : SA} {l : List CV} {c : CV} (hl : Chgs a l) (hc : l[n]? = some c) (fc : c.few) (hn : l.length ≤ 100000000) (W : WF σ σ7.next base F) (hF : F.nodes.length ≤ 10000000) (hz : s.next + 1 < σ7.next) (bz : σ.blk (s.next + 1) = some (.cells true T_canon_Form [.sl .nil 0, .sl .nil 0, .sl .nil 0])) :
    Ok (diff_Apply_L1 (a, l.length) diff_one σ7 s ([.i .i64 (n : Int)], σ)) fun r => if (one F c).1 = 0 then ∃ σ', r = .inl ([.i .i64 ((n + 1 : Nat) : Int)], σ') ∧ WF σ' σ7.next base (one F c).2 ∧ Only σ σ' σ7.next base else ∃ σ', r = .inr (.inr (.tup [.agg [.sl .nil 0, .sl .nil 0, .sl .nil 0], .i .i64 (n : Int), .i .i64 (one F c).1], σ')) ∧ σ.next ≤ σ'.next ∧ ∀ y, y < σ7.next → y ≠ s.next + 1 → σ'.blk y = σ.blk y := by
  have hn' := (List.getElem?_eq_some_iff.1 hc).1
  obtain ⟨b, o, p, q, r, rfl, hp, hq, hr, ld⟩ := chg_at hl hc
  have hlt := W.lt
  have hle := W.le
  have di := decide_eq_true (show (n : Int) < (l.length : Int) by omega)
  have d0 := ld O (σ.bump 1) 0 (by decide)
  have d1 := ld O (σ.bump 1) 1 (by decide)
  have d2 := ld O (σ.bump 1) 2 (by decide)
  have d3 := ld O (σ.bump 1) 3 (by decide)
  have d4 := ld O (σ.bump 1) 4 (by decide)
  have d5 := ld O (σ.bump 1) 5 (by decide)
  have d6 := ld O (σ.bump 1) 6 (by decide)
  have d7 := ld O (σ.bump 1) 7 (by decide)
  have d8 := ld O (σ.bump 1) 8 (by decide)
  have d9 := ld O (σ.bump 1) 9 (by decide)
  have d10 := ld O (σ.bump 1) 10 (by decide)
  have d11 := ld O (σ.bump 1) 11 (by decide)
  have d12 := ld O (σ.bump 1) 12 (by decide)
  simp only [Nat.add_zero, CV.cells, List.getElem?_cons_zero, List.getElem?_cons_succ] at d0 d1 d2 d3 d4 d5 d6 d7 d8 d9 d10 d11 d12
  simp (config := { maxSteps := 2000000 }) -implicitDefEqProofs (disch := (first | omega | rfl | assumption | (simp only [rsD]; first | omega | assumption))) only [diff_Apply_L1, di, d0, d1, d2, d3, d4, d5, d6, d7, d8, d9, d10, d11, d12, Nat.reduceAdd, Nat.reduceMul, Nat.reduceLT, Int.reduceToNat, Int.reduceAdd, Int.reduceSub, Int.reduceMul, rsU, rsC]
  have W0 : WF ((σ.bump 1).put σ.next (.cells true T_diff_Change (c.cells p q r))) σ7.next base F := W.keep (by simp) (by ((try simp only [rsD] at *); simp -implicitDefEqProofs (disch := (first | omega | rfl | assumption | (simp only [rsD]; first | omega | assumption))) only [s_bs, s_bn, s_kn, bump_blk])) fun y h1 h2 => by ((try simp only [rsD] at *); simp -implicitDefEqProofs (disch := (first | omega | rfl | assumption | (simp only [rsD]; first | omega | assumption))) only [s_bs, s_bn, s_kn, bump_blk])
  refine Ok.step (one_ok W0 hF hp hq hr fc) fun r ⟨g1, g2, g3⟩ => ?_
  obtain ⟨z, σ2⟩ := r
  simp only at g1 g2 g3
  subst g1
  have o2 : ∀ y, y < base → y ≠ σ7.next → σ2.blk y = σ.blk y := fun y h1 h2 => (g3.o y h1 h2).trans (by ((try simp only [rsD] at *); simp -implicitDefEqProofs (disch := (first | omega | rfl | assumption | (simp only [rsD]; first | omega | assumption))) only [s_bs, s_bn, s_kn, bump_blk]))
  have n2 := g3.n
  simp only [rsD] at n2
  by_cases e : (one F c).1 = 0
  · have q0 := s_eqT e
    simp only [if_pos e]
    simp (config := { maxSteps := 2000000 }) -implicitDefEqProofs (disch := (first | omega | rfl | assumption | (simp only [rsD]; first | omega | assumption))) only [q0, Nat.reduceAdd, Nat.reduceMul, Nat.reduceLT, Int.reduceToNat, Int.reduceAdd, Int.reduceSub, Int.reduceMul, rsU, rsC]
    exact Ok_some.2 ⟨σ2, by simp, g2, by omega, o2⟩
  · have q0 := s_eqF e
    simp only [if_neg e]
    have bz2 := (o2 (s.next + 1) (by omega) (by omega)).trans bz
    simp (config := { maxSteps := 2000000 }) -implicitDefEqProofs (disch := (first | omega | rfl | assumption | (simp only [rsD]; first | omega | assumption))) only [q0, bz2, Nat.reduceAdd, Nat.reduceMul, Nat.reduceLT, Int.reduceToNat, Int.reduceAdd, Int.reduceSub, Int.reduceMul, rsU, rsC]
    refine Ok_some.2 ⟨_, rfl, by show σ.next ≤ σ2.next; omega, fun y h1 h2 => ?_⟩
    rw [s_bn h2]; exact o2 y (by omega) (by omega)
end Go.Abs.Try
