/-
  The law's example. No conditions.
-/
import Derived.Test.YteklninbijohcaaF15
import Derived.Test.YteklninbijohcaaN5
set_option linter.unusedVariables false
set_option linter.unusedSimpArgs false
set_option linter.constructorNameAsVariable false
set_option linter.unusedSimpArgs false
set_option linter.unusedVariables false
set_option linter.unusedSectionVars false
set_option maxHeartbeats 1000000
namespace Go.Abs.Try
open Go Go.Abs
variable {O : Type}

def aNode (x : Int) : NV := ⟨⟨0, 1, 0, 0, false⟩, [], [x]⟩
def aForm (x : Int) : FV := ⟨[aNode x], [1], []⟩
def aCells (x : Int) : List AV := (aNode x).cells .nil (.loc (.f [.i .u64 x]) 0 1)
def aVal (x : Int) : AV := .agg [.sl (.loc (.f (aCells x)) 0 7) 1, .sl (.loc (.f [.i .i64 1]) 0 1) 1, .sl .nil 0]
theorem aForm_at (x : Int) : (aForm x).At (aVal x) := by
  refine ⟨_, _, _, rfl, ⟨fun _ => rfl, aCells x, Imm.f rfl, ?_⟩, Ints.mk (Imm.f rfl), nil_ints _⟩
  show ImL ((aNode x).row ++ []) (aCells x)
  rw [List.append_nil]
  exact NV.mk_ (nil_ints _) (Ints.mk (Imm.f rfl))
theorem aForm_few (x : Int) : (aForm x).few := ⟨by simp [aForm], fun y hy => by simp [aForm] at hy; subst hy; exact ⟨by simp [aNode], by simp [aNode]⟩, by simp [aForm], by simp [aForm]⟩
/-- a form's slices in blocks of their own -/
structure Lit (s : AH O) (p : Nat) (x : Int) : Prop where
  r : s.blk p = some (.cells true T_uint64 [.i .u64 x])
  n : s.blk (p + 1) = some (.cells true T_canon_Node [.i .i64 0, .i .i64 1, .i .i64 0, .i .i64 0, .b false, .sl .nil 0, .sl (.loc (.n p) 0 1) 1])
  o : s.blk (p + 2) = some (.cells true 3 [.i .i64 1])
/-- the same, never written again -/
structure Sld (s : AH O) (p : Nat) (x : Int) : Prop where
  n : s.blk (p + 1) = some (.cells false T_canon_Node (aCells x))
  o : s.blk (p + 2) = some (.cells false 3 [.i .i64 1])
theorem Lit.frz {s : AH O} {p : Nat} {x : Int} (h : Lit s p x) : ∃ s', frzA 8 s (.agg [.sl (.loc (.n (p + 1)) 0 7) 1, .sl (.loc (.n (p + 2)) 0 1) 1, .sl .nil 0]) = some (aVal x, s') ∧ s'.next = s.next ∧ Sld s' p x ∧ ∀ b, b < p ∨ p + 2 < b → s'.blk b = s.blk b := by
  have h1 : frzA 6 (s.kill (p + 1)) (.sl (.loc (.n p) 0 1) 1) = some (.sl (.loc (.f [.i .u64 x]) 0 1) 1, ((s.kill (p + 1)).kill p).put p (.cells false T_uint64 [.i .u64 x])) :=
    frzA_sl (d := 5) (b := p) (n := 1) (el := T_uint64) (cs := [.i .u64 x]) (by decide) (by rw [s_kn (by omega)]; exact h.r) (Nat.le_refl 1) (frzL_flt rfl)
  have h2 : frzA 7 s (.sl (.loc (.n (p + 1)) 0 7) 1) = some (.sl (.loc (.f (aCells x)) 0 7) 1, (((s.kill (p + 1)).kill p).put p (.cells false T_uint64 [.i .u64 x])).put (p + 1) (.cells false T_canon_Node (aCells x))) :=
    frzA_sl (d := 6) (b := p + 1) (n := 1) (by decide) h.n (by simp) (frzL_step (frzA_flt rfl) <| frzL_step (frzA_flt rfl) <| frzL_step (frzA_flt rfl) <| frzL_step (frzA_flt rfl) <| frzL_step (frzA_flt rfl) <| frzL_step (frzA_flt rfl) <| frzL_step h1 rfl)
  refine ⟨_, frzA_agg (frzL_step h2 (frzL_step (frzA_sl (n := 1) (el := 3) (cs := [.i .i64 1]) (by decide) ?_ (by decide) (frzL_flt rfl)) (frzL_step (frzA_flt rfl) rfl))), rfl, ⟨?_, s_bs⟩, fun b hb => ?_⟩
  · rw [s_bn (by omega), s_bn (by omega), s_kn (by omega), s_kn (by omega)]; exact h.o
  · rw [s_bn (by omega), s_kn (by omega), s_bs]
  · rw [s_bn (by omega), s_kn (by omega), s_bn (by omega), s_bn (by omega), s_kn (by omega), s_kn (by omega)]
theorem Sld.frz {s : AH O} {p : Nat} {x : Int} (h : Sld s p x) : frzA 8 s (.agg [.sl (.loc (.n (p + 1)) 0 7) 1, .sl (.loc (.n (p + 2)) 0 1) 1, .sl .nil 0]) = some (aVal x, s) :=
  frzA_agg (frzL_step (frzA_slF (by decide) h.n (Nat.le_refl 7)) (frzL_step (frzA_slF (by decide) h.o (by decide)) (frzL_step (frzA_flt rfl) rfl)))
theorem awake_of : dOf (aForm 1) (aForm 2) = [⟨3, 1, 0, 0, 2, NV.zero, []⟩] := rfl
theorem awake_ok {σ : AH O} : Ok (law47_awake [] σ) fun r => r.1 = .b true ∧ Ext σ r.2 := by
  simp (config := { maxSteps := 2000000 }) -implicitDefEqProofs (disch := (first | omega | rfl | assumption | (simp only [rsD]; first | omega | assumption))) only [law47_awake, law47_awake_c, Nat.reduceAdd, Nat.reduceMul, Nat.reduceLT, Int.reduceToNat, Int.reduceAdd, Int.reduceSub, Int.reduceMul, rsU, rsC]
  simp only [Nat.add_assoc, Nat.reduceAdd]
  generalize hs : AH.put (AH.put _ _ _) (σ.next + 8) _ = s
  have n0 : s.next = σ.next + 9 := by rw [← hs]; rfl
  have lo : ∀ b, b < σ.next → s.blk b = σ.blk b := fun b hb => by rw [← hs]; ((try simp only [rsD] at *); simp -implicitDefEqProofs (disch := (first | omega | rfl | assumption | (simp only [rsD]; first | omega | assumption))) only [s_bs, s_bn, s_kn, bump_blk])
  have la : Lit s (σ.next + 1) 1 := by constructor <;> (rw [← hs]; ((try simp only [rsD] at *); simp -implicitDefEqProofs (disch := (first | omega | rfl | assumption | (simp only [rsD]; first | omega | assumption))) only [s_bs, s_bn, s_kn, bump_blk]))
  have lb : Lit s (σ.next + 5) 2 := by constructor <;> (rw [← hs]; ((try simp only [rsD] at *); simp -implicitDefEqProofs (disch := (first | omega | rfl | assumption | (simp only [rsD]; first | omega | assumption))) only [s_bs, s_bn, s_kn, bump_blk]))
  have bx : s.blk (σ.next + 4) = some (.cells true T_canon_Form [.sl (.loc (.n (σ.next + 1 + 1)) 0 7) 1, .sl (.loc (.n (σ.next + 1 + 2)) 0 1) 1, .sl .nil 0]) := by rw [← hs]; ((try simp only [rsD] at *); simp -implicitDefEqProofs (disch := (first | omega | rfl | assumption | (simp only [rsD]; first | omega | assumption))) only [s_bs, s_bn, s_kn, bump_blk])
  clear hs
  obtain ⟨s1, a1, a2, a3, a4⟩ := la.frz
  have lb1 : Lit s1 (σ.next + 5) 2 := ⟨by rw [a4 _ (by omega)]; exact lb.r, by rw [a4 _ (by omega)]; exact lb.n, by rw [a4 _ (by omega)]; exact lb.o⟩
  obtain ⟨s2, b1, b2, b3, b4⟩ := lb1.frz
  have a5 : Sld s2 (σ.next + 1) 1 := ⟨by rw [b4 _ (by omega)]; exact a3.n, by rw [b4 _ (by omega)]; exact a3.o⟩
  have bx2 : s2.blk (σ.next + 4) = some (.cells true T_canon_Form [.sl (.loc (.n (σ.next + 1 + 1)) 0 7) 1, .sl (.loc (.n (σ.next + 1 + 2)) 0 1) 1, .sl .nil 0]) := by rw [b4 _ (by omega), a4 _ (by omega)]; exact bx
  have f1 : fza (diff_Of (O := O)) [.agg [.sl (.loc (.n (σ.next + 2)) 0 7) 1, .sl (.loc (.n (σ.next + 3)) 0 1) 1, .sl .nil 0], .agg [.sl (.loc (.n (σ.next + 6)) 0 7) 1, .sl (.loc (.n (σ.next + 7)) 0 1) 1, .sl .nil 0]] s = diff_Of [aVal 1, aVal 2] s2 :=
    fza_eq (frzL_step a1 (frzL_step b1 rfl))
  rw [f1]
  refine Ok.step (of_ok (aForm_at 1) (aForm_at 2) (aForm_few 1) (aForm_few 2)) fun r ⟨⟨e, g1, g2⟩, g3⟩ => ?_
  obtain ⟨z, s3⟩ := r
  simp only at g1 g3
  subst g1
  rw [awake_of] at g2 ⊢
  obtain ⟨b, o, p, q, t, rfl, _, _, _, l3⟩ := chg_at g2 (i := 0) rfl
  have l30 := l3 O s3 0 (by decide)
  have l31 := l3 O s3 1 (by decide)
  have l34 := l3 O s3 4 (by decide)
  simp only [Nat.zero_mul, Nat.add_zero, CV.cells, List.getElem?_cons_zero, List.getElem?_cons_succ] at l30 l31 l34
  have n3 := g3.next
  have bx3 : s3.blk (σ.next + 4) = some (.cells true T_canon_Form [.sl (.loc (.n (σ.next + 1 + 1)) 0 7) 1, .sl (.loc (.n (σ.next + 1 + 2)) 0 1) 1, .sl .nil 0]) := by rw [g3.blk _ (by omega)]; exact bx2
  have a6 : Sld s3 (σ.next + 1) 1 := ⟨by rw [g3.blk _ (by omega)]; exact a5.n, by rw [g3.blk _ (by omega)]; exact a5.o⟩
  have t3 : ((1 : Nat) : Int) = 1 := rfl
  simp (config := { maxSteps := 2000000 }) -implicitDefEqProofs (disch := (first | omega | rfl | assumption | (simp only [rsD]; first | omega | assumption))) only [l30, l31, l34, bx3, t3, Nat.reduceAdd, Nat.reduceMul, Nat.reduceLT, Int.reduceToNat, Int.reduceAdd, Int.reduceSub, Int.reduceMul, rsU, rsC]
  have f2 : fza (diff_Of (O := O)) [.agg [.sl (.loc (.n (σ.next + 1 + 1)) 0 7) 1, .sl (.loc (.n (σ.next + 1 + 2)) 0 1) 1, .sl .nil 0], .agg [.sl (.loc (.n (σ.next + 1 + 1)) 0 7) 1, .sl (.loc (.n (σ.next + 1 + 2)) 0 1) 1, .sl .nil 0]] s3 = diff_Of [aVal 1, aVal 1] s3 :=
    fza_eq (frzL_step a6.frz (frzL_step a6.frz rfl))
  rw [f2]
  refine Ok.step (of_ok (aForm_at 1) (aForm_at 1) (aForm_few 1) (aForm_few 1)) fun r ⟨⟨e, h1, h2⟩, h3⟩ => ?_
  obtain ⟨z, s4⟩ := r
  simp only at h1 h3
  subst h1
  rw [dOf_self]
  simp (config := { maxSteps := 2000000 }) -implicitDefEqProofs (disch := (first | omega | rfl | assumption | (simp only [rsD]; first | omega | assumption))) only [Nat.reduceAdd, Nat.reduceMul, Nat.reduceLT, Int.reduceToNat, Int.reduceAdd, Int.reduceSub, Int.reduceMul, rsU, rsC]
  refine Ok_some.2 ⟨by rfl, ⟨by have := h3.next; show σ.next ≤ s4.next; omega, fun b hb => ?_⟩⟩
  show s4.blk b = _
  rw [h3.blk _ (by omega), g3.blk _ (by omega), b4 _ (by omega), a4 _ (by omega), lo b hb]
end Go.Abs.Try
