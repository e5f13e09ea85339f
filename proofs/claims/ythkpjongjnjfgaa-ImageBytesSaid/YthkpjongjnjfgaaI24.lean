/-
  The document's form of bytes. No conditions.
-/
import Derived.Test.YthkpjongjnjfgaaI20
import Derived.Test.YthkpjongjnjfgaaI16
import Derived.Test.YthkpjongjnjfgaaI6w
import Derived.Test.YthkpjongjnjfgaaI10
set_option linter.unusedVariables false
set_option linter.unusedSimpArgs false
set_option linter.constructorNameAsVariable false
set_option linter.unusedSimpArgs false
set_option linter.unusedVariables false
set_option maxHeartbeats 4000000
namespace Go.Abs.Try
open Go Go.Abs
variable {O : Type}
def u8s (bs : List Int) : List UInt8 := bs.map fun n => UInt8.ofNat n.toNat
theorem asBytes_ok : ∀ bs : List Int, asBytes (bs.map (AV.i .u8)) = some (u8s bs)
 | [] => rfl
 | b :: bs => by
  have := asBytes_ok bs
  simp only [List.map_cons, asBytes, this, Option.map_some]; rfl
end Go.Abs.Try
set_option linter.unusedSectionVars false
namespace Go.Abs.Try
open Go Go.Abs
variable {O : Type}
theorem same02 {J : AH O} {a b : SA} {l m : List Int} (ha : Ints .i64 a l) (hb : Ints .i64 b m) (hl : l.length <= 100000) (hm : m.length <= 100000) : Ok (haymowref02_Same [.sl a l.length, .sl b m.length] J) fun r => r = (.b (decide (l = m)), J) := by
 by_cases c : l.length = m.length
 ·have q0 : ((l.length : Int) == (m.length : Int)) = true := s_eqT (by omega)
  simp (maxSteps := 2000000) -implicitDefEqProofs (disch := (first | omega | rfl | assumption | (simp only [rsD]; first | omega | assumption))) only [haymowref02_Same, haymowref02_Same_c, q0, Nat.reduceAdd, Nat.reduceMul, Nat.reduceLT, Int.reduceToNat, Int.reduceAdd, Int.reduceSub, Int.reduceMul, rsU, rsC]
  refine Ok.bindS (Q := fun r => (l = m /\ r = .inl ([], J)) ∨ (l ≠ m /\ r = .inr (.b false, J))) ?_ ?_ ?_
  ·refine eq_loop c (fun k s => s = ([.i .i64 (k : Int)], J)) _ ?_ ?_ rfl
   ·rintro k s hk rfl
    obtain ⟨x, hx⟩ : ∃ x, l[k]? = some x := ⟨_, List.getElem?_eq_getElem hk⟩
    obtain ⟨y, hy⟩ : ∃ y, m[k]? = some y := ⟨_, List.getElem?_eq_getElem (by omega)⟩
    obtain ⟨b1, o1, rfl, l1⟩ := ha.at hx
    obtain ⟨b2, o2, rfl, l2⟩ := hb.at hy
    rw [hx, hy]
    by_cases e : x = y
    ·have q1 := s_eqT e
     simp (maxSteps := 2000000) -implicitDefEqProofs (disch := (first | omega | rfl | assumption | (simp only [rsD]; first | omega | assumption))) only [haymowref02_Same_L1, l1, l2, q1, Nat.reduceAdd, Nat.reduceMul, Nat.reduceLT, Int.reduceToNat, Int.reduceAdd, Int.reduceSub, Int.reduceMul, rsU, rsC]
     exact Ok_some.2 (by rw [if_pos (by rw [e])]; simp)
    ·have q1 := s_eqF e
     simp (maxSteps := 2000000) -implicitDefEqProofs (disch := (first | omega | rfl | assumption | (simp only [rsD]; first | omega | assumption))) only [haymowref02_Same_L1, l1, l2, q1, Nat.reduceAdd, Nat.reduceMul, Nat.reduceLT, Int.reduceToNat, Int.reduceAdd, Int.reduceSub, Int.reduceMul, rsU, rsC]
     exact Ok_some.2 (by rw [if_neg (by simp [e])]; exact fun h => .inr ⟨h, rfl⟩)
   ·rintro s rfl
    simp (maxSteps := 2000000) -implicitDefEqProofs (disch := (first | omega | rfl | assumption | (simp only [rsD]; first | omega | assumption))) only [haymowref02_Same_L1, Nat.reduceAdd, Nat.reduceMul, Nat.reduceLT, Int.reduceToNat, Int.reduceAdd, Int.reduceSub, Int.reduceMul, rsU, rsC]
    exact Ok_some.2 fun h => .inl ⟨h, rfl⟩
  ·rintro s (⟨e, hs⟩ | ⟨_, hs⟩)
   ·cases hs
    exact Ok_some.2 (by simp [e])
   ·cases hs
  ·rintro r (⟨_, hs⟩ | ⟨e, hs⟩)
   ·cases hs
   ·cases hs; simp [e]
 ·have q0 : ((l.length : Int) == (m.length : Int)) = false := s_eqF (by omega)
  simp (maxSteps := 2000000) -implicitDefEqProofs (disch := (first | omega | rfl | assumption | (simp only [rsD]; first | omega | assumption))) only [haymowref02_Same, haymowref02_Same_c, q0, Nat.reduceAdd, Nat.reduceMul, Nat.reduceLT, Int.reduceToNat, Int.reduceAdd, Int.reduceSub, Int.reduceMul, rsU, rsC]
  exact Ok_some.2 (by rw [decide_eq_false (fun e => c (by rw [e]))])
theorem same05 {J : AH O} {a b : SA} {l m : List Int} (ha : Ints .u64 a l) (hb : Ints .u64 b m) (hl : l.length <= 100000) (hm : m.length <= 100000) : Ok (haymowref05_Same [.sl a l.length, .sl b m.length] J) fun r => r = (.b (decide (l = m)), J) := by
 by_cases c : l.length = m.length
 ·have q0 : ((l.length : Int) == (m.length : Int)) = true := s_eqT (by omega)
  simp (maxSteps := 2000000) -implicitDefEqProofs (disch := (first | omega | rfl | assumption | (simp only [rsD]; first | omega | assumption))) only [haymowref05_Same, haymowref05_Same_c, q0, Nat.reduceAdd, Nat.reduceMul, Nat.reduceLT, Int.reduceToNat, Int.reduceAdd, Int.reduceSub, Int.reduceMul, rsU, rsC]
  refine Ok.bindS (Q := fun r => (l = m /\ r = .inl ([], J)) ∨ (l ≠ m /\ r = .inr (.b false, J))) ?_ ?_ ?_
  ·refine eq_loop c (fun k s => s = ([.i .i64 (k : Int)], J)) _ ?_ ?_ rfl
   ·rintro k s hk rfl
    obtain ⟨x, hx⟩ : ∃ x, l[k]? = some x := ⟨_, List.getElem?_eq_getElem hk⟩
    obtain ⟨y, hy⟩ : ∃ y, m[k]? = some y := ⟨_, List.getElem?_eq_getElem (by omega)⟩
    obtain ⟨b1, o1, rfl, l1⟩ := ha.at hx
    obtain ⟨b2, o2, rfl, l2⟩ := hb.at hy
    rw [hx, hy]
    by_cases e : x = y
    ·have q1 := s_eqT e
     simp (maxSteps := 2000000) -implicitDefEqProofs (disch := (first | omega | rfl | assumption | (simp only [rsD]; first | omega | assumption))) only [haymowref05_Same_L1, l1, l2, q1, Nat.reduceAdd, Nat.reduceMul, Nat.reduceLT, Int.reduceToNat, Int.reduceAdd, Int.reduceSub, Int.reduceMul, rsU, rsC]
     exact Ok_some.2 (by rw [if_pos (by rw [e])]; simp)
    ·have q1 := s_eqF e
     simp (maxSteps := 2000000) -implicitDefEqProofs (disch := (first | omega | rfl | assumption | (simp only [rsD]; first | omega | assumption))) only [haymowref05_Same_L1, l1, l2, q1, Nat.reduceAdd, Nat.reduceMul, Nat.reduceLT, Int.reduceToNat, Int.reduceAdd, Int.reduceSub, Int.reduceMul, rsU, rsC]
     exact Ok_some.2 (by rw [if_neg (by simp [e])]; exact fun h => .inr ⟨h, rfl⟩)
   ·rintro s rfl
    simp (maxSteps := 2000000) -implicitDefEqProofs (disch := (first | omega | rfl | assumption | (simp only [rsD]; first | omega | assumption))) only [haymowref05_Same_L1, Nat.reduceAdd, Nat.reduceMul, Nat.reduceLT, Int.reduceToNat, Int.reduceAdd, Int.reduceSub, Int.reduceMul, rsU, rsC]
    exact Ok_some.2 fun h => .inl ⟨h, rfl⟩
  ·rintro s (⟨e, hs⟩ | ⟨_, hs⟩)
   ·cases hs
    exact Ok_some.2 (by simp [e])
   ·cases hs
  ·rintro r (⟨_, hs⟩ | ⟨e, hs⟩)
   ·cases hs
   ·cases hs; simp [e]
 ·have q0 : ((l.length : Int) == (m.length : Int)) = false := s_eqF (by omega)
  simp (maxSteps := 2000000) -implicitDefEqProofs (disch := (first | omega | rfl | assumption | (simp only [rsD]; first | omega | assumption))) only [haymowref05_Same, haymowref05_Same_c, q0, Nat.reduceAdd, Nat.reduceMul, Nat.reduceLT, Int.reduceToNat, Int.reduceAdd, Int.reduceSub, Int.reduceMul, rsU, rsC]
  exact Ok_some.2 (by rw [decide_eq_false (fun e => c (by rw [e]))])
theorem hv_eq (x y : HV) : (((x.p == y.p) && (x.r == y.r)) && ((x.site == y.site) && ((x.age == y.age) && (x.large == y.large)))) = decide (x = y) := by
 cases x; cases y
 rw [Bool.eq_iff_iff]
 simp only [Bool.and_eq_true, beq_iff_eq, decide_eq_true_eq, HV.mk.injEq, and_assoc]
theorem is_ok {J : AH O} {F G : FV} {v w : AV} (hF : F.At v) (hG : G.At w) (fF : F.few) (fG : G.few) : Ok (law40_Is [v, w] J) fun r => r.1 = .b (decide (F = G)) /\ Ext J r.2 := by
 obtain ⟨a1, b1, c1, rfl, i1, i2, i3⟩ := hF.it
 obtain ⟨a2, b2, c2, rfl, j1, j2, j3⟩ := hG.it
 have fn := fF.n
 have gn := fG.n
 obtain ⟨fN, fR, fW⟩ := F
 obtain ⟨gN, gR, gW⟩ := G
 simp only at *
 by_cases e0 : fN.length = gN.length
 ·have q0 := s_eqT (show (fN.length : Int) = gN.length by omega)
  simp (maxSteps := 2000000) -implicitDefEqProofs (disch := (first | omega | rfl | assumption | (simp only [rsD]; first | omega | assumption))) only [law40_Is, law40_Is_c, q0, Nat.reduceAdd, Nat.reduceMul, Nat.reduceLT, Int.reduceToNat, Int.reduceAdd, Int.reduceSub, Int.reduceMul, rsU, rsC]
  refine Ok.step (same02 i2 j2 fF.r fG.r) fun r g => ?_
  subst g
  by_cases e1 : fR = gR
  ·have q1 := decide_eq_true e1
   simp (maxSteps := 2000000) -implicitDefEqProofs (disch := (first | omega | rfl | assumption | (simp only [rsD]; first | omega | assumption))) only [q1, Nat.reduceAdd, Nat.reduceMul, Nat.reduceLT, Int.reduceToNat, Int.reduceAdd, Int.reduceSub, Int.reduceMul, rsU, rsC]
   refine Ok.step (same02 i3 j3 fF.w fG.w) fun r g => ?_
   subst g
   by_cases e2 : fW = gW
   ·have q2 := decide_eq_true e2
    simp (maxSteps := 2000000) -implicitDefEqProofs (disch := (first | omega | rfl | assumption | (simp only [rsD]; first | omega | assumption))) only [q2, Nat.reduceAdd, Nat.reduceMul, Nat.reduceLT, Int.reduceToNat, Int.reduceAdd, Int.reduceSub, Int.reduceMul, rsU, rsC]
    generalize hs : AH.put (AH.put _ _ _) (J.next + 1) _ = s1
    have x0 : s1.blk J.next = some (.cells true T_canon_Form [.sl a1 fN.length, .sl b1 fR.length, .sl c1 fW.length]) := by rw [<- hs]; ((try simp only [rsD] at *); simp -implicitDefEqProofs (disch := (first | omega | rfl | assumption | (simp only [rsD]; first | omega | assumption))) only [s_bs, s_bn, s_kn, bump_blk])
    have x1 : s1.blk (J.next + 1) = some (.cells true T_haymowref40_Form [.sl a2 gN.length, .sl b2 gR.length, .sl c2 gW.length]) := by rw [<- hs]; ((try simp only [rsD] at *); simp -implicitDefEqProofs (disch := (first | omega | rfl | assumption | (simp only [rsD]; first | omega | assumption))) only [s_bs, s_bn, s_kn, bump_blk])
    have E : Ext J s1 := by rw [<- hs]; exact (ext_of (by (try simp only [rsD] at *); omega) (fun b hb => by (try simp only [rsD] at *); simp -implicitDefEqProofs (disch := (first | omega | rfl | assumption | (simp only [rsD]; first | omega | assumption))) only [s_bn, s_kn, bump_blk]))
    clear hs
    refine Ok.bindS (Q := fun r => (r = .inl ([], s1) /\ ∀ k, k < gN.length -> fN[k]? = gN[k]?) ∨ (fN ≠ gN /\ r = .inr (.b false, s1))) ?_ ?_ ?_
    ·refine Ok.count gN.length (fun k s => s = ([.i .i64 (k : Int)], s1) /\ ∀ j, j < k -> fN[j]? = gN[j]?) ?_ ?_ ⟨rfl, fun j h => by omega⟩
     ·rintro k s hk ⟨rfl, ih⟩
      obtain ⟨x, hx⟩ : ∃ x, fN[k]? = some x := ⟨_, List.getElem?_eq_getElem (by omega)⟩
      obtain ⟨y, hy⟩ : ∃ y, gN[k]? = some y := ⟨_, List.getElem?_eq_getElem hk⟩
      obtain ⟨u1, o1, p1, q1', rfl, hp1, hq1, l1⟩ := i1.node hx
      obtain ⟨u2, o2, p2, q2', rfl, hp2, hq2, l2⟩ := j1.node hy
      have fx := fF.x x (List.mem_of_getElem? hx)
      have fy := fG.x y (List.mem_of_getElem? hy)
      have q := hv_eq x.h y.h
      have bf : (false == false) = true := rfl
      have bt : (true == false) = false := rfl
      have no : x ≠ y -> fN ≠ gN := fun h e => h (by rw [e, hy] at hx; cases hx; rfl)
      by_cases h1 : x.h = y.h
      ·rw [decide_eq_true h1] at q
       simp (maxSteps := 2000000) -implicitDefEqProofs (disch := (first | omega | rfl | assumption | (simp only [rsD]; first | omega | assumption))) only [law40_Is_L1, x0, x1, l1, l2, q, bf, bt, Nat.reduceAdd, Nat.reduceMul, Nat.reduceLT, Int.reduceToNat, Int.reduceAdd, Int.reduceSub, Int.reduceMul, rsU, rsC]
       refine Ok.step (same02 hp1 hp2 fx.p fy.p) fun r g => ?_
       subst g
       by_cases h2 : x.P = y.P
       ·have d2 := decide_eq_true h2
        simp (maxSteps := 2000000) -implicitDefEqProofs (disch := (first | omega | rfl | assumption | (simp only [rsD]; first | omega | assumption))) only [x0, x1, l1, l2, d2, bf, bt, Nat.reduceAdd, Nat.reduceMul, Nat.reduceLT, Int.reduceToNat, Int.reduceAdd, Int.reduceSub, Int.reduceMul, rsU, rsC]
        refine Ok.step (same05 hq1 hq2 fx.r fy.r) fun r g => ?_
        subst g
        by_cases h3 : x.R = y.R
        ·have d3 := decide_eq_true h3
         simp (maxSteps := 2000000) -implicitDefEqProofs (disch := (first | omega | rfl | assumption | (simp only [rsD]; first | omega | assumption))) only [d3, Nat.reduceAdd, Nat.reduceMul, Nat.reduceLT, Int.reduceToNat, Int.reduceAdd, Int.reduceSub, Int.reduceMul, rsU, rsC]
         refine Ok_some.2 ⟨by simp, fun j hj => ?_⟩
         by_cases ej : j = k
         ·subst ej; rw [hx, hy]; obtain ⟨xh, xP, xR⟩ := x; obtain ⟨yh, yP, yR⟩ := y; simp only at h1 h2 h3; rw [h1, h2, h3]
         ·exact ih j (by omega)
        ·have d3 := decide_eq_false h3
         simp (maxSteps := 2000000) -implicitDefEqProofs (disch := (first | omega | rfl | assumption | (simp only [rsD]; first | omega | assumption))) only [d3, Nat.reduceAdd, Nat.reduceMul, Nat.reduceLT, Int.reduceToNat, Int.reduceAdd, Int.reduceSub, Int.reduceMul, rsU, rsC]
         exact Ok_some.2 (.inr ⟨no fun e => h3 (by rw [e]), rfl⟩)
       ·have d2 := decide_eq_false h2
        simp (maxSteps := 2000000) -implicitDefEqProofs (disch := (first | omega | rfl | assumption | (simp only [rsD]; first | omega | assumption))) only [d2, bf, bt, Nat.reduceAdd, Nat.reduceMul, Nat.reduceLT, Int.reduceToNat, Int.reduceAdd, Int.reduceSub, Int.reduceMul, rsU, rsC]
        exact Ok_some.2 (.inr ⟨no fun e => h2 (by rw [e]), rfl⟩)
      ·rw [decide_eq_false h1] at q
       simp (maxSteps := 2000000) -implicitDefEqProofs (disch := (first | omega | rfl | assumption | (simp only [rsD]; first | omega | assumption))) only [law40_Is_L1, x0, x1, l1, l2, q, bf, bt, Nat.reduceAdd, Nat.reduceMul, Nat.reduceLT, Int.reduceToNat, Int.reduceAdd, Int.reduceSub, Int.reduceMul, rsU, rsC]
       exact Ok_some.2 (.inr ⟨no fun e => h1 (by rw [e]), rfl⟩)
     ·rintro s ⟨rfl, ih⟩
      simp (maxSteps := 2000000) -implicitDefEqProofs (disch := (first | omega | rfl | assumption | (simp only [rsD]; first | omega | assumption))) only [law40_Is_L1, x0, x1, Nat.reduceAdd, Nat.reduceMul, Nat.reduceLT, Int.reduceToNat, Int.reduceAdd, Int.reduceSub, Int.reduceMul, rsU, rsC]
      exact Ok_some.2 (.inl ⟨rfl, ih⟩)
    ·rintro _ (⟨e, ih⟩ | ⟨_, e⟩)
     ·cases e
      have e3 : fN = gN := List.ext_getElem? fun k => by
       by_cases c : k < gN.length
       ·exact ih k c
       ·rw [List.getElem?_eq_none (by omega), List.getElem?_eq_none (by omega)]
      exact Ok_some.2 ⟨by simp [e1, e2, e3], E⟩
     ·cases e
    ·rintro _ (⟨e, ih⟩ | ⟨no, e⟩)
     ·cases e
     ·cases e; exact ⟨by simp [no], E⟩
   ·have q2 := decide_eq_false e2
    simp (maxSteps := 2000000) -implicitDefEqProofs (disch := (first | omega | rfl | assumption | (simp only [rsD]; first | omega | assumption))) only [q2, Nat.reduceAdd, Nat.reduceMul, Nat.reduceLT, Int.reduceToNat, Int.reduceAdd, Int.reduceSub, Int.reduceMul, rsU, rsC]
    exact Ok_some.2 ⟨by simp [e2], (ext_of (by (try simp only [rsD] at *); omega) (fun b hb => by (try simp only [rsD] at *); simp -implicitDefEqProofs (disch := (first | omega | rfl | assumption | (simp only [rsD]; first | omega | assumption))) only [s_bn, s_kn, bump_blk]))⟩
  ·have q1 := decide_eq_false e1
   simp (maxSteps := 2000000) -implicitDefEqProofs (disch := (first | omega | rfl | assumption | (simp only [rsD]; first | omega | assumption))) only [q1, Nat.reduceAdd, Nat.reduceMul, Nat.reduceLT, Int.reduceToNat, Int.reduceAdd, Int.reduceSub, Int.reduceMul, rsU, rsC]
   exact Ok_some.2 ⟨by simp [e1], (ext_of (by (try simp only [rsD] at *); omega) (fun b hb => by (try simp only [rsD] at *); simp -implicitDefEqProofs (disch := (first | omega | rfl | assumption | (simp only [rsD]; first | omega | assumption))) only [s_bn, s_kn, bump_blk]))⟩
 ·have q0 := s_eqF (show ¬ (fN.length : Int) = gN.length by omega)
  simp (maxSteps := 2000000) -implicitDefEqProofs (disch := (first | omega | rfl | assumption | (simp only [rsD]; first | omega | assumption))) only [law40_Is, law40_Is_c, q0, Nat.reduceAdd, Nat.reduceMul, Nat.reduceLT, Int.reduceToNat, Int.reduceAdd, Int.reduceSub, Int.reduceMul, rsU, rsC]
  exact Ok_some.2 ⟨by rw [decide_eq_false (fun e => by cases e; exact e0 rfl)], (ext_of (by (try simp only [rsD] at *); omega) (fun b hb => by (try simp only [rsD] at *); simp -implicitDefEqProofs (disch := (first | omega | rfl | assumption | (simp only [rsD]; first | omega | assumption))) only [s_bn, s_kn, bump_blk]))⟩
end Go.Abs.Try
namespace Go.Abs.Try
open Go Go.Abs
variable {O : Type}
theorem flat_le {l : List NV} {x : NV} (hx : x ∈ l) : l.length <= (l.flatMap (nodeW pck)).length /\ x.P.length + x.R.length <= (l.flatMap (nodeW pck)).length := by
 induction l with
 | nil => cases hx
 | cons y l ih =>
  rw [List.flatMap_cons, List.length_append, List.length_cons]
  have hl : l.length <= (l.flatMap (nodeW pck)).length := by
   clear ih hx
   induction l with
   | nil => simp
   | cons z l ih =>
    rw [List.flatMap_cons, List.length_append, List.length_cons]
    have : 1 <= (nodeW pck z).length := by unfold nodeW; simp
    omega
  have h1 : (nodeW pck y).length = 1 + y.P.length + y.R.length := by unfold nodeW; simp; omega
  refine ⟨by omega, ?_⟩
  rcases List.mem_cons.1 hx with rfl | hx
  ·omega
  ·have := (ih hx).2; omega
theorem few_words {F : FV} {n : Nat} (h : (wordsW pck F).length <= n) (hn : n <= 100000) : F.few := by
 have e : (wordsW pck F).length = 1 + ((F.nodes.flatMap (nodeW pck)).length + ((F.roots.length + 1) + (F.weak.length + 1))) := by
  unfold wordsW listW
  simp; omega
 refine ⟨?_, fun x hx => ?_, by omega, by omega⟩
 ·cases hN : F.nodes with
  | nil => simp
  | cons y l =>
   have := (flat_le (l := F.nodes) (x := y) (by rw [hN]; exact List.mem_cons_self)).1
   rw [hN] at this e
   omega
 ·have := (flat_le hx).2
  exact ⟨by omega, by omega⟩
theorem put_zero : putW zeroF = [0, 0, 0, 0, 0, 0, 0, 0, 0, 0, 0] := by decide +kernel
theorem get_zero : getI [0, 0, 0, 0, 0, 0, 0, 0, 0, 0, 0] = (zeroF, 0) := by decide +kernel
theorem zero_at : zeroF.At (.agg [.sl .nil 0, .sl .nil 0, .sl .nil 0]) := ⟨.nil, .nil, .nil, rfl, Row.nil NV.len, Row.nil (int1_len _), Row.nil (int1_len _)⟩
theorem zero_few : zeroF.few := ⟨by decide, (fun x hx => by cases hx), by decide, by decide⟩
theorem awake_ok (J : AH O) : Ok (law41_awake [] J) fun r => r.1 = .b true /\ Ext J r.2 := by
 have t1 : (true == true) = true := rfl
 simp (maxSteps := 2000000) -implicitDefEqProofs (disch := (first | omega | rfl | assumption | (simp only [rsD]; first | omega | assumption))) only [law41_awake, law41_awake_c, Nat.reduceAdd, Nat.reduceMul, Nat.reduceLT, Int.reduceToNat, Int.reduceAdd, Int.reduceSub, Int.reduceMul, rsU, rsC]
 refine Ok.step (put_form_ok zero_at zero_few (fun x hx => by cases hx) (by decide)) fun q ⟨⟨a, g1, i1⟩, E1⟩ => ?_
 obtain ⟨q, J1⟩ := q
 simp only at g1 E1
 rw [put_zero] at g1 i1
 subst g1
 have n1 := E1.next
 obtain ⟨r1, o1⟩ := imm_lt (J := J1.bump 1) i1
 simp (maxSteps := 2000000) -implicitDefEqProofs (disch := (first | omega | rfl | assumption | (simp only [rsD]; first | omega | assumption))) only [Nat.reduceAdd, Nat.reduceMul, Nat.reduceLT, Int.reduceToNat, Int.reduceAdd, Int.reduceSub, Int.reduceMul, rsU, rsC]
 refine Ok.step (get_form_ok r1 o1 (by unfold Bytes; decide) (by decide)) fun q ⟨⟨v, g2, hv⟩, E2⟩ => ?_
 obtain ⟨q, J2⟩ := q
 simp only at g2 E2
 rw [get_zero] at g2 hv
 subst g2
 have n2 := E2.next
 simp only [bump_next] at n2
 have hvv := hv
 obtain ⟨xa, xb, xc, rfl, _, _, _⟩ := hvv.it
 have E02 : Ext J J2 := (E1.bump 1).trans E2
 have rB : ∀ {x : Blk O}, (J2.put J1.next x).rdSl a 11 1 = some (([0, 0, 0, 0, 0, 0, 0, 0, 0, 0, 0] : List Int).map (AV.i .u8)) := fun {x} => (i1 O _).rdSl
 have hq : (u8s [0, 0, 0, 0, 0, 0, 0, 0, 0, 0, 0] == [0, 0, 0, 0, 0, 0, 0, 0, 0, 0, 0]) = true := by decide
 simp (maxSteps := 2000000) -implicitDefEqProofs (disch := (first | omega | rfl | assumption | (simp only [rsD]; first | omega | assumption))) only [rB, asBytes_ok, hq, t1, Nat.reduceAdd, Nat.reduceMul, Nat.reduceLT, Int.reduceToNat, Int.reduceAdd, Int.reduceSub, Int.reduceMul, rsU, rsC]
 have E03 : ∀ {x : Blk O}, Ext J (J2.put J1.next x) := fun {x} => E02.put (by omega) _
 refine Ok.step (is_ok hv zero_at zero_few zero_few) fun q ⟨g3, E4⟩ => ?_
 obtain ⟨q, J4⟩ := q
 simp only at g3 E4
 rw [decide_eq_true trivial] at g3
 subst g3
 simp (maxSteps := 2000000) -implicitDefEqProofs (disch := (first | omega | rfl | assumption | (simp only [rsD]; first | omega | assumption))) only [Nat.reduceAdd, Nat.reduceMul, Nat.reduceLT, Int.reduceToNat, Int.reduceAdd, Int.reduceSub, Int.reduceMul, rsU, rsC]
 exact Ok_some.2 ⟨rfl, E03.trans E4⟩
end Go.Abs.Try
