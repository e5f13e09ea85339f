/-
  Which forms may be, which are alike, the young form, what is charged: the law CanonRights. No conditions.
-/
import Derived.Test.YtnbichnjfamdkaaGreatAbsIn
import Derived.Test.YtnbichnjfamdkaaGreatC1
import Derived.Test.YtnbichnjfamdkaaGreatC9
import Derived.Test.YtnbichnjfamdkaaGreatM12
import Derived.Test.YtnbichnjfamdkaaGreatT3
import Derived.Test.YtnbichnjfamdkaaGreatS11a
set_option linter.unusedVariables false
set_option linter.unusedSimpArgs false
set_option linter.constructorNameAsVariable false
set_option linter.unusedSimpArgs false
set_option linter.unusedVariables false
set_option maxHeartbeats 2000000
namespace Go.Abs.Tryz
open Go Go.Abs
variable {O : Type}
structure Tried40 (F : FV) : Prop where
 n : F.nodes.length ≤ 20
 x : ∀ x ∈ F.nodes, x.P.length ≤ 20 ∧ x.R.length ≤ 20
 r : F.roots.length ≤ 20
 w : F.weak.length ≤ 20
theorem few40_ok {σ : AH O} {F : FV} {v : AV} (hF : F.At v) : Ok (law40_few [v] σ) fun r => (r.1 = .b false ∨ r.1 = .b true ∧ Tried40 F) ∧ Ext σ r.2 := by
 obtain ⟨a, b, c, rfl, h1, h2, h3⟩ := hF.it
 unfold law40_few law40_few_c
 refine Ok.cT rfl ?_
 refine Ok.to (x := [.sl a F.nodes.length, .sl b F.roots.length, .sl c F.weak.length]) rfl ?_
 refine Ok.to (x := (a, F.nodes.length)) rfl ?_
 refine Ok.to (x := (b, F.roots.length)) rfl ?_
 refine Ok.to (x := (c, F.weak.length)) rfl ?_
 obtain ⟨σ1, hσ1⟩ : ∃ s, (σ.bump 1).put σ.next (.cells true 25 [.sl a F.nodes.length, .sl b F.roots.length, .sl c F.weak.length]) = s := ⟨_, rfl⟩
 have b1 : σ1.blk σ.next = some (.cells true 25 [.sl a F.nodes.length, .sl b F.roots.length, .sl c F.weak.length]) := by rw [← hσ1]; exact s_bs
 have E1 : Ext σ σ1 := by rw [← hσ1]; exact ((Ext.refl σ).bump 1).put (Nat.le_refl _) _
 show Ok (bindS (loopF _ (_, (σ.bump 1).put σ.next (.cells true 25 [.sl a F.nodes.length, .sl b F.roots.length, .sl c F.weak.length]))) _) _
 rw [hσ1]
 clear hσ1
 refine Ok.bindS (Q := fun r => match r with
   | .inl s => s = ([], σ1) ∧ ∀ j, j < 20 → ∀ x, F.nodes[j]? = some x → x.P.length ≤ 20 ∧ x.R.length ≤ 20
   | .inr r => r = (.b false, σ1)) ?_ (fun s hs => ?_) (fun r hr => by rw [hr]; exact ⟨.inl rfl, E1⟩)
 ·refine Ok.count (min F.nodes.length 20) (fun k s => s = ([.i .i64 (k : Int)], σ1) ∧ ∀ j, j < k → ∀ x, F.nodes[j]? = some x → x.P.length ≤ 20 ∧ x.R.length ≤ 20) ?_ ?_ ⟨rfl, fun j hj => by omega⟩
  ·rintro k _ hk ⟨rfl, hI⟩
   have hkl : k < F.nodes.length := by omega
   have hx := List.getElem?_eq_getElem hkl
   obtain ⟨bb, oo, cc, dd, ea, ic, id, hld⟩ := Row.node h1 hx
   have hld := hld O σ1
   generalize F.nodes[k] = x at *
   have dk : decide ((k : Int) < (F.nodes.length : Int)) = true := decide_eq_true (by omega)
   have d20 : decide ((k : Int) < 20) = true := decide_eq_true (by omega)
   have d0 : decide ((0 : Int) ≤ (k : Int)) = true := decide_eq_true (by omega)
   have e1 : IntKind.i64.wrap ((k : Int) + 1) = ((k + 1 : Nat) : Int) := by rw [i64_id (by omega) (by omega)]; omega
   refine Ok.to (x := (k : Int)) rfl ?_
   refine Ok.to (x := .sl a F.nodes.length) (by simp -implicitDefEqProofs only [b1, Nat.reduceAdd, Nat.reduceMul, Nat.reduceLT, Int.reduceToNat, Int.reduceAdd, Int.reduceSub, Int.reduceMul, rsU, s_ldI, s_ldU, s_ldS, s_ldP, s_gtI, s_gtU, s_gtS, s_bleD, Nat.reduceLeDiff, decide_true, decide_false]) (Ok.to (x := (a, F.nodes.length)) rfl ?_)
   refine Ok.step (Q := fun r => r = ([.b true], σ1)) ?_ ?_
   ·exact Ok.cT (by rw [dk]; rfl) (Ok_some.2 (by rw [d20]))
   rintro _ rfl
   refine Ok.to (x := true) rfl ?_
   refine Ok.cT rfl ?_
   refine Ok.to (x := .sl a F.nodes.length) (by simp -implicitDefEqProofs only [b1, Nat.reduceAdd, Nat.reduceMul, Nat.reduceLT, Int.reduceToNat, Int.reduceAdd, Int.reduceSub, Int.reduceMul, rsU, s_ldI, s_ldU, s_ldS, s_ldP, s_gtI, s_gtU, s_gtS, s_bleD, Nat.reduceLeDiff, decide_true, decide_false]) (Ok.to (x := (a, F.nodes.length)) rfl ?_)
   refine Ok.cT (by rw [d0, dk]; rfl) ?_
   refine Ok.to (x := (bb, oo)) (by rw [ea]; rfl) ?_
   refine Ok.to (x := .sl cc x.P.length) hld.2.2.2.2.2.1 (Ok.to (x := (cc, x.P.length)) rfl ?_)
   refine Ok.step (Q := fun r => r = ([.b (decide ((x.P.length : Int) > 20) || decide ((x.R.length : Int) > 20))], σ1)) ?_ ?_
   ·cases hd : decide ((x.P.length : Int) > 20) with
    | true => exact Ok.cF rfl (Ok_some.2 rfl)
    | false =>
     refine Ok.cT rfl ?_
     refine Ok.to (x := .sl a F.nodes.length) (by simp -implicitDefEqProofs only [b1, Nat.reduceAdd, Nat.reduceMul, Nat.reduceLT, Int.reduceToNat, Int.reduceAdd, Int.reduceSub, Int.reduceMul, rsU, s_ldI, s_ldU, s_ldS, s_ldP, s_gtI, s_gtU, s_gtS, s_bleD, Nat.reduceLeDiff, decide_true, decide_false]) (Ok.to (x := (a, F.nodes.length)) rfl ?_)
     refine Ok.cT (by rw [d0, dk]; rfl) ?_
     refine Ok.to (x := (bb, oo)) (by rw [ea]; rfl) ?_
     refine Ok.to (x := .sl dd x.R.length) hld.2.2.2.2.2.2 (Ok.to (x := (dd, x.R.length)) rfl ?_)
     exact Ok_some.2 rfl
   rintro _ rfl
   refine Ok.to (x := (decide ((x.P.length : Int) > 20) || decide ((x.R.length : Int) > 20))) rfl ?_
   cases hd : (decide ((x.P.length : Int) > 20) || decide ((x.R.length : Int) > 20)) with
   | true => exact Ok.cT rfl (Ok_some.2 rfl)
   | false =>
    refine Ok.cF rfl (Ok_some.2 ⟨by rw [e1], fun j hj y hy => ?_⟩)
    rw [Bool.or_eq_false_iff, decide_eq_false_iff_not, decide_eq_false_iff_not] at hd
    by_cases e : j = k
    ·subst e
     rw [hx] at hy; cases hy; omega
    ·exact hI j (by omega) y hy
  ·rintro _ ⟨rfl, hI⟩
   have fin : ([], σ1) = (([], σ1) : List AV × AH O) ∧ ∀ j, j < 20 → ∀ x, F.nodes[j]? = some x → x.P.length ≤ 20 ∧ x.R.length ≤ 20 := ⟨rfl, fun j hj x hx => hI j (by have := (List.getElem?_eq_some_iff.1 hx).1; omega) x hx⟩
   refine Ok.to (x := ((min F.nodes.length 20 : Nat) : Int)) rfl ?_
   refine Ok.to (x := .sl a F.nodes.length) (by simp -implicitDefEqProofs only [b1, Nat.reduceAdd, Nat.reduceMul, Nat.reduceLT, Int.reduceToNat, Int.reduceAdd, Int.reduceSub, Int.reduceMul, rsU, s_ldI, s_ldU, s_ldS, s_ldP, s_gtI, s_gtU, s_gtS, s_bleD, Nat.reduceLeDiff, decide_true, decide_false]) (Ok.to (x := (a, F.nodes.length)) rfl ?_)
   refine Ok.step (Q := fun r => r = ([.b false], σ1)) ?_ ?_
   ·by_cases c : F.nodes.length ≤ 20
    ·exact Ok.cF (by rw [decide_eq_false (show ¬ ((min F.nodes.length 20 : Nat) : Int) < (F.nodes.length : Int) by omega)]; rfl) (Ok_some.2 rfl)
    ·exact Ok.cT (by rw [decide_eq_true (show ((min F.nodes.length 20 : Nat) : Int) < (F.nodes.length : Int) by omega)]; rfl) (Ok_some.2 (by rw [decide_eq_false (show ¬ ((min F.nodes.length 20 : Nat) : Int) < 20 by omega)]))
   rintro _ rfl
   refine Ok.to (x := false) rfl ?_
   exact Ok.cF rfl (Ok_some.2 fin)
 ·obtain ⟨rfl, hI⟩ := hs
  refine Ok.to (x := .sl a F.nodes.length) (by simp -implicitDefEqProofs only [b1, Nat.reduceAdd, Nat.reduceMul, Nat.reduceLT, Int.reduceToNat, Int.reduceAdd, Int.reduceSub, Int.reduceMul, rsU, s_ldI, s_ldU, s_ldS, s_ldP, s_gtI, s_gtU, s_gtS, s_bleD, Nat.reduceLeDiff, decide_true, decide_false]) (Ok.to (x := (a, F.nodes.length)) rfl ?_)
  refine Ok.step (Q := fun r => r = ([.b (decide ((F.nodes.length : Int) ≤ 20) && decide ((F.roots.length : Int) ≤ 20))], σ1)) ?_ ?_
  ·cases hd : decide ((F.nodes.length : Int) ≤ 20) with
   | false => exact Ok.cF rfl (Ok_some.2 rfl)
   | true =>
    refine Ok.cT rfl ?_
    refine Ok.to (x := .sl b F.roots.length) (by simp -implicitDefEqProofs only [b1, Nat.reduceAdd, Nat.reduceMul, Nat.reduceLT, Int.reduceToNat, Int.reduceAdd, Int.reduceSub, Int.reduceMul, rsU, s_ldI, s_ldU, s_ldS, s_ldP, s_gtI, s_gtU, s_gtS, s_bleD, Nat.reduceLeDiff, decide_true, decide_false]) (Ok.to (x := (b, F.roots.length)) rfl ?_)
    exact Ok_some.2 rfl
  rintro _ rfl
  refine Ok.to (x := (decide ((F.nodes.length : Int) ≤ 20) && decide ((F.roots.length : Int) ≤ 20))) rfl ?_
  generalize hd : (decide ((F.nodes.length : Int) ≤ 20) && decide ((F.roots.length : Int) ≤ 20)) = d at *
  refine Ok.step (Q := fun r => r = ([.b (d && decide ((F.weak.length : Int) ≤ 20))], σ1)) ?_ ?_
  ·cases d with
   | false => exact Ok.cF rfl (Ok_some.2 rfl)
   | true =>
    refine Ok.cT rfl ?_
    refine Ok.to (x := .sl c F.weak.length) (by simp -implicitDefEqProofs only [b1, Nat.reduceAdd, Nat.reduceMul, Nat.reduceLT, Int.reduceToNat, Int.reduceAdd, Int.reduceSub, Int.reduceMul, rsU, s_ldI, s_ldU, s_ldS, s_ldP, s_gtI, s_gtU, s_gtS, s_bleD, Nat.reduceLeDiff, decide_true, decide_false]) (Ok.to (x := (c, F.weak.length)) rfl ?_)
    exact Ok_some.2 rfl
  rintro _ rfl
  refine Ok.to (x := (d && decide ((F.weak.length : Int) ≤ 20))) rfl (Ok_some.2 ⟨?_, E1⟩)
  cases hb : (d && decide ((F.weak.length : Int) ≤ 20)) with
  | false => exact .inl rfl
  | true =>
   refine .inr ⟨rfl, ?_⟩
   rw [← hd, Bool.and_eq_true, Bool.and_eq_true, decide_eq_true_eq, decide_eq_true_eq, decide_eq_true_eq] at hb
   exact ⟨by omega, fun x hx => by
    obtain ⟨j, hj, rfl⟩ := List.getElem_of_mem hx
    exact hI j (by omega) _ (List.getElem?_eq_getElem hj), by omega, by omega⟩
theorem Tried40.few {F : FV} (h : Tried40 F) : F.few := ⟨by have := h.n; omega, fun x hx => ⟨by have := (h.x x hx).1; omega, by have := (h.x x hx).2; omega⟩, by have := h.r; omega, by have := h.w; omega⟩
theorem young_few {F : FV} (h : Tried40 F) : (youngP F).few := by
 refine ⟨by have := h.n; simp [youngP]; omega, fun x hx => ?_, by have := h.r; show F.roots.length ≤ _; omega, Nat.le_trans (List.length_filter_le _ _) (by have := h.w; omega)⟩
 obtain ⟨y, hy, rfl⟩ := List.mem_map.1 hx
 exact ⟨by have := (h.x y hy).1; show y.P.length ≤ _; omega, by have := (h.x y hy).2; show y.R.length ≤ _; omega⟩
theorem canonRights_ok {F G : FV} {v w : AV} {s : Int} (hF : F.At v) (hG : G.At w) : Ok (law40_CanonRights (O := Unit) [v, w, .i .i64 s] startH) fun r => r.1 = .b true := by
 have hF0 := hF
 have hG0 := hG
 obtain ⟨a, b, c, rfl, i1, i2, i3⟩ := hF.it
 obtain ⟨d, e, f, rfl, j1, j2, j3⟩ := hG.it
 unfold law40_CanonRights law40_CanonRights_c
 refine Ok.cT rfl ?_
 refine Ok.to (x := [.sl a F.nodes.length, .sl b F.roots.length, .sl c F.weak.length]) rfl ?_
 refine Ok.to (x := (a, F.nodes.length)) rfl ?_
 refine Ok.to (x := (b, F.roots.length)) rfl ?_
 refine Ok.to (x := (c, F.weak.length)) rfl ?_
 refine Ok.to (x := [.sl d G.nodes.length, .sl e G.roots.length, .sl f G.weak.length]) rfl ?_
 refine Ok.to (x := (d, G.nodes.length)) rfl ?_
 refine Ok.to (x := (e, G.roots.length)) rfl ?_
 refine Ok.to (x := (f, G.weak.length)) rfl ?_
 refine Ok.to (x := s) rfl ?_
 refine Ok.step (awake40 a b c d e f _ _ _ _ _ _) ?_
 rintro ⟨v, σ1⟩ ⟨v1, p1, q1, n1⟩
 simp only at v1 p1 q1 n1
 subst v1
 have s0 : (startH : AH Unit).next = 0 := rfl
 refine Ok.to (x := true) rfl ?_
 refine Ok.cF rfl ?_
 refine Ok.to (x := .sl a F.nodes.length) (by simp -implicitDefEqProofs only [s0, p1, Nat.reduceAdd, Nat.reduceMul, Nat.reduceLT, Int.reduceToNat, Int.reduceAdd, Int.reduceSub, Int.reduceMul, rsU, s_ldI, s_ldU, s_ldS, s_ldP, s_gtI, s_gtU, s_gtS, s_bleD, Nat.reduceLeDiff, decide_true, decide_false]) (Ok.to (x := (a, F.nodes.length)) rfl ?_)
 refine Ok.to (x := .sl b F.roots.length) (by simp -implicitDefEqProofs only [s0, p1, Nat.reduceAdd, Nat.reduceMul, Nat.reduceLT, Int.reduceToNat, Int.reduceAdd, Int.reduceSub, Int.reduceMul, rsU, s_ldI, s_ldU, s_ldS, s_ldP, s_gtI, s_gtU, s_gtS, s_bleD, Nat.reduceLeDiff, decide_true, decide_false]) (Ok.to (x := (b, F.roots.length)) rfl ?_)
 refine Ok.to (x := .sl c F.weak.length) (by simp -implicitDefEqProofs only [s0, p1, Nat.reduceAdd, Nat.reduceMul, Nat.reduceLT, Int.reduceToNat, Int.reduceAdd, Int.reduceSub, Int.reduceMul, rsU, s_ldI, s_ldU, s_ldS, s_ldP, s_gtI, s_gtU, s_gtS, s_bleD, Nat.reduceLeDiff, decide_true, decide_false]) (Ok.to (x := (c, F.weak.length)) rfl ?_)
 refine Ok.step (few40_ok hF0) ?_
 rintro ⟨v, σ2⟩ ⟨v1, E2⟩
 simp only at v1 E2
 have n2 := E2.next
 have p2 : σ2.blk 0 = some (.cells true 25 [.sl a F.nodes.length, .sl b F.roots.length, .sl c F.weak.length]) := by rw [E2.blk _ (by omega)]; exact p1
 have q2 : σ2.blk 1 = some (.cells true 25 [.sl d G.nodes.length, .sl e G.roots.length, .sl f G.weak.length]) := by rw [E2.blk _ (by omega)]; exact q1
 obtain ⟨bF, rfl, hTF⟩ : ∃ b, v = .b b ∧ (b = true → Tried40 F) := by
  rcases v1 with rfl | ⟨rfl, h⟩
  ·exact ⟨false, rfl, fun h => by cases h⟩
  ·exact ⟨true, rfl, fun _ => h⟩
 refine Ok.to (x := bF) rfl ?_
 refine Ok.step (Q := fun r => ∃ z, r.1 = [.b z] ∧ (z = false → Tried40 F ∧ Tried40 G) ∧ r.2.blk 0 = some (.cells true 25 [.sl a F.nodes.length, .sl b F.roots.length, .sl c F.weak.length]) ∧ r.2.blk 1 = some (.cells true 25 [.sl d G.nodes.length, .sl e G.roots.length, .sl f G.weak.length]) ∧ 2 ≤ r.2.next) ?_ ?_
 ·cases bF with
  | false => exact Ok.cF rfl (Ok_some.2 ⟨true, rfl, fun h => (by cases h), p2, q2, by show 2 ≤ σ2.next; omega⟩)
  | true =>
   refine Ok.cT rfl ?_
   refine Ok.to (x := .sl d G.nodes.length) (by simp -implicitDefEqProofs only [s0, q2, Nat.reduceAdd, Nat.reduceMul, Nat.reduceLT, Int.reduceToNat, Int.reduceAdd, Int.reduceSub, Int.reduceMul, rsU, s_ldI, s_ldU, s_ldS, s_ldP, s_gtI, s_gtU, s_gtS, s_bleD, Nat.reduceLeDiff, decide_true, decide_false]) (Ok.to (x := (d, G.nodes.length)) rfl ?_)
   refine Ok.to (x := .sl e G.roots.length) (by simp -implicitDefEqProofs only [s0, q2, Nat.reduceAdd, Nat.reduceMul, Nat.reduceLT, Int.reduceToNat, Int.reduceAdd, Int.reduceSub, Int.reduceMul, rsU, s_ldI, s_ldU, s_ldS, s_ldP, s_gtI, s_gtU, s_gtS, s_bleD, Nat.reduceLeDiff, decide_true, decide_false]) (Ok.to (x := (e, G.roots.length)) rfl ?_)
   refine Ok.to (x := .sl f G.weak.length) (by simp -implicitDefEqProofs only [s0, q2, Nat.reduceAdd, Nat.reduceMul, Nat.reduceLT, Int.reduceToNat, Int.reduceAdd, Int.reduceSub, Int.reduceMul, rsU, s_ldI, s_ldU, s_ldS, s_ldP, s_gtI, s_gtU, s_gtS, s_bleD, Nat.reduceLeDiff, decide_true, decide_false]) (Ok.to (x := (f, G.weak.length)) rfl ?_)
   refine Ok.step (few40_ok hG0) ?_
   rintro ⟨v, σ3⟩ ⟨v1, E3⟩
   simp only at v1 E3
   have n3 := E3.next
   have p3 : σ3.blk 0 = some (.cells true 25 [.sl a F.nodes.length, .sl b F.roots.length, .sl c F.weak.length]) := by rw [E3.blk _ (by omega)]; exact p2
   have q3 : σ3.blk 1 = some (.cells true 25 [.sl d G.nodes.length, .sl e G.roots.length, .sl f G.weak.length]) := by rw [E3.blk _ (by omega)]; exact q2
   rcases v1 with rfl | ⟨rfl, h⟩
   ·exact Ok.to (x := false) rfl (Ok_some.2 ⟨true, rfl, fun h => (by cases h), p3, q3, by show 2 ≤ σ3.next; omega⟩)
   ·exact Ok.to (x := true) rfl (Ok_some.2 ⟨false, rfl, fun _ => ⟨hTF rfl, h⟩, p3, q3, by show 2 ≤ σ3.next; omega⟩)
 rintro ⟨v, σ3⟩ ⟨bb, v1, hT, p3, q3, n3⟩
 simp only at v1 p3 q3 n3
 subst v1
 refine Ok.to (x := bb) rfl ?_
 cases bb with
 | true => exact Ok.cT rfl (Ok_some.2 rfl)
 | false =>
  obtain ⟨tF, tG⟩ := hT rfl
  have fF := tF.few
  have fG := tG.few
  refine Ok.cF rfl ?_
  refine Ok.to (x := .sl a F.nodes.length) (by simp -implicitDefEqProofs only [s0, p3, Nat.reduceAdd, Nat.reduceMul, Nat.reduceLT, Int.reduceToNat, Int.reduceAdd, Int.reduceSub, Int.reduceMul, rsU, s_ldI, s_ldU, s_ldS, s_ldP, s_gtI, s_gtU, s_gtS, s_bleD, Nat.reduceLeDiff, decide_true, decide_false]) (Ok.to (x := (a, F.nodes.length)) rfl ?_)
  refine Ok.to (x := .sl b F.roots.length) (by simp -implicitDefEqProofs only [s0, p3, Nat.reduceAdd, Nat.reduceMul, Nat.reduceLT, Int.reduceToNat, Int.reduceAdd, Int.reduceSub, Int.reduceMul, rsU, s_ldI, s_ldU, s_ldS, s_ldP, s_gtI, s_gtU, s_gtS, s_bleD, Nat.reduceLeDiff, decide_true, decide_false]) (Ok.to (x := (b, F.roots.length)) rfl ?_)
  refine Ok.to (x := .sl c F.weak.length) (by simp -implicitDefEqProofs only [s0, p3, Nat.reduceAdd, Nat.reduceMul, Nat.reduceLT, Int.reduceToNat, Int.reduceAdd, Int.reduceSub, Int.reduceMul, rsU, s_ldI, s_ldU, s_ldS, s_ldP, s_gtI, s_gtU, s_gtS, s_bleD, Nat.reduceLeDiff, decide_true, decide_false]) (Ok.to (x := (c, F.weak.length)) rfl ?_)
  refine Ok.step (lref_ok hF0 fF) ?_
  rintro ⟨v, σ4⟩ ⟨hW, E4⟩
  simp only at hW E4
  have n4 : σ3.next + 1 ≤ σ4.next := by simpa using E4.next
  have hW0 := hW
  obtain ⟨a2, b2, c2, rfl, k1, k2, k3⟩ := hW.it
  refine Ok.to (x := [.sl a2 F.nodes.length, .sl b2 F.roots.length, .sl c2 F.weak.length]) rfl ?_
  refine Ok.to (x := (a2, F.nodes.length)) rfl ?_
  refine Ok.to (x := (b2, F.roots.length)) rfl ?_
  refine Ok.to (x := (c2, F.weak.length)) rfl ?_
  obtain ⟨σ5, hσ5⟩ : ∃ y, σ4.put σ3.next (.cells true 30 [.sl a2 F.nodes.length, .sl b2 F.roots.length, .sl c2 F.weak.length]) = y := ⟨_, rfl⟩
  refine Ok.to (x := σ5) (by rw [← hσ5]; simp -implicitDefEqProofs only [Nat.reduceAdd, Nat.reduceMul, Nat.reduceLT, Int.reduceToNat, Int.reduceAdd, Int.reduceSub, Int.reduceMul, rsU, s_ldI, s_ldU, s_ldS, s_ldP, s_gtI, s_gtU, s_gtS, s_bleD, Nat.reduceLeDiff, decide_true, decide_false]) ?_
  have p5 : σ5.blk 0 = some (.cells true 25 [.sl a F.nodes.length, .sl b F.roots.length, .sl c F.weak.length]) := by rw [← hσ5, s_bn (by omega), E4.blk _ (by show _ < σ3.next + 1; omega)]; exact p3
  have q5 : σ5.blk 1 = some (.cells true 25 [.sl d G.nodes.length, .sl e G.roots.length, .sl f G.weak.length]) := by rw [← hσ5, s_bn (by omega), E4.blk _ (by show _ < σ3.next + 1; omega)]; exact q3
  have w5 : σ5.blk σ3.next = some (.cells true 30 [.sl a2 F.nodes.length, .sl b2 F.roots.length, .sl c2 F.weak.length]) := by rw [← hσ5]; exact s_bs
  have n5 : σ5.next = σ4.next := by rw [← hσ5]; rfl
  clear hσ5 E4
  refine Ok.to (x := .sl a F.nodes.length) (by simp -implicitDefEqProofs only [s0, p5, Nat.reduceAdd, Nat.reduceMul, Nat.reduceLT, Int.reduceToNat, Int.reduceAdd, Int.reduceSub, Int.reduceMul, rsU, s_ldI, s_ldU, s_ldS, s_ldP, s_gtI, s_gtU, s_gtS, s_bleD, Nat.reduceLeDiff, decide_true, decide_false]) (Ok.to (x := (a, F.nodes.length)) rfl ?_)
  refine Ok.to (x := .sl b F.roots.length) (by simp -implicitDefEqProofs only [s0, p5, Nat.reduceAdd, Nat.reduceMul, Nat.reduceLT, Int.reduceToNat, Int.reduceAdd, Int.reduceSub, Int.reduceMul, rsU, s_ldI, s_ldU, s_ldS, s_ldP, s_gtI, s_gtU, s_gtS, s_bleD, Nat.reduceLeDiff, decide_true, decide_false]) (Ok.to (x := (b, F.roots.length)) rfl ?_)
  refine Ok.to (x := .sl c F.weak.length) (by simp -implicitDefEqProofs only [s0, p5, Nat.reduceAdd, Nat.reduceMul, Nat.reduceLT, Int.reduceToNat, Int.reduceAdd, Int.reduceSub, Int.reduceMul, rsU, s_ldI, s_ldU, s_ldS, s_ldP, s_gtI, s_gtU, s_gtS, s_bleD, Nat.reduceLeDiff, decide_true, decide_false]) (Ok.to (x := (c, F.weak.length)) rfl ?_)
  refine Ok.to (x := .sl a2 F.nodes.length) (by simp -implicitDefEqProofs only [w5, Nat.reduceAdd, Nat.reduceMul, Nat.reduceLT, Int.reduceToNat, Int.reduceAdd, Int.reduceSub, Int.reduceMul, rsU, s_ldI, s_ldU, s_ldS, s_ldP, s_gtI, s_gtU, s_gtS, s_bleD, Nat.reduceLeDiff, decide_true, decide_false]) (Ok.to (x := (a2, F.nodes.length)) rfl ?_)
  refine Ok.to (x := .sl b2 F.roots.length) (by simp -implicitDefEqProofs only [w5, Nat.reduceAdd, Nat.reduceMul, Nat.reduceLT, Int.reduceToNat, Int.reduceAdd, Int.reduceSub, Int.reduceMul, rsU, s_ldI, s_ldU, s_ldS, s_ldP, s_gtI, s_gtU, s_gtS, s_bleD, Nat.reduceLeDiff, decide_true, decide_false]) (Ok.to (x := (b2, F.roots.length)) rfl ?_)
  refine Ok.to (x := .sl c2 F.weak.length) (by simp -implicitDefEqProofs only [w5, Nat.reduceAdd, Nat.reduceMul, Nat.reduceLT, Int.reduceToNat, Int.reduceAdd, Int.reduceSub, Int.reduceMul, rsU, s_ldI, s_ldU, s_ldS, s_ldP, s_gtI, s_gtU, s_gtS, s_bleD, Nat.reduceLeDiff, decide_true, decide_false]) (Ok.to (x := (c2, F.weak.length)) rfl ?_)
  refine Ok.step (right_ok (FRd.im hF0 _) fF) ?_
  rintro ⟨v, σ6⟩ ⟨v1, E6⟩
  simp only at v1 E6
  subst v1
  have n6 := E6.next
  have p6 : σ6.blk 0 = some (.cells true 25 [.sl a F.nodes.length, .sl b F.roots.length, .sl c F.weak.length]) := by rw [E6.blk _ (by omega)]; exact p5
  have q6 : σ6.blk 1 = some (.cells true 25 [.sl d G.nodes.length, .sl e G.roots.length, .sl f G.weak.length]) := by rw [E6.blk _ (by omega)]; exact q5
  have w6 : σ6.blk σ3.next = some (.cells true 30 [.sl a2 F.nodes.length, .sl b2 F.roots.length, .sl c2 F.weak.length]) := by rw [E6.blk _ (by omega)]; exact w5
  refine Ok.to (x := rightP F) rfl ?_
  refine Ok.to (x := ()) (chkE_eq (by simp -implicitDefEqProofs only [w6, Nat.reduceAdd, Nat.reduceMul, Nat.reduceLT, Int.reduceToNat, Int.reduceAdd, Int.reduceSub, Int.reduceMul, rsU, s_ldI, s_ldU, s_ldS, s_ldP, s_gtI, s_gtU, s_gtS, s_bleD, Nat.reduceLeDiff, decide_true, decide_false])) ?_
  refine Ok.to (x := ()) (chkE_eq (by simp -implicitDefEqProofs only [w6, Nat.reduceAdd, Nat.reduceMul, Nat.reduceLT, Int.reduceToNat, Int.reduceAdd, Int.reduceSub, Int.reduceMul, rsU, s_ldI, s_ldU, s_ldS, s_ldP, s_gtI, s_gtU, s_gtS, s_bleD, Nat.reduceLeDiff, decide_true, decide_false])) ?_
  refine Ok.to (x := ()) (chkE_eq (by simp -implicitDefEqProofs only [w6, Nat.reduceAdd, Nat.reduceMul, Nat.reduceLT, Int.reduceToNat, Int.reduceAdd, Int.reduceSub, Int.reduceMul, rsU, s_ldI, s_ldU, s_ldS, s_ldP, s_gtI, s_gtU, s_gtS, s_bleD, Nat.reduceLeDiff, decide_true, decide_false])) ?_
  refine Ok.step (rright_ok (FRd.im hW0 _) fF) ?_
  rintro ⟨v, σ7⟩ ⟨v1, E7⟩
  simp only at v1 E7
  subst v1
  have n7 := E7.next
  have p7 : σ7.blk 0 = some (.cells true 25 [.sl a F.nodes.length, .sl b F.roots.length, .sl c F.weak.length]) := by rw [E7.blk _ (by omega)]; exact p6
  have q7 : σ7.blk 1 = some (.cells true 25 [.sl d G.nodes.length, .sl e G.roots.length, .sl f G.weak.length]) := by rw [E7.blk _ (by omega)]; exact q6
  have w7 : σ7.blk σ3.next = some (.cells true 30 [.sl a2 F.nodes.length, .sl b2 F.roots.length, .sl c2 F.weak.length]) := by rw [E7.blk _ (by omega)]; exact w6
  refine Ok.to (x := rightP F) rfl ?_
  refine Ok.step (Q := fun r => r.1 = [.b true] ∧ Ext σ7 r.2) ?_ ?_
  ·refine Ok.cT (by cases rightP F <;> rfl) ?_
   refine Ok.to (x := .sl a F.nodes.length) (by simp -implicitDefEqProofs only [s0, p7, Nat.reduceAdd, Nat.reduceMul, Nat.reduceLT, Int.reduceToNat, Int.reduceAdd, Int.reduceSub, Int.reduceMul, rsU, s_ldI, s_ldU, s_ldS, s_ldP, s_gtI, s_gtU, s_gtS, s_bleD, Nat.reduceLeDiff, decide_true, decide_false]) (Ok.to (x := (a, F.nodes.length)) rfl ?_)
   refine Ok.to (x := .sl b F.roots.length) (by simp -implicitDefEqProofs only [s0, p7, Nat.reduceAdd, Nat.reduceMul, Nat.reduceLT, Int.reduceToNat, Int.reduceAdd, Int.reduceSub, Int.reduceMul, rsU, s_ldI, s_ldU, s_ldS, s_ldP, s_gtI, s_gtU, s_gtS, s_bleD, Nat.reduceLeDiff, decide_true, decide_false]) (Ok.to (x := (b, F.roots.length)) rfl ?_)
   refine Ok.to (x := .sl c F.weak.length) (by simp -implicitDefEqProofs only [s0, p7, Nat.reduceAdd, Nat.reduceMul, Nat.reduceLT, Int.reduceToNat, Int.reduceAdd, Int.reduceSub, Int.reduceMul, rsU, s_ldI, s_ldU, s_ldS, s_ldP, s_gtI, s_gtU, s_gtS, s_bleD, Nat.reduceLeDiff, decide_true, decide_false]) (Ok.to (x := (c, F.weak.length)) rfl ?_)
   refine Ok.to (x := .sl d G.nodes.length) (by simp -implicitDefEqProofs only [s0, q7, Nat.reduceAdd, Nat.reduceMul, Nat.reduceLT, Int.reduceToNat, Int.reduceAdd, Int.reduceSub, Int.reduceMul, rsU, s_ldI, s_ldU, s_ldS, s_ldP, s_gtI, s_gtU, s_gtS, s_bleD, Nat.reduceLeDiff, decide_true, decide_false]) (Ok.to (x := (d, G.nodes.length)) rfl ?_)
   refine Ok.to (x := .sl e G.roots.length) (by simp -implicitDefEqProofs only [s0, q7, Nat.reduceAdd, Nat.reduceMul, Nat.reduceLT, Int.reduceToNat, Int.reduceAdd, Int.reduceSub, Int.reduceMul, rsU, s_ldI, s_ldU, s_ldS, s_ldP, s_gtI, s_gtU, s_gtS, s_bleD, Nat.reduceLeDiff, decide_true, decide_false]) (Ok.to (x := (e, G.roots.length)) rfl ?_)
   refine Ok.to (x := .sl f G.weak.length) (by simp -implicitDefEqProofs only [s0, q7, Nat.reduceAdd, Nat.reduceMul, Nat.reduceLT, Int.reduceToNat, Int.reduceAdd, Int.reduceSub, Int.reduceMul, rsU, s_ldI, s_ldU, s_ldS, s_ldP, s_gtI, s_gtU, s_gtS, s_bleD, Nat.reduceLeDiff, decide_true, decide_false]) (Ok.to (x := (f, G.weak.length)) rfl ?_)
   refine Ok.to (x := .sl a F.nodes.length) (by simp -implicitDefEqProofs only [s0, p7, Nat.reduceAdd, Nat.reduceMul, Nat.reduceLT, Int.reduceToNat, Int.reduceAdd, Int.reduceSub, Int.reduceMul, rsU, s_ldI, s_ldU, s_ldS, s_ldP, s_gtI, s_gtU, s_gtS, s_bleD, Nat.reduceLeDiff, decide_true, decide_false]) (Ok.to (x := (a, F.nodes.length)) rfl ?_)
   refine Ok.to (x := .sl b F.roots.length) (by simp -implicitDefEqProofs only [s0, p7, Nat.reduceAdd, Nat.reduceMul, Nat.reduceLT, Int.reduceToNat, Int.reduceAdd, Int.reduceSub, Int.reduceMul, rsU, s_ldI, s_ldU, s_ldS, s_ldP, s_gtI, s_gtU, s_gtS, s_bleD, Nat.reduceLeDiff, decide_true, decide_false]) (Ok.to (x := (b, F.roots.length)) rfl ?_)
   refine Ok.to (x := .sl c F.weak.length) (by simp -implicitDefEqProofs only [s0, p7, Nat.reduceAdd, Nat.reduceMul, Nat.reduceLT, Int.reduceToNat, Int.reduceAdd, Int.reduceSub, Int.reduceMul, rsU, s_ldI, s_ldU, s_ldS, s_ldP, s_gtI, s_gtU, s_gtS, s_bleD, Nat.reduceLeDiff, decide_true, decide_false]) (Ok.to (x := (c, F.weak.length)) rfl ?_)
   refine Ok.to (x := .sl d G.nodes.length) (by simp -implicitDefEqProofs only [s0, q7, Nat.reduceAdd, Nat.reduceMul, Nat.reduceLT, Int.reduceToNat, Int.reduceAdd, Int.reduceSub, Int.reduceMul, rsU, s_ldI, s_ldU, s_ldS, s_ldP, s_gtI, s_gtU, s_gtS, s_bleD, Nat.reduceLeDiff, decide_true, decide_false]) (Ok.to (x := (d, G.nodes.length)) rfl ?_)
   refine Ok.to (x := .sl e G.roots.length) (by simp -implicitDefEqProofs only [s0, q7, Nat.reduceAdd, Nat.reduceMul, Nat.reduceLT, Int.reduceToNat, Int.reduceAdd, Int.reduceSub, Int.reduceMul, rsU, s_ldI, s_ldU, s_ldS, s_ldP, s_gtI, s_gtU, s_gtS, s_bleD, Nat.reduceLeDiff, decide_true, decide_false]) (Ok.to (x := (e, G.roots.length)) rfl ?_)
   refine Ok.to (x := .sl f G.weak.length) (by simp -implicitDefEqProofs only [s0, q7, Nat.reduceAdd, Nat.reduceMul, Nat.reduceLT, Int.reduceToNat, Int.reduceAdd, Int.reduceSub, Int.reduceMul, rsU, s_ldI, s_ldU, s_ldS, s_ldP, s_gtI, s_gtU, s_gtS, s_bleD, Nat.reduceLeDiff, decide_true, decide_false]) (Ok.to (x := (f, G.weak.length)) rfl ?_)
   refine Ok.step (csame hF0 hG0 fF fG) ?_
   rintro ⟨v, σ8⟩ ⟨v1, E8⟩
   simp only at v1 E8
   subst v1
   have n8 := E8.next
   have p8 : σ8.blk 0 = some (.cells true 25 [.sl a F.nodes.length, .sl b F.roots.length, .sl c F.weak.length]) := by rw [E8.blk _ (by omega)]; exact p7
   have q8 : σ8.blk 1 = some (.cells true 25 [.sl d G.nodes.length, .sl e G.roots.length, .sl f G.weak.length]) := by rw [E8.blk _ (by omega)]; exact q7
   refine Ok.to (x := decide (F = G)) rfl ?_
   refine Ok.to (x := ()) (chkE_eq (by simp -implicitDefEqProofs only [s0, p8, Nat.reduceAdd, Nat.reduceMul, Nat.reduceLT, Int.reduceToNat, Int.reduceAdd, Int.reduceSub, Int.reduceMul, rsU, s_ldI, s_ldU, s_ldS, s_ldP, s_gtI, s_gtU, s_gtS, s_bleD, Nat.reduceLeDiff, decide_true, decide_false])) ?_
   refine Ok.to (x := ()) (chkE_eq (by simp -implicitDefEqProofs only [s0, p8, Nat.reduceAdd, Nat.reduceMul, Nat.reduceLT, Int.reduceToNat, Int.reduceAdd, Int.reduceSub, Int.reduceMul, rsU, s_ldI, s_ldU, s_ldS, s_ldP, s_gtI, s_gtU, s_gtS, s_bleD, Nat.reduceLeDiff, decide_true, decide_false])) ?_
   refine Ok.to (x := ()) (chkE_eq (by simp -implicitDefEqProofs only [s0, p8, Nat.reduceAdd, Nat.reduceMul, Nat.reduceLT, Int.reduceToNat, Int.reduceAdd, Int.reduceSub, Int.reduceMul, rsU, s_ldI, s_ldU, s_ldS, s_ldP, s_gtI, s_gtU, s_gtS, s_bleD, Nat.reduceLeDiff, decide_true, decide_false])) ?_
   refine Ok.to (x := ()) (chkE_eq (by simp -implicitDefEqProofs only [s0, q8, Nat.reduceAdd, Nat.reduceMul, Nat.reduceLT, Int.reduceToNat, Int.reduceAdd, Int.reduceSub, Int.reduceMul, rsU, s_ldI, s_ldU, s_ldS, s_ldP, s_gtI, s_gtU, s_gtS, s_bleD, Nat.reduceLeDiff, decide_true, decide_false])) ?_
   refine Ok.to (x := ()) (chkE_eq (by simp -implicitDefEqProofs only [s0, q8, Nat.reduceAdd, Nat.reduceMul, Nat.reduceLT, Int.reduceToNat, Int.reduceAdd, Int.reduceSub, Int.reduceMul, rsU, s_ldI, s_ldU, s_ldS, s_ldP, s_gtI, s_gtU, s_gtS, s_bleD, Nat.reduceLeDiff, decide_true, decide_false])) ?_
   refine Ok.to (x := ()) (chkE_eq (by simp -implicitDefEqProofs only [s0, q8, Nat.reduceAdd, Nat.reduceMul, Nat.reduceLT, Int.reduceToNat, Int.reduceAdd, Int.reduceSub, Int.reduceMul, rsU, s_ldI, s_ldU, s_ldS, s_ldP, s_gtI, s_gtU, s_gtS, s_bleD, Nat.reduceLeDiff, decide_true, decide_false])) ?_
   refine Ok.step (lref_ok hG0 fG) ?_
   rintro ⟨v, σ9⟩ ⟨hV, E9⟩
   simp only at hV E9
   have n9 := E9.next
   have p9 : σ9.blk 0 = some (.cells true 25 [.sl a F.nodes.length, .sl b F.roots.length, .sl c F.weak.length]) := by rw [E9.blk _ (by omega)]; exact p8
   have hV0 := hV
   obtain ⟨d2, e2, f2, rfl, l1, l2, l3⟩ := hV.it
   refine Ok.to (x := [.sl d2 G.nodes.length, .sl e2 G.roots.length, .sl f2 G.weak.length]) rfl ?_
   refine Ok.to (x := (d2, G.nodes.length)) rfl ?_
   refine Ok.to (x := (e2, G.roots.length)) rfl ?_
   refine Ok.to (x := (f2, G.weak.length)) rfl ?_
   refine Ok.to (x := ()) (chkE_eq (by simp -implicitDefEqProofs only [s0, p9, Nat.reduceAdd, Nat.reduceMul, Nat.reduceLT, Int.reduceToNat, Int.reduceAdd, Int.reduceSub, Int.reduceMul, rsU, s_ldI, s_ldU, s_ldS, s_ldP, s_gtI, s_gtU, s_gtS, s_bleD, Nat.reduceLeDiff, decide_true, decide_false])) ?_
   refine Ok.to (x := ()) (chkE_eq (by simp -implicitDefEqProofs only [s0, p9, Nat.reduceAdd, Nat.reduceMul, Nat.reduceLT, Int.reduceToNat, Int.reduceAdd, Int.reduceSub, Int.reduceMul, rsU, s_ldI, s_ldU, s_ldS, s_ldP, s_gtI, s_gtU, s_gtS, s_bleD, Nat.reduceLeDiff, decide_true, decide_false])) ?_
   refine Ok.to (x := ()) (chkE_eq (by simp -implicitDefEqProofs only [s0, p9, Nat.reduceAdd, Nat.reduceMul, Nat.reduceLT, Int.reduceToNat, Int.reduceAdd, Int.reduceSub, Int.reduceMul, rsU, s_ldI, s_ldU, s_ldS, s_ldP, s_gtI, s_gtU, s_gtS, s_bleD, Nat.reduceLeDiff, decide_true, decide_false])) ?_
   refine Ok.step (is_ok hF0 hV0 fF fG) ?_
   rintro ⟨v, σ10⟩ ⟨v1, E10⟩
   simp only at v1 E10
   subst v1
   refine Ok.to (x := decide (F = G)) rfl ?_
   exact Ok_some.2 ⟨by rw [beq_self_eq_true], (E8.trans E9).trans E10⟩
  rintro ⟨v, σ8⟩ ⟨v1, E8⟩
  simp only at v1 E8
  subst v1
  have n8 := E8.next
  have p8 : σ8.blk 0 = some (.cells true 25 [.sl a F.nodes.length, .sl b F.roots.length, .sl c F.weak.length]) := by rw [E8.blk _ (by omega)]; exact p7
  have w8 : σ8.blk σ3.next = some (.cells true 30 [.sl a2 F.nodes.length, .sl b2 F.roots.length, .sl c2 F.weak.length]) := by rw [E8.blk _ (by omega)]; exact w7
  refine Ok.to (x := true) rfl ?_
  refine Ok.step (Q := fun r => r.1 = [.b true] ∧ Ext σ8 r.2) ?_ ?_
  ·refine Ok.cT rfl ?_
   refine Ok.to (x := .sl a F.nodes.length) (by simp -implicitDefEqProofs only [s0, p8, Nat.reduceAdd, Nat.reduceMul, Nat.reduceLT, Int.reduceToNat, Int.reduceAdd, Int.reduceSub, Int.reduceMul, rsU, s_ldI, s_ldU, s_ldS, s_ldP, s_gtI, s_gtU, s_gtS, s_bleD, Nat.reduceLeDiff, decide_true, decide_false]) (Ok.to (x := (a, F.nodes.length)) rfl ?_)
   refine Ok.to (x := .sl b F.roots.length) (by simp -implicitDefEqProofs only [s0, p8, Nat.reduceAdd, Nat.reduceMul, Nat.reduceLT, Int.reduceToNat, Int.reduceAdd, Int.reduceSub, Int.reduceMul, rsU, s_ldI, s_ldU, s_ldS, s_ldP, s_gtI, s_gtU, s_gtS, s_bleD, Nat.reduceLeDiff, decide_true, decide_false]) (Ok.to (x := (b, F.roots.length)) rfl ?_)
   refine Ok.to (x := .sl c F.weak.length) (by simp -implicitDefEqProofs only [s0, p8, Nat.reduceAdd, Nat.reduceMul, Nat.reduceLT, Int.reduceToNat, Int.reduceAdd, Int.reduceSub, Int.reduceMul, rsU, s_ldI, s_ldU, s_ldS, s_ldP, s_gtI, s_gtU, s_gtS, s_bleD, Nat.reduceLeDiff, decide_true, decide_false]) (Ok.to (x := (c, F.weak.length)) rfl ?_)
   refine Ok.to (x := .sl a2 F.nodes.length) (by simp -implicitDefEqProofs only [w8, Nat.reduceAdd, Nat.reduceMul, Nat.reduceLT, Int.reduceToNat, Int.reduceAdd, Int.reduceSub, Int.reduceMul, rsU, s_ldI, s_ldU, s_ldS, s_ldP, s_gtI, s_gtU, s_gtS, s_bleD, Nat.reduceLeDiff, decide_true, decide_false]) (Ok.to (x := (a2, F.nodes.length)) rfl ?_)
   refine Ok.to (x := .sl b2 F.roots.length) (by simp -implicitDefEqProofs only [w8, Nat.reduceAdd, Nat.reduceMul, Nat.reduceLT, Int.reduceToNat, Int.reduceAdd, Int.reduceSub, Int.reduceMul, rsU, s_ldI, s_ldU, s_ldS, s_ldP, s_gtI, s_gtU, s_gtS, s_bleD, Nat.reduceLeDiff, decide_true, decide_false]) (Ok.to (x := (b2, F.roots.length)) rfl ?_)
   refine Ok.to (x := .sl c2 F.weak.length) (by simp -implicitDefEqProofs only [w8, Nat.reduceAdd, Nat.reduceMul, Nat.reduceLT, Int.reduceToNat, Int.reduceAdd, Int.reduceSub, Int.reduceMul, rsU, s_ldI, s_ldU, s_ldS, s_ldP, s_gtI, s_gtU, s_gtS, s_bleD, Nat.reduceLeDiff, decide_true, decide_false]) (Ok.to (x := (c2, F.weak.length)) rfl ?_)
   refine Ok.step (cyoung_ok hF0 fF (by have := tF.n; omega) (by have := tF.w; omega)) ?_
   rintro ⟨v, σ9⟩ ⟨hY, E9⟩
   simp only at hY E9
   have n9 := E9.next
   have w9 : σ9.blk σ3.next = some (.cells true 30 [.sl a2 F.nodes.length, .sl b2 F.roots.length, .sl c2 F.weak.length]) := by rw [E9.blk _ (by omega)]; exact w8
   have hY0 := hY
   obtain ⟨a3, b3, c3, rfl, l1, l2, l3⟩ := hY.it
   refine Ok.to (x := [.sl a3 (youngP F).nodes.length, .sl b3 (youngP F).roots.length, .sl c3 (youngP F).weak.length]) rfl ?_
   refine Ok.to (x := (a3, (youngP F).nodes.length)) rfl ?_
   refine Ok.to (x := (b3, (youngP F).roots.length)) rfl ?_
   refine Ok.to (x := (c3, (youngP F).weak.length)) rfl ?_
   refine Ok.to (x := ()) (chkE_eq (by simp -implicitDefEqProofs only [w9, Nat.reduceAdd, Nat.reduceMul, Nat.reduceLT, Int.reduceToNat, Int.reduceAdd, Int.reduceSub, Int.reduceMul, rsU, s_ldI, s_ldU, s_ldS, s_ldP, s_gtI, s_gtU, s_gtS, s_bleD, Nat.reduceLeDiff, decide_true, decide_false])) ?_
   refine Ok.to (x := ()) (chkE_eq (by simp -implicitDefEqProofs only [w9, Nat.reduceAdd, Nat.reduceMul, Nat.reduceLT, Int.reduceToNat, Int.reduceAdd, Int.reduceSub, Int.reduceMul, rsU, s_ldI, s_ldU, s_ldS, s_ldP, s_gtI, s_gtU, s_gtS, s_bleD, Nat.reduceLeDiff, decide_true, decide_false])) ?_
   refine Ok.to (x := ()) (chkE_eq (by simp -implicitDefEqProofs only [w9, Nat.reduceAdd, Nat.reduceMul, Nat.reduceLT, Int.reduceToNat, Int.reduceAdd, Int.reduceSub, Int.reduceMul, rsU, s_ldI, s_ldU, s_ldS, s_ldP, s_gtI, s_gtU, s_gtS, s_bleD, Nat.reduceLeDiff, decide_true, decide_false])) ?_
   refine Ok.step (ryoung_ok hW0 fF (by have := tF.n; omega) (by have := tF.w; omega)) ?_
   rintro ⟨v, σ10⟩ ⟨hZ, E10⟩
   simp only at hZ E10
   have hZ0 := hZ
   obtain ⟨a4, b4, c4, rfl, m1, m2, m3⟩ := hZ.it
   refine Ok.to (x := [.sl a4 (youngP F).nodes.length, .sl b4 (youngP F).roots.length, .sl c4 (youngP F).weak.length]) rfl ?_
   refine Ok.to (x := (a4, (youngP F).nodes.length)) rfl ?_
   refine Ok.to (x := (b4, (youngP F).roots.length)) rfl ?_
   refine Ok.to (x := (c4, (youngP F).weak.length)) rfl ?_
   refine Ok.step (is_ok hY0 hZ0 (young_few tF) (young_few tF)) ?_
   rintro ⟨v, σ11⟩ ⟨v1, E11⟩
   simp only at v1 E11
   subst v1
   exact Ok.to (x := true) (by simp) (Ok_some.2 ⟨rfl, (E9.trans E10).trans E11⟩)
  rintro ⟨v, σ9⟩ ⟨v1, E9⟩
  simp only at v1 E9
  subst v1
  have n9 := E9.next
  have p9 : σ9.blk 0 = some (.cells true 25 [.sl a F.nodes.length, .sl b F.roots.length, .sl c F.weak.length]) := by rw [E9.blk _ (by omega)]; exact p8
  have w9 : σ9.blk σ3.next = some (.cells true 30 [.sl a2 F.nodes.length, .sl b2 F.roots.length, .sl c2 F.weak.length]) := by rw [E9.blk _ (by omega)]; exact w8
  refine Ok.to (x := true) rfl ?_
  refine Ok.step (Q := fun r => r.1 = [.b true] ∧ Ext σ9 r.2) ?_ ?_
  ·refine Ok.cT rfl ?_
   refine Ok.to (x := .sl a F.nodes.length) (by simp -implicitDefEqProofs only [s0, p9, Nat.reduceAdd, Nat.reduceMul, Nat.reduceLT, Int.reduceToNat, Int.reduceAdd, Int.reduceSub, Int.reduceMul, rsU, s_ldI, s_ldU, s_ldS, s_ldP, s_gtI, s_gtU, s_gtS, s_bleD, Nat.reduceLeDiff, decide_true, decide_false]) (Ok.to (x := (a, F.nodes.length)) rfl ?_)
   refine Ok.to (x := .sl b F.roots.length) (by simp -implicitDefEqProofs only [s0, p9, Nat.reduceAdd, Nat.reduceMul, Nat.reduceLT, Int.reduceToNat, Int.reduceAdd, Int.reduceSub, Int.reduceMul, rsU, s_ldI, s_ldU, s_ldS, s_ldP, s_gtI, s_gtU, s_gtS, s_bleD, Nat.reduceLeDiff, decide_true, decide_false]) (Ok.to (x := (b, F.roots.length)) rfl ?_)
   refine Ok.to (x := .sl c F.weak.length) (by simp -implicitDefEqProofs only [s0, p9, Nat.reduceAdd, Nat.reduceMul, Nat.reduceLT, Int.reduceToNat, Int.reduceAdd, Int.reduceSub, Int.reduceMul, rsU, s_ldI, s_ldU, s_ldS, s_ldP, s_gtI, s_gtU, s_gtS, s_bleD, Nat.reduceLeDiff, decide_true, decide_false]) (Ok.to (x := (c, F.weak.length)) rfl ?_)
   refine Ok.to (x := .sl a2 F.nodes.length) (by simp -implicitDefEqProofs only [w9, Nat.reduceAdd, Nat.reduceMul, Nat.reduceLT, Int.reduceToNat, Int.reduceAdd, Int.reduceSub, Int.reduceMul, rsU, s_ldI, s_ldU, s_ldS, s_ldP, s_gtI, s_gtU, s_gtS, s_bleD, Nat.reduceLeDiff, decide_true, decide_false]) (Ok.to (x := (a2, F.nodes.length)) rfl ?_)
   refine Ok.to (x := .sl b2 F.roots.length) (by simp -implicitDefEqProofs only [w9, Nat.reduceAdd, Nat.reduceMul, Nat.reduceLT, Int.reduceToNat, Int.reduceAdd, Int.reduceSub, Int.reduceMul, rsU, s_ldI, s_ldU, s_ldS, s_ldP, s_gtI, s_gtU, s_gtS, s_bleD, Nat.reduceLeDiff, decide_true, decide_false]) (Ok.to (x := (b2, F.roots.length)) rfl ?_)
   refine Ok.to (x := .sl c2 F.weak.length) (by simp -implicitDefEqProofs only [w9, Nat.reduceAdd, Nat.reduceMul, Nat.reduceLT, Int.reduceToNat, Int.reduceAdd, Int.reduceSub, Int.reduceMul, rsU, s_ldI, s_ldU, s_ldS, s_ldP, s_gtI, s_gtU, s_gtS, s_bleD, Nat.reduceLeDiff, decide_true, decide_false]) (Ok.to (x := (c2, F.weak.length)) rfl ?_)
   refine Ok.step (cwords_ok' (s := s) hF0 (by have := tF.n; omega)) ?_
   rintro ⟨v, σ10⟩ ⟨v1, E10⟩
   simp only at v1 E10
   subst v1
   have w10 : σ10.blk σ3.next = some (.cells true 30 [.sl a2 F.nodes.length, .sl b2 F.roots.length, .sl c2 F.weak.length]) := by rw [E10.blk _ (by omega)]; exact w9
   refine Ok.to (x := wordsS F.nodes s) rfl ?_
   refine Ok.to (x := ()) (chkE_eq (by simp -implicitDefEqProofs only [w10, Nat.reduceAdd, Nat.reduceMul, Nat.reduceLT, Int.reduceToNat, Int.reduceAdd, Int.reduceSub, Int.reduceMul, rsU, s_ldI, s_ldU, s_ldS, s_ldP, s_gtI, s_gtU, s_gtS, s_bleD, Nat.reduceLeDiff, decide_true, decide_false])) ?_
   refine Ok.to (x := ()) (chkE_eq (by simp -implicitDefEqProofs only [w10, Nat.reduceAdd, Nat.reduceMul, Nat.reduceLT, Int.reduceToNat, Int.reduceAdd, Int.reduceSub, Int.reduceMul, rsU, s_ldI, s_ldU, s_ldS, s_ldP, s_gtI, s_gtU, s_gtS, s_bleD, Nat.reduceLeDiff, decide_true, decide_false])) ?_
   refine Ok.to (x := ()) (chkE_eq (by simp -implicitDefEqProofs only [w10, Nat.reduceAdd, Nat.reduceMul, Nat.reduceLT, Int.reduceToNat, Int.reduceAdd, Int.reduceSub, Int.reduceMul, rsU, s_ldI, s_ldU, s_ldS, s_ldP, s_gtI, s_gtU, s_gtS, s_bleD, Nat.reduceLeDiff, decide_true, decide_false])) ?_
   refine Ok.step (rwords_ok' (s := s) hW0 (by have := tF.n; omega)) ?_
   rintro ⟨v, σ11⟩ ⟨v1, E11⟩
   simp only at v1 E11
   subst v1
   refine Ok.to (x := wordsS F.nodes s) rfl ?_
   exact Ok_some.2 ⟨by rw [beq_self_eq_true], E10.trans E11⟩
  rintro ⟨v, σ10⟩ ⟨v1, E10⟩
  simp only at v1 E10
  subst v1
  have p10 : σ10.blk 0 = some (.cells true 25 [.sl a F.nodes.length, .sl b F.roots.length, .sl c F.weak.length]) := by rw [E10.blk _ (by omega)]; exact p9
  refine Ok.to (x := true) rfl ?_
  refine Ok.step (Q := fun r => r.1 = [.b true]) ?_ ?_
  ·refine Ok.cT rfl ?_
   refine Ok.to (x := .sl a F.nodes.length) (by simp -implicitDefEqProofs only [s0, p10, Nat.reduceAdd, Nat.reduceMul, Nat.reduceLT, Int.reduceToNat, Int.reduceAdd, Int.reduceSub, Int.reduceMul, rsU, s_ldI, s_ldU, s_ldS, s_ldP, s_gtI, s_gtU, s_gtS, s_bleD, Nat.reduceLeDiff, decide_true, decide_false]) (Ok.to (x := (a, F.nodes.length)) rfl ?_)
   refine Ok.to (x := .sl b F.roots.length) (by simp -implicitDefEqProofs only [s0, p10, Nat.reduceAdd, Nat.reduceMul, Nat.reduceLT, Int.reduceToNat, Int.reduceAdd, Int.reduceSub, Int.reduceMul, rsU, s_ldI, s_ldU, s_ldS, s_ldP, s_gtI, s_gtU, s_gtS, s_bleD, Nat.reduceLeDiff, decide_true, decide_false]) (Ok.to (x := (b, F.roots.length)) rfl ?_)
   refine Ok.to (x := .sl c F.weak.length) (by simp -implicitDefEqProofs only [s0, p10, Nat.reduceAdd, Nat.reduceMul, Nat.reduceLT, Int.reduceToNat, Int.reduceAdd, Int.reduceSub, Int.reduceMul, rsU, s_ldI, s_ldU, s_ldS, s_ldP, s_gtI, s_gtU, s_gtS, s_bleD, Nat.reduceLeDiff, decide_true, decide_false]) (Ok.to (x := (c, F.weak.length)) rfl ?_)
   refine Ok.to (x := .sl a F.nodes.length) (by simp -implicitDefEqProofs only [s0, p10, Nat.reduceAdd, Nat.reduceMul, Nat.reduceLT, Int.reduceToNat, Int.reduceAdd, Int.reduceSub, Int.reduceMul, rsU, s_ldI, s_ldU, s_ldS, s_ldP, s_gtI, s_gtU, s_gtS, s_bleD, Nat.reduceLeDiff, decide_true, decide_false]) (Ok.to (x := (a, F.nodes.length)) rfl ?_)
   refine Ok.to (x := .sl b F.roots.length) (by simp -implicitDefEqProofs only [s0, p10, Nat.reduceAdd, Nat.reduceMul, Nat.reduceLT, Int.reduceToNat, Int.reduceAdd, Int.reduceSub, Int.reduceMul, rsU, s_ldI, s_ldU, s_ldS, s_ldP, s_gtI, s_gtU, s_gtS, s_bleD, Nat.reduceLeDiff, decide_true, decide_false]) (Ok.to (x := (b, F.roots.length)) rfl ?_)
   refine Ok.to (x := .sl c F.weak.length) (by simp -implicitDefEqProofs only [s0, p10, Nat.reduceAdd, Nat.reduceMul, Nat.reduceLT, Int.reduceToNat, Int.reduceAdd, Int.reduceSub, Int.reduceMul, rsU, s_ldI, s_ldU, s_ldS, s_ldP, s_gtI, s_gtU, s_gtS, s_bleD, Nat.reduceLeDiff, decide_true, decide_false]) (Ok.to (x := (c, F.weak.length)) rfl ?_)
   refine Ok.step (csame hF0 hF0 fF fF) ?_
   rintro ⟨v, σ11⟩ ⟨v1, E11⟩
   simp only at v1
   subst v1
   exact Ok.to (x := true) (by simp) (Ok_some.2 rfl)
  rintro ⟨v, σ11⟩ v1
  simp only at v1
  subst v1
  exact Ok.to (x := true) rfl (Ok_some.2 rfl)
end Go.Abs.Tryz
set_option maxRecDepth 100000
namespace Go.Abs
open Go
variable {P : Program}
theorem i64_of {n : Int} (h : IntKind.i64.min ≤ n ∧ n ≤ IntKind.i64.max) : I64 n := h
theorem u64_of {n : Int} (h : IntKind.u64.min ≤ n ∧ n ≤ IntKind.u64.max) : U64 n := ⟨h.1, Int.lt_add_one_of_le h.2⟩
theorem ClsF {d : Nat} {t : TypeId} {fs : Array Field} {cs : List AV} (hu : P.underlying t = some (.struct fs)) (h : Cls P (d + 1) t cs) :
  ∃ parts : List (List AV), cs = parts.flatten ∧ parts.length = fs.toList.length ∧ ∀ (i : Nat) (f : Field) (part : List AV), fs.toList[i]? = some f → parts[i]? = some part → Cls P d f.type part := by
 unfold Cls at h; rw [hu] at h; exact h
end Go.Abs
namespace Go.Abs.Tryz
open Go Go.Abs Go.Proofs
variable {O : Type}
theorem shape_in {d : Nat} {cs : List AV} (h : Cls Tryz.prog (d + 2) 70 cs) : ∃ p r, cs = [.i .i64 p, .i .i64 r] := by
 obtain ⟨parts, rfl, hl, hp⟩ := ClsF Tryz.underlying70 h
 match parts, hl, hp with
 | [p0, p1], _, hp =>
  obtain ⟨a, rfl, ha⟩ := ClsI (k := .i64) Tryz.underlying3 (hp 0 _ p0 rfl rfl)
  obtain ⟨b, rfl, hb⟩ := ClsI (k := .i64) Tryz.underlying3 (hp 1 _ p1 rfl rfl)
  exact ⟨a, b, rfl⟩
theorem header_in {d : Nat} {cs : List AV} (h : Cls Tryz.prog (d + 3) 72 cs) : ∃ x : HV, cs = x.cs ∧ I64 x.site ∧ I64 x.age := by
 obtain ⟨parts, rfl, hl, hp⟩ := ClsF Tryz.underlying72 h
 match parts, hl, hp with
 | [p0, p1, p2, p3], _, hp =>
  obtain ⟨p, r, rfl⟩ := shape_in (d := d) (hp 0 _ p0 rfl rfl)
  obtain ⟨a, rfl, ha⟩ := ClsI (k := .i64) Tryz.underlying3 (hp 1 _ p1 rfl rfl)
  obtain ⟨b, rfl, hb⟩ := ClsI (k := .i64) Tryz.underlying3 (hp 2 _ p2 rfl rfl)
  obtain ⟨c, rfl⟩ := ClsB Tryz.underlying4 (hp 3 _ p3 rfl rfl)
  exact ⟨⟨p, r, a, b, c⟩, rfl, ha, hb⟩
theorem node_in {d : Nat} {cs : List AV} (h : Cls Tryz.prog (d + 4) 77 cs) : ∃ (x : NV) (a b : SA), cs = x.cells a b ∧ Ints .i64 a x.P ∧ Ints .u64 b x.R ∧ x.rng := by
 obtain ⟨parts, rfl, hl, hp⟩ := ClsF Tryz.underlying77 h
 match parts, hl, hp with
 | [p0, p1, p2], _, hp =>
  obtain ⟨hv, rfl, is, ig⟩ := header_in (d := d) (hp 0 _ p0 rfl rfl)
  obtain ⟨a, P, rfl, _, ia, ha⟩ := ClsIs (d := d + 2) (k := .i64) Tryz.underlying23 Tryz.underlying3 (by kernel_rfl) (hp 1 _ p1 rfl rfl)
  obtain ⟨b, R, rfl, _, ib, hb⟩ := ClsIs (d := d + 2) (k := .u64) Tryz.underlying73 Tryz.underlying90 (by kernel_rfl) (hp 2 _ p2 rfl rfl)
  exact ⟨⟨hv, P, R⟩, a, b, rfl, Ints.mk ia, Ints.mk ib, is, ig, fun z hz => i64_of (ha z hz), fun z hz => u64_of (hb z hz)⟩
theorem nodes_in {d : Nat} : ∀ {els : List (List AV)}, (∀ el ∈ els, Cls Tryz.prog (d + 4) 77 el) → ∃ l : List NV, l.length = els.length ∧ ImL (l.flatMap NV.row) els.flatten ∧ ∀ x ∈ l, x.rng
 | [], _ => ⟨[], rfl, .nil, by simp⟩
 | e :: els, h => by
  obtain ⟨x, a, b, rfl, ia, ib, hx⟩ := node_in (h e List.mem_cons_self)
  obtain ⟨l, h1, h2, h3⟩ := nodes_in (d := d) (els := els) fun y hy => h y (List.mem_cons_of_mem _ hy)
  refine ⟨x :: l, by simp [h1], ?_, fun y hy => ?_⟩
  ·rw [List.flatMap_cons, List.flatten_cons]; exact (NV.mk_ ia ib).app h2
  ·rcases List.mem_cons.1 hy with rfl | hy
   ·exact hx
   ·exact h3 y hy
structure _root_.Go.Abs.FV.rngL (F : FV) : Prop where
 n : ∀ x ∈ F.nodes, x.rng
 r : ∀ z ∈ F.roots, I64 z
 w : ∀ z ∈ F.weak, I64 z
theorem form_in {x : AV} (h : ArgIs Tryz.prog 25 x) : ∃ F : FV, F.At x ∧ F.rngL := by
 obtain ⟨cs, rfl, hc⟩ := argSt Tryz.underlying25 h
 obtain ⟨parts, rfl, hl, hp⟩ := ClsF (d := 11) Tryz.underlying25 hc
 match parts, hl, hp with
 | [p0, p1, p2], _, hp =>
  have c7 : Tryz.prog.cellsOf 77 = 7 := by kernel_rfl
  obtain ⟨a, els, rfl, _, ia, ha⟩ := ClsSl (d := 10) Tryz.underlying22 (hp 0 _ p0 rfl rfl) (fun el hel => by obtain ⟨x, a, b, rfl, _⟩ := node_in (d := 6) hel; rw [c7]; rfl)
  obtain ⟨b, R, rfl, _, ib, hb⟩ := ClsIs (d := 10) (k := .i64) Tryz.underlying23 Tryz.underlying3 (by kernel_rfl) (hp 1 _ p1 rfl rfl)
  obtain ⟨c, W, rfl, _, ic, hc⟩ := ClsIs (d := 10) (k := .i64) Tryz.underlying23 Tryz.underlying3 (by kernel_rfl) (hp 2 _ p2 rfl rfl)
  obtain ⟨N, h1, h2, h3⟩ := nodes_in (d := 6) ha
  rw [c7, ← h1] at ia
  refine ⟨⟨N, R, W⟩, ⟨a, b, c, ?_, ⟨fun _ => rfl, _, ia, h2⟩, Ints.mk ib, Ints.mk ic⟩, h3, fun z hz => i64_of (hb z hz), fun z hz => i64_of (hc z hz)⟩
  show AV.agg [_, _, _] = _
  rw [← h1]
end Go.Abs.Tryz
