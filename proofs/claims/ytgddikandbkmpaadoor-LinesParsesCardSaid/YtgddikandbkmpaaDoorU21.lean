/-
  Forms that come in as arguments; which forms are tried; the page's example. No conditions.
-/
import Derived.Test.YtgddikandbkmpaaDoorAbsIn
import Derived.Test.YtgddikandbkmpaaDoorU19
import Derived.Test.YtgddikandbkmpaaDoorM12
set_option linter.unusedVariables false
set_option linter.unusedSimpArgs false
set_option linter.constructorNameAsVariable false
set_option linter.unusedSimpArgs false
set_option linter.unusedVariables false
set_option maxHeartbeats 2000000
set_option maxRecDepth 100000
namespace Go.Abs
open Go
variable {P : Program}
end Go.Abs
namespace Go.Abs.Tryd
open Go Go.Abs Go.Proofs
variable {O : Type}
structure _root_.Go.Abs.FV.rngL (F : FV) : Prop where
 n : ∀ x ∈ F.nodes, x.rng
 r : ∀ z ∈ F.roots, I64 z
 w : ∀ z ∈ F.weak, I64 z
structure Tried46 (F : FV) : Prop where
 n : F.nodes.length ≤ 20
 x : ∀ x ∈ F.nodes, x.P.length ≤ 20 ∧ x.R.length ≤ 20
 r : F.roots.length ≤ 20
 w : F.weak.length ≤ 20
theorem Tried46.lin {F : FV} (h : Tried46 F) (hr : F.rngL) : F.lin := ⟨by have := h.n; omega, fun x hx => ⟨hr.n x hx, by have := (h.x x hx).1; omega, by have := (h.x x hx).2; omega⟩, by have := h.r; omega, by have := h.w; omega, hr.r, hr.w⟩
theorem nil_lin : nilF.lin := by
 refine ⟨Nat.zero_le _, fun x hx => ?_, Nat.zero_le _, Nat.zero_le _, fun x hx => ?_, fun x hx => ?_⟩
 ·cases hx
 ·cases hx
 ·cases hx
theorem nil_parse : lparseT [114, 111, 111, 116, 115, 10, 119, 101, 97, 107, 10] = (nilF, 0, 0) := parse_form (F := nilF) (fun x hx => by cases hx) (fun x hx => by cases hx) (fun x hx => by cases hx) rfl
theorem awake46_ok {σ : AH O} : Ok (law46_awake [] σ) fun r => r.1 = .b true ∧ Ext σ r.2 := by
 unfold law46_awake law46_awake_c
 refine Ok.cT rfl ?_
 refine Ok.step (gparse_ok (by decide)) ?_
 rintro ⟨v, σ1⟩ ⟨v1, E1⟩
 simp only at v1 E1
 rw [nil_parse] at v1
 obtain ⟨f, rfl, hf⟩ := v1
 obtain ⟨a, b, c, rfl, i1, i2, i3⟩ := hf.it
 refine Ok.to (x := [.agg [.sl a 0, .sl b 0, .sl c 0], .i .i64 0, .i .i64 0]) rfl ?_
 refine Ok.to (x := [.sl a 0, .sl b 0, .sl c 0]) rfl ?_
 refine Ok.to (x := (a, 0)) rfl ?_
 refine Ok.to (x := (b, 0)) rfl ?_
 refine Ok.to (x := (c, 0)) rfl ?_
 refine Ok.to (x := 0) rfl ?_
 refine Ok.to (x := 0) rfl ?_
 have n1 : σ.next + 1 ≤ σ1.next := by simpa using E1.next
 have E1 : Ext σ σ1 := ((Ext.refl σ).bump 1).trans E1
 refine Ok.to (x := σ1.put σ.next (.cells true 25 [.sl a 0, .sl b 0, .sl c 0])) (by simp -implicitDefEqProofs only [Nat.reduceAdd, Nat.reduceMul, Nat.reduceLT, Int.reduceToNat, Int.reduceAdd, Int.reduceSub, Int.reduceMul, rsU, s_ldI, s_ldU, s_ldS, s_ldP, s_gtI, s_gtU, s_gtS, s_bleD, Nat.reduceLeDiff, decide_true, decide_false]) ?_
 have b2 : (σ1.put σ.next (.cells true 25 [.sl a 0, .sl b 0, .sl c 0])).blk σ.next = some (.cells true 25 [.sl a 0, .sl b 0, .sl c 0]) := s_bs
 have E2 : Ext σ (σ1.put σ.next (.cells true 25 [.sl a 0, .sl b 0, .sl c 0])) := E1.put (Nat.le_refl _) _
 have n2 : σ.next + 1 ≤ (σ1.put σ.next (.cells true 25 [.sl a 0, .sl b 0, .sl c 0])).next := n1
 generalize σ1.put σ.next (.cells true 25 [.sl a 0, .sl b 0, .sl c 0]) = σ2 at *
 refine Ok.step (gtext_ok nil_at nil_lin) ?_
 rintro ⟨v, σ3⟩ ⟨v1, E3⟩
 simp only at v1 E3
 subst v1
 have b3 : σ3.blk σ.next = some (.cells true 25 [.sl a 0, .sl b 0, .sl c 0]) := by rw [E3.blk _ (by omega)]; exact b2
 refine Ok.to (x := [114, 111, 111, 116, 115, 10, 119, 101, 97, 107, 10]) rfl ?_
 refine Ok.step (Q := fun r => r = ([.b true], σ3)) (Ok.cT rfl (Ok_some.2 rfl)) ?_
 rintro _ rfl
 refine Ok.to (x := true) rfl ?_
 refine Ok.step (Q := fun r => r = ([.b true], σ3)) (Ok.cT rfl (Ok_some.2 rfl)) ?_
 rintro _ rfl
 refine Ok.to (x := true) rfl ?_
 refine Ok.step (Q := fun r => r.1 = [.b true] ∧ Ext σ3 r.2) ?_ ?_
 ·refine Ok.cT rfl ?_
  refine Ok.to (x := .sl a 0) (by simp -implicitDefEqProofs only [b3, Nat.reduceAdd, Nat.reduceMul, Nat.reduceLT, Int.reduceToNat, Int.reduceAdd, Int.reduceSub, Int.reduceMul, rsU, s_ldI, s_ldU, s_ldS, s_ldP, s_gtI, s_gtU, s_gtS, s_bleD, Nat.reduceLeDiff, decide_true, decide_false]) (Ok.to (x := (a, 0)) rfl ?_)
  refine Ok.to (x := .sl b 0) (by simp -implicitDefEqProofs only [b3, Nat.reduceAdd, Nat.reduceMul, Nat.reduceLT, Int.reduceToNat, Int.reduceAdd, Int.reduceSub, Int.reduceMul, rsU, s_ldI, s_ldU, s_ldS, s_ldP, s_gtI, s_gtU, s_gtS, s_bleD, Nat.reduceLeDiff, decide_true, decide_false]) (Ok.to (x := (b, 0)) rfl ?_)
  refine Ok.to (x := .sl c 0) (by simp -implicitDefEqProofs only [b3, Nat.reduceAdd, Nat.reduceMul, Nat.reduceLT, Int.reduceToNat, Int.reduceAdd, Int.reduceSub, Int.reduceMul, rsU, s_ldI, s_ldU, s_ldS, s_ldP, s_gtI, s_gtU, s_gtS, s_bleD, Nat.reduceLeDiff, decide_true, decide_false]) (Ok.to (x := (c, 0)) rfl ?_)
  refine Ok.step (is_ok (F := nilF) (G := nilF) hf nil_at nil_lin.few nil_lin.few) ?_
  rintro ⟨v, σ4⟩ ⟨v1, E4⟩
  simp only at v1 E4
  subst v1
  exact Ok.to (x := true) (by simp) (Ok_some.2 ⟨rfl, E4⟩)
 ·rintro ⟨v, σ4⟩ ⟨v1, E4⟩
  simp only at v1 E4
  subst v1
  exact Ok.to (x := true) rfl (Ok_some.2 ⟨rfl, (E2.trans E3).trans E4⟩)
end Go.Abs.Tryd
namespace Go.Abs.Tryd
open Go Go.Abs
variable {O : Type}
theorem box_st {σ : AH O} {b el : Nat} {x y z x' y' z' : AV} : (σ.put b (.cells true el [x, y, z])).st (.n b) 0 [x', y', z'] = some (σ.put b (.cells true el [x', y', z'])) := by simp -implicitDefEqProofs only [Nat.reduceAdd, Nat.reduceMul, Nat.reduceLT, Int.reduceToNat, Int.reduceAdd, Int.reduceSub, Int.reduceMul, rsU, s_ldI, s_ldU, s_ldS, s_ldP, s_gtI, s_gtU, s_gtS, s_bleD, Nat.reduceLeDiff, decide_true, decide_false]
theorem form_lin {t : Bs} {F : FV} {m : Nat} (ht : t.length ≤ 1200) (h : lparseT t = (F, m, 0)) : F.lin := by
 obtain ⟨h1, _, _, hx, hr, hw⟩ := form_parse h
 have hlen : (lformT F).length ≤ 1200 := by rw [h1]; exact ht
 rw [lformT_flat] at hlen
 simp only [List.length_append, List.length_cons, List.length_nil] at hlen
 have wl : ∀ (c : UInt8) (ws : List Bs), ws.length ≤ (joinS c ws).length + 1 := fun c ws => by
  cases ws with
  | nil => simp
  | cons w ws =>
   rw [joinS_add]
   have : ∀ us : List Bs, us.length ≤ (us.flatMap (c :: ·)).length := fun us => by
    induction us with
    | nil => simp
    | cons u us ih => simp only [List.flatMap_cons, List.length_append, List.length_cons]; omega
   have := this ws
   simp only [List.length_append, List.length_cons]; omega
 have nl : ∀ (w : Bs) (l : List Int), l.length ≤ (lnumsT w l).length := fun w l => by
  have := wl 32 (w :: l.map numT)
  simp only [List.length_cons, List.length_map] at this
  unfold lnumsT; omega
 have key : ∀ {N : List NV}, N.length ≤ (N.flatMap fun x => lnodeT x ++ [10]).length ∧ ∀ x ∈ N, (lnodeT x).length ≤ (N.flatMap fun x => lnodeT x ++ [10]).length := fun {N} => by
  induction N with
  | nil => exact ⟨by simp, fun x hx => by cases hx⟩
  | cons y N ih =>
   simp only [List.flatMap_cons, List.length_append, List.length_cons, List.length_nil]
   refine ⟨by have := ih.1; omega, fun x hx => ?_⟩
   rcases List.mem_cons.1 hx with rfl | hx
   ·omega
   ·have := ih.2 x hx; omega
 have k := key (N := F.nodes)
 have r1 := nl rootsB F.roots
 have w1 := nl weakB F.weak
 refine ⟨by have := k.1; omega, fun x hx' => ⟨hx x hx', ?_⟩, by omega, by omega, hr, hw⟩
 have e : (lnodeW x).length = 4 + x.P.length + (x.R.length + 1) := by simp [lnodeW]; omega
 have q := wl 32 (lnodeW x)
 rw [e] at q
 have := k.2 x hx'
 have ej : (lnodeT x).length = (joinS 32 (lnodeW x)).length := rfl
 constructor <;> omega
theorem linesParses_ok {σ : AH O} {t : Bs} : Ok (law46_LinesParses [.s t] σ) fun r => r.1 = .b true := by
 unfold law46_LinesParses law46_LinesParses_c
 refine Ok.cT rfl ?_
 refine Ok.to (x := t) rfl ?_
 refine Ok.step awake46_ok ?_
 rintro ⟨v, σ2⟩ ⟨v1, E2⟩
 simp only at v1
 clear E2
 subst v1
 refine Ok.to (x := true) rfl ?_
 refine Ok.cF rfl ?_
 by_cases ht : (t.length : Int) > 1200
 ·exact Ok.cT (decide_eq_true ht) (Ok_some.2 rfl)
 refine Ok.cF (decide_eq_false ht) ?_
 have ht : t.length ≤ 1200 := by omega
 refine Ok.step (gparse_ok (t := t) (by omega)) ?_
 rintro ⟨v, σ3⟩ ⟨v1, E3⟩
 simp only at v1 E3
 have n3 : σ2.next + 1 ≤ σ3.next := by simpa using E3.next
 have hb : ∀ G m k, lparseT t = (G, m, k) → k = 0 ∨ (G = nilF ∧ k ≠ 0) := fun G m k h => by
  by_cases hk : k = 0
  ·exact .inl hk
  ·exact .inr ⟨(parse_not h hk).1, hk⟩
 obtain ⟨G, m, k, hp⟩ : ∃ G m k, lparseT t = (G, m, k) := ⟨_, _, _, rfl⟩
 have hb := hb _ _ _ hp
 have few : G.few := by
  rcases hb with rfl | ⟨rfl, _⟩
  ·exact (form_lin ht hp).few
  ·exact nil_lin.few
 rw [hp] at v1
 obtain ⟨f, rfl, hG⟩ := v1
 have hG0 := hG
 obtain ⟨a, b, c, rfl, i1, i2, i3⟩ := hG.it
 refine Ok.to (x := [.agg [.sl a G.nodes.length, .sl b G.roots.length, .sl c G.weak.length], .i .i64 (m : Int), .i .i64 (k : Int)]) rfl ?_
 refine Ok.to (x := [.sl a G.nodes.length, .sl b G.roots.length, .sl c G.weak.length]) rfl ?_
 refine Ok.to (x := (a, G.nodes.length)) rfl ?_
 refine Ok.to (x := (b, G.roots.length)) rfl ?_
 refine Ok.to (x := (c, G.weak.length)) rfl ?_
 refine Ok.to (x := (m : Int)) rfl ?_
 refine Ok.to (x := (k : Int)) rfl ?_
 refine Ok.to (x := σ3.put σ2.next (.cells true 25 [.sl a G.nodes.length, .sl b G.roots.length, .sl c G.weak.length])) box_st ?_
 obtain ⟨σ4, hσ4⟩ : ∃ s, σ3.put σ2.next (.cells true 25 [.sl a G.nodes.length, .sl b G.roots.length, .sl c G.weak.length]) = s := ⟨_, rfl⟩
 have d4 : σ4.blk σ2.next = some (.cells true 25 [.sl a G.nodes.length, .sl b G.roots.length, .sl c G.weak.length]) := by rw [← hσ4]; exact s_bs
 have n4 : σ4.next = σ3.next := by rw [← hσ4]; rfl
 rw [hσ4]
 clear hσ4 E3
 refine Ok.step (rparse_ok (t := t) (by omega)) ?_
 rintro ⟨v, σ5⟩ ⟨v1, E5⟩
 simp only at v1 E5
 have n5 : σ4.next + 1 ≤ σ5.next := by simpa using E5.next
 rw [hp] at v1
 obtain ⟨f, rfl, hH⟩ := v1
 have hH0 := hH
 obtain ⟨a2, b2, c2, rfl, j1, j2, j3⟩ := hH.it
 refine Ok.to (x := [.agg [.sl a2 G.nodes.length, .sl b2 G.roots.length, .sl c2 G.weak.length], .i .i64 (m : Int), .i .i64 (k : Int)]) rfl ?_
 refine Ok.to (x := [.sl a2 G.nodes.length, .sl b2 G.roots.length, .sl c2 G.weak.length]) rfl ?_
 refine Ok.to (x := (a2, G.nodes.length)) rfl ?_
 refine Ok.to (x := (b2, G.roots.length)) rfl ?_
 refine Ok.to (x := (c2, G.weak.length)) rfl ?_
 refine Ok.to (x := (m : Int)) rfl ?_
 refine Ok.to (x := (k : Int)) rfl ?_
 refine Ok.to (x := σ5.put σ4.next (.cells true 30 [.sl a2 G.nodes.length, .sl b2 G.roots.length, .sl c2 G.weak.length])) box_st ?_
 obtain ⟨σ6, hσ6⟩ : ∃ s, σ5.put σ4.next (.cells true 30 [.sl a2 G.nodes.length, .sl b2 G.roots.length, .sl c2 G.weak.length]) = s := ⟨_, rfl⟩
 have d6 : σ6.blk σ2.next = some (.cells true 25 [.sl a G.nodes.length, .sl b G.roots.length, .sl c G.weak.length]) := by rw [← hσ6, s_bn (by omega), E5.blk _ (by simp; omega)]; exact d4
 have g6 : σ6.blk σ4.next = some (.cells true 30 [.sl a2 G.nodes.length, .sl b2 G.roots.length, .sl c2 G.weak.length]) := by rw [← hσ6]; exact s_bs
 have n6 : σ6.next = σ5.next := by rw [← hσ6]; rfl
 rw [hσ6]
 clear hσ6 E5
 refine Ok.to (x := .sl a G.nodes.length) (by simp -implicitDefEqProofs only [d6, Nat.reduceAdd, Nat.reduceMul, Nat.reduceLT, Int.reduceToNat, Int.reduceAdd, Int.reduceSub, Int.reduceMul, rsU, s_ldI, s_ldU, s_ldS, s_ldP, s_gtI, s_gtU, s_gtS, s_bleD, Nat.reduceLeDiff, decide_true, decide_false]) (Ok.to (x := (a, G.nodes.length)) rfl ?_)
 refine Ok.to (x := .sl b G.roots.length) (by simp -implicitDefEqProofs only [d6, Nat.reduceAdd, Nat.reduceMul, Nat.reduceLT, Int.reduceToNat, Int.reduceAdd, Int.reduceSub, Int.reduceMul, rsU, s_ldI, s_ldU, s_ldS, s_ldP, s_gtI, s_gtU, s_gtS, s_bleD, Nat.reduceLeDiff, decide_true, decide_false]) (Ok.to (x := (b, G.roots.length)) rfl ?_)
 refine Ok.to (x := .sl c G.weak.length) (by simp -implicitDefEqProofs only [d6, Nat.reduceAdd, Nat.reduceMul, Nat.reduceLT, Int.reduceToNat, Int.reduceAdd, Int.reduceSub, Int.reduceMul, rsU, s_ldI, s_ldU, s_ldS, s_ldP, s_gtI, s_gtU, s_gtS, s_bleD, Nat.reduceLeDiff, decide_true, decide_false]) (Ok.to (x := (c, G.weak.length)) rfl ?_)
 refine Ok.to (x := .sl a2 G.nodes.length) (by simp -implicitDefEqProofs only [g6, Nat.reduceAdd, Nat.reduceMul, Nat.reduceLT, Int.reduceToNat, Int.reduceAdd, Int.reduceSub, Int.reduceMul, rsU, s_ldI, s_ldU, s_ldS, s_ldP, s_gtI, s_gtU, s_gtS, s_bleD, Nat.reduceLeDiff, decide_true, decide_false]) (Ok.to (x := (a2, G.nodes.length)) rfl ?_)
 refine Ok.to (x := .sl b2 G.roots.length) (by simp -implicitDefEqProofs only [g6, Nat.reduceAdd, Nat.reduceMul, Nat.reduceLT, Int.reduceToNat, Int.reduceAdd, Int.reduceSub, Int.reduceMul, rsU, s_ldI, s_ldU, s_ldS, s_ldP, s_gtI, s_gtU, s_gtS, s_bleD, Nat.reduceLeDiff, decide_true, decide_false]) (Ok.to (x := (b2, G.roots.length)) rfl ?_)
 refine Ok.to (x := .sl c2 G.weak.length) (by simp -implicitDefEqProofs only [g6, Nat.reduceAdd, Nat.reduceMul, Nat.reduceLT, Int.reduceToNat, Int.reduceAdd, Int.reduceSub, Int.reduceMul, rsU, s_ldI, s_ldU, s_ldS, s_ldP, s_gtI, s_gtU, s_gtS, s_bleD, Nat.reduceLeDiff, decide_true, decide_false]) (Ok.to (x := (c2, G.weak.length)) rfl ?_)
 refine Ok.step (is_ok hG0 hH0 few few) ?_
 rintro ⟨v, σ7⟩ ⟨v1, E7⟩
 simp only at v1 E7
 subst v1
 have d7 : σ7.blk σ2.next = some (.cells true 25 [.sl a G.nodes.length, .sl b G.roots.length, .sl c G.weak.length]) := by rw [E7.blk _ (by omega)]; exact d6
 refine Ok.to (x := true) (by simp) ?_
 have em : ∀ z : Int, (z != z) = false := fun z => bne_self_eq_false z
 refine Ok.step (Q := fun r => r = ([.b false], σ7)) (Ok.cT rfl (Ok_some.2 (by rw [em]))) ?_
 rintro _ rfl
 refine Ok.to (x := false) rfl ?_
 refine Ok.step (Q := fun r => r = ([.b false], σ7)) (Ok.cT rfl (Ok_some.2 (by rw [em]))) ?_
 rintro _ rfl
 refine Ok.to (x := false) rfl ?_
 refine Ok.cF rfl ?_
 rcases hb with rfl | ⟨_, hk⟩
 ·refine Ok.step (Q := fun r => r.1 = [.b true]) ?_ ?_
  ·refine Ok.cT rfl ?_
   refine Ok.to (x := .sl a G.nodes.length) (by simp -implicitDefEqProofs only [d7, Nat.reduceAdd, Nat.reduceMul, Nat.reduceLT, Int.reduceToNat, Int.reduceAdd, Int.reduceSub, Int.reduceMul, rsU, s_ldI, s_ldU, s_ldS, s_ldP, s_gtI, s_gtU, s_gtS, s_bleD, Nat.reduceLeDiff, decide_true, decide_false]) (Ok.to (x := (a, G.nodes.length)) rfl ?_)
   refine Ok.to (x := .sl b G.roots.length) (by simp -implicitDefEqProofs only [d7, Nat.reduceAdd, Nat.reduceMul, Nat.reduceLT, Int.reduceToNat, Int.reduceAdd, Int.reduceSub, Int.reduceMul, rsU, s_ldI, s_ldU, s_ldS, s_ldP, s_gtI, s_gtU, s_gtS, s_bleD, Nat.reduceLeDiff, decide_true, decide_false]) (Ok.to (x := (b, G.roots.length)) rfl ?_)
   refine Ok.to (x := .sl c G.weak.length) (by simp -implicitDefEqProofs only [d7, Nat.reduceAdd, Nat.reduceMul, Nat.reduceLT, Int.reduceToNat, Int.reduceAdd, Int.reduceSub, Int.reduceMul, rsU, s_ldI, s_ldU, s_ldS, s_ldP, s_gtI, s_gtU, s_gtS, s_bleD, Nat.reduceLeDiff, decide_true, decide_false]) (Ok.to (x := (c, G.weak.length)) rfl ?_)
   have fp := form_parse hp
   refine Ok.step (gtext_ok hG0 (form_lin ht hp)) ?_
   rintro ⟨v, σ8⟩ ⟨v1, E8⟩
   simp only at v1
   rw [if_pos fp.2.2.1, fp.1] at v1
   subst v1
   exact Ok.to (x := t) rfl (Ok_some.2 (by rw [beq_self_eq_true]))
  ·rintro ⟨v, σ8⟩ v1
   simp only at v1
   subst v1
   exact Ok.to (x := true) rfl (Ok_some.2 rfl)
 ·refine Ok.step (Q := fun r => r.1 = [.b true]) (Ok.cF (by rw [bne_iff_ne.2 (show (k : Int) ≠ 0 by omega)]; rfl) (Ok_some.2 rfl)) ?_
  rintro ⟨v, σ8⟩ v1
  simp only at v1
  subst v1
  exact Ok.to (x := true) rfl (Ok_some.2 rfl)
end Go.Abs.Tryd
