/-
  A form with another node, the document's. No conditions.
-/
import Derived.Test.YteklninbijohcaaE90
import Derived.Test.YteklninbijohcaaF93
import Derived.Test.YteklninbijohcaaS4u
import Derived.Test.YteklninbijohcaaF94
import Derived.Test.YteklninbijohcaaF92
set_option linter.unusedVariables false
set_option linter.unusedSimpArgs false
set_option linter.constructorNameAsVariable false
set_option linter.unusedSimpArgs false
set_option linter.unusedVariables false
set_option linter.unusedSectionVars false
set_option maxHeartbeats 2000000
set_option maxRecDepth 100000
namespace Go.Abs.Try
open Go Go.Abs
variable {O : Type}

theorem splice_app {vs rest u : List AV} {o : Nat} (h : o + u.length ≤ vs.length) : splice (vs ++ rest) o u = splice vs o u ++ rest := by
  unfold splice
  rw [List.take_append_of_le_length (by omega), List.drop_append_of_le_length h, List.append_assoc, List.append_assoc, List.append_assoc]
theorem iml_set {l : List NV} {vs u : List AV} {k : Nat} {x : NV} (h : ImL (l.flatMap NV.row) vs) (hk : k < l.length) (hu : ImL x.row u) : ImL ((l.set k x).flatMap NV.row) (splice vs (k * 7) u) := by
  have lu : u.length = 7 := hu.len
  have h1 := h.take (k * 7)
  have h2 := h.drop ((k + 1) * 7)
  rw [← flat_take NV.len] at h1
  rw [← flat_drop NV.len] at h2
  rw [List.set_eq_take_append_cons_drop, if_pos hk, List.flatMap_append, List.flatMap_cons]
  unfold splice
  rw [List.append_assoc, lu, show k * 7 + 7 = (k + 1) * 7 by omega]
  exact h1.app (hu.app h2)
theorem rwith_ok {σ : AH O} {F : FV} {v : AV} {k : Nat} {x : NV} {p q : SA} (hF : F.At v) (hn : F.nodes.length ≤ 10000000) (hk : k < F.nodes.length) (hp : Ints .i64 p x.P) (hq : Ints .u64 q x.R) :
    Ok (haymowref47_with [v, .i .i64 (k : Int), .agg (x.cells p q)] σ) fun r => (⟨F.nodes.set k x, F.roots, F.weak⟩ : FV).At r.1 ∧ Ext σ r.2 := by
  have fin : Ok (haymowref47_with [v, .i .i64 (k : Int), .agg (x.cells p q)] σ) fun r => (∃ vs, r.1 = .agg vs ∧ ImL ((⟨F.nodes.set k x, F.roots, F.weak⟩ : FV).rowE T_haymowref40_Node) vs) ∧ Ext σ r.2 := by
    refine frz_agg (FV.deepE _ (d := 4)) ?_
    obtain ⟨a, b, c, rfl, iN, iR, iW⟩ := hF.it
    obtain ⟨vs, w1, w2, w3⟩ := iN.all
    simp (config := { maxSteps := 2000000 }) -implicitDefEqProofs (disch := (first | omega | rfl | assumption | (simp only [rsD]; first | omega | assumption))) only [haymowref47_with_c, NV.cells, w3, Nat.reduceAdd, Nat.reduceMul, Nat.reduceLT, Int.reduceToNat, Int.reduceAdd, Int.reduceSub, Int.reduceMul, rsU, rsC]
    generalize hs : AH.put _ (σ.next + 3) _ = s1
    have n1 : s1.next = σ.next + 5 := by rw [← hs]; rfl
    have x0 : s1.blk σ.next = some (.cells true T_haymowref40_Form [.sl a F.nodes.length, .sl b F.roots.length, .sl c F.weak.length]) := by rw [← hs]; ((try simp only [rsD] at *); simp -implicitDefEqProofs (disch := (first | omega | rfl | assumption | (simp only [rsD]; first | omega | assumption))) only [s_bs, s_bn, s_kn, bump_blk])
    have x1 : s1.blk (σ.next + 1) = some (.cells true T_haymowref40_Node (x.cells p q)) := by rw [← hs]; ((try simp only [rsD] at *); simp -implicitDefEqProofs (disch := (first | omega | rfl | assumption | (simp only [rsD]; first | omega | assumption))) only [s_bs, s_bn, s_kn, bump_blk]) <;> rfl
    have x2 : s1.blk (σ.next + 2) = some (.cells true T_haymowref40_Form [.sl .nil 0, .sl .nil 0, .sl .nil 0]) := by rw [← hs]; ((try simp only [rsD] at *); simp -implicitDefEqProofs (disch := (first | omega | rfl | assumption | (simp only [rsD]; first | omega | assumption))) only [s_bs, s_bn, s_kn, bump_blk])
    have x3 : s1.blk (σ.next + 3) = some (.cells true T_haymowref40_Node []) := by rw [← hs]; exact s_bs
    have lo : ∀ y, y < σ.next → s1.blk y = σ.blk y := fun y hy => by rw [← hs]; ((try simp only [rsD] at *); simp -implicitDefEqProofs (disch := (first | omega | rfl | assumption | (simp only [rsD]; first | omega | assumption))) only [s_bs, s_bn, s_kn, bump_blk])
    clear hs
    have O0 : OwnP s1 T_haymowref40_Node 7 (.loc (.n (σ.next + 3)) 0 7) 0 [] := OwnP.new (rest := []) (by simp) x3 (by omega)
    refine Ok.step (app_okP (nid := σ.next + 4) O0 (by simp [SA.bk]) (by omega) (m := F.nodes.length) w1) fun r ⟨a', g1, g2, g3, g4, g5⟩ => ?_
    obtain ⟨z, σ2⟩ := r
    simp only [Nat.zero_add, List.nil_append] at g1 g2 g3 g4
    subst g1
    obtain ⟨e, rest, rfl, hb, hlt⟩ := g2.loc (by omega)
    have he : e = σ.next + 4 := g5 e (by simp [SA.bk])
    subst he
    have y0 := (g4 σ.next (by omega) (by simp [SA.bk])).trans x0
    have y1 := (g4 (σ.next + 1) (by omega) (by simp [SA.bk])).trans x1
    have y2 := (g4 (σ.next + 2) (by omega) (by simp [SA.bk])).trans x2
    unfold NV.cells at y1
    have room : k * 7 + 7 ≤ (vs ++ rest).length := by rw [List.length_append, w1]; omega
    simp (config := { maxSteps := 2000000 }) -implicitDefEqProofs (disch := (first | omega | rfl | assumption | (simp only [rsD]; first | omega | assumption))) only [y0, y1, y2, hb, Nat.reduceAdd, Nat.reduceMul, Nat.reduceLT, Int.reduceToNat, Int.reduceAdd, Int.reduceSub, Int.reduceMul, rsU, rsC]
    have hsp := splice_app (vs := vs) (rest := rest) (o := k * 7) (u := [.i .i64 x.h.p, .i .i64 x.h.r, .i .i64 x.h.site, .i .i64 x.h.age, .b x.h.large, .sl p x.P.length, .sl q x.R.length]) (by rw [w1]; show k * 7 + 7 ≤ _; omega)
    rw [hsp]
    have im := iml_set w2 hk (NV.im7 hp hq)
    refine Ok_some.2 ⟨_, rfl, ?_⟩
    have EE : ∀ (s : AH O), s.next = σ2.next → (∀ y, y < σ.next → s.blk y = σ2.blk y) → Ext σ s := fun s h1 h2 => ⟨by omega, fun y hy => by rw [h2 y hy, g4 y (by omega) (by simp [SA.bk]; omega)]; exact lo y hy⟩
    have nw : ∀ (s : AH O), s.next = σ2.next → (∀ y, y < σ.next → s.blk y = σ2.blk y) → s.blk (σ.next + 4) = some (.cells true T_haymowref40_Node (splice vs (k * 7) [.i .i64 x.h.p, .i .i64 x.h.r, .i .i64 x.h.site, .i .i64 x.h.age, .b x.h.large, .sl p x.P.length, .sl q x.R.length] ++ rest)) →
        New σ s ((⟨F.nodes.set k x, F.roots, F.weak⟩ : FV).rowE T_haymowref40_Node) [.sl (.loc (.n (σ.next + 4)) 0 7) F.nodes.length, .sl b F.roots.length, .sl c F.weak.length] := fun s h1 h2 h3 => by
      have O1 : OwnP s T_haymowref40_Node 7 (.loc (.n (σ.next + 4)) 0 7) F.nodes.length (splice vs (k * 7) [.i .i64 x.h.p, .i .i64 x.h.r, .i .i64 x.h.site, .i .i64 x.h.age, .b x.h.large, .sl p x.P.length, .sl q x.R.length]) :=
        OwnP.new (rest := rest) (by rw [splice_len (by rw [w1]; show k * 7 + 7 ≤ _; omega), w1]) h3 (by omega)
      have N1 := New.sl (σ := σ) (m := s.next) (EE s h1 h2) O1 ⟨[], OwL.im im, by simp⟩ (fun y hy => by simp only [SA.bk, List.mem_singleton] at hy; omega) (by omega)
      unfold FV.rowE
      simp only [List.length_set]
      exact N1.app (New.im (.cons (ints_mk iR) (.cons (ints_mk iW) .nil)) (Ext.refl _))
    refine nw _ rfl (fun y hy => ?_) ?_
    · ((try simp only [rsD] at *); simp -implicitDefEqProofs (disch := (first | omega | rfl | assumption | (simp only [rsD]; first | omega | assumption))) only [s_bs, s_bn, s_kn, bump_blk])
    · ((try simp only [rsD] at *); simp -implicitDefEqProofs (disch := (first | omega | rfl | assumption | (simp only [rsD]; first | omega | assumption))) only [s_bs, s_bn, s_kn, bump_blk])
  refine fin.mono ?_
  rintro ⟨z, σ'⟩ ⟨⟨vs, h1, h2⟩, h3⟩
  simp only at h1
  subst h1
  exact ⟨FV.rowE_at h2, h3⟩
end Go.Abs.Try
set_option linter.unusedSimpArgs false
set_option linter.unusedVariables false
set_option linter.unusedSectionVars false
set_option maxHeartbeats 2000000
set_option maxRecDepth 100000
namespace Go.Abs.Try
open Go Go.Abs
variable {O : Type}

theorem sized_take {l : List NV} {n k : Nat} (h : k ≤ n) : (sized l n).take (k + 1) = (sized l n).take k ++ (if k < n then [l.getD k NV.zero] else []) := by
  rw [List.take_add_one]
  congr 1
  by_cases c : k < n
  · rw [sized_get c, if_pos c]; rfl
  · rw [List.getElem?_eq_none (by rw [sized_len]; omega), if_neg c]; rfl
theorem rone_l1 {σ σ1 : AH O} {F : FV} {a b c : SA} {X : List AV} {n : Nat} (iN : Nodes a F.nodes) (hF : F.nodes.length ≤ 10000000) (hn : n ≤ 1048576) (b0 : σ1.blk σ.next = some (.cells true T_haymowref40_Form [.sl a F.nodes.length, .sl b F.roots.length, .sl c F.weak.length])) (b1 : σ1.blk (σ.next + 1) = some (.cells true T_haymowref47_Change X)) (hX : X[3]? = some (.i .i64 (n : Int))) (h1 : σ.next + 3 ≤ σ1.next) :
    Ok (loopF (S := List AV × AH O) (T := List AV × AH O) (haymowref47_one_L1 σ) ([.sl .nil 0, .i .i64 0], σ1)) fun r => ∃ e σ', r = ([.sl e n], σ') ∧ BldO (σ.next + 3) σ' T_haymowref40_Node 7 NV.row e (sized F.nodes n) ∧ σ.next + 3 ≤ σ'.next ∧ ∀ y, y < σ.next + 3 → σ'.blk y = σ1.blk y := by
  refine Ok.count n (fun k st => ∃ e σ', st = ([.sl e k, .i .i64 (k : Int)], σ') ∧ BldO (σ.next + 3) σ' T_haymowref40_Node 7 NV.row e ((sized F.nodes n).take k) ∧ σ.next + 3 ≤ σ'.next ∧ ∀ y, y < σ.next + 3 → σ'.blk y = σ1.blk y) ?_ ?_ ⟨.nil, σ1, rfl, BldO.nil _ _ _ NV.len, h1, fun _ _ => rfl⟩
  · rintro k st hk ⟨e, σ', rfl, B, hn', ho⟩
    have y0 := (ho σ.next (by omega)).trans b0
    have y1 := (ho (σ.next + 1) (by omega)).trans b1
    have di := decide_eq_true (show (k : Int) < (n : Int) by omega)
    have tk : ((sized F.nodes n).take k).length = k := by rw [List.length_take, sized_len]; omega
    have tk1 := sized_take (l := F.nodes) (n := n) (k := k) (by omega)
    rw [if_pos hk] at tk1
    by_cases hkF : k < F.nodes.length
    · obtain ⟨x, hx⟩ : ∃ x, F.nodes[k]? = some x := ⟨_, List.getElem?_eq_getElem hkF⟩
      obtain ⟨u, o, p, q, rfl, hp, hq, l1⟩ := iN.node hx
      have gx : F.nodes.getD k NV.zero = x := by rw [List.getD_eq_getElem?_getD, hx]; rfl
      rw [gx] at tk1
      simp (config := { maxSteps := 2000000 }) -implicitDefEqProofs (disch := (first | omega | rfl | assumption | (simp only [rsD]; first | omega | assumption))) only [haymowref47_one_L1, y0, y1, hX, di, l1, Nat.reduceAdd, Nat.reduceMul, Nat.reduceLT, Int.reduceToNat, Int.reduceAdd, Int.reduceSub, Int.reduceMul, rsU, rsC]
      have pu := B.push (σ3 := (σ'.bump 2).put σ'.next (.cells true T_haymowref40_Node [.i .i64 x.h.p, .i .i64 x.h.r, .i .i64 x.h.site, .i .i64 x.h.age, .b x.h.large, .sl p x.P.length, .sl q x.R.length])) (x := x) (nid := σ'.next + 1) (by omega) (by simp) (fun y h1 h2 => by ((try simp only [rsD] at *); simp -implicitDefEqProofs (disch := (first | omega | rfl | assumption | (simp only [rsD]; first | omega | assumption))) only [s_bs, s_bn, s_kn, bump_blk])) (NV.im7 hp hq) (by omega) (by simp)
      rw [tk, ← tk1] at pu
      refine Ok.step pu fun r ⟨e', g1, g2, g3, g4⟩ => ?_
      obtain ⟨z, σ2⟩ := r
      simp only [rsD] at g1 g2 g3 g4
      subst g1
      simp (config := { maxSteps := 2000000 }) -implicitDefEqProofs (disch := (first | omega | rfl | assumption | (simp only [rsD]; first | omega | assumption))) only [Nat.reduceAdd, Nat.reduceMul, Nat.reduceLT, Int.reduceToNat, Int.reduceAdd, Int.reduceSub, Int.reduceMul, rsU, rsC]
      exact Ok_some.2 ⟨e', σ2, rfl, g2, by omega, fun y hy => by rw [g4 y hy, s_bn (by omega)]; exact ho y hy⟩
    · have gx : F.nodes.getD k NV.zero = NV.zero := by rw [List.getD_eq_getElem?_getD, List.getElem?_eq_none (by omega)]; rfl
      rw [gx] at tk1
      have dj := decide_eq_false (show ¬ (k : Int) < (F.nodes.length : Int) by omega)
      simp (config := { maxSteps := 2000000 }) -implicitDefEqProofs (disch := (first | omega | rfl | assumption | (simp only [rsD]; first | omega | assumption))) only [haymowref47_one_L1, y0, y1, hX, di, dj, Nat.reduceAdd, Nat.reduceMul, Nat.reduceLT, Int.reduceToNat, Int.reduceAdd, Int.reduceSub, Int.reduceMul, rsU, rsC]
      have pu := B.push (σ3 := (σ'.bump 2).put σ'.next (.cells true T_haymowref40_Node [.i .i64 0, .i .i64 0, .i .i64 0, .i .i64 0, .b false, .sl .nil 0, .sl .nil 0])) (x := NV.zero) (nid := σ'.next + 1) (by omega) (by simp) (fun y h1 h2 => by ((try simp only [rsD] at *); simp -implicitDefEqProofs (disch := (first | omega | rfl | assumption | (simp only [rsD]; first | omega | assumption))) only [s_bs, s_bn, s_kn, bump_blk])) (NV.im7 (x := NV.zero) (nil_ints _) (nil_ints _)) (by omega) (by simp)
      rw [tk, ← tk1] at pu
      refine Ok.step pu fun r ⟨e', g1, g2, g3, g4⟩ => ?_
      obtain ⟨z, σ2⟩ := r
      simp only [rsD] at g1 g2 g3 g4
      subst g1
      simp (config := { maxSteps := 2000000 }) -implicitDefEqProofs (disch := (first | omega | rfl | assumption | (simp only [rsD]; first | omega | assumption))) only [Nat.reduceAdd, Nat.reduceMul, Nat.reduceLT, Int.reduceToNat, Int.reduceAdd, Int.reduceSub, Int.reduceMul, rsU, rsC]
      exact Ok_some.2 ⟨e', σ2, rfl, g2, by omega, fun y hy => by rw [g4 y hy, s_bn (by omega)]; exact ho y hy⟩
  · rintro st ⟨e, σ', rfl, B, hn', ho⟩
    have y1 := (ho (σ.next + 1) (by omega)).trans b1
    have di := decide_eq_false (show ¬ (n : Int) < (n : Int) by omega)
    simp (config := { maxSteps := 2000000 }) -implicitDefEqProofs (disch := (first | omega | rfl | assumption | (simp only [rsD]; first | omega | assumption))) only [haymowref47_one_L1, y1, hX, di, Nat.reduceAdd, Nat.reduceMul, Nat.reduceLT, Int.reduceToNat, Int.reduceAdd, Int.reduceSub, Int.reduceMul, rsU, rsC]
    rw [List.take_of_length_le (by rw [sized_len]; omega)] at B
    exact Ok_some.2 ⟨e, σ', rfl, B, hn', ho⟩
/-- what comes of it -/
def ROut (σ : AH O) (G : FV) (n : Int) (r : AV × AH O) : Prop := ∃ vs, r.1 = .tup (.agg vs :: [.i .i64 n]) ∧ New σ r.2 (G.rowE T_haymowref40_Node) vs
theorem ROut.old {σ σ' : AH O} {G : FV} {a b c : SA} (iN : Nodes a G.nodes) (iR : Ints .i64 b G.roots) (iW : Ints .i64 c G.weak) (n : Int) (E : Ext σ σ') : ROut σ G n (.tup [.agg [.sl a G.nodes.length, .sl b G.roots.length, .sl c G.weak.length], .i .i64 n], σ') :=
  ⟨_, rfl, New.im (.cons (iN.im _) (.cons (ints_mk iR) (.cons (ints_mk iW) .nil))) E⟩
theorem rone_0 {σ : AH O} {F : FV} {c : CV} {p q r a b d : SA} (iN : Nodes a F.nodes) (iR : Ints .i64 b F.roots) (iW : Ints .i64 d F.weak) (hF : F.nodes.length ≤ 10000000) (h0 : c.kind = 0) :
    Ok (haymowref47_one_c (fza haymowref47_with) [.agg [.sl a F.nodes.length, .sl b F.roots.length, .sl d F.weak.length], .agg (c.cells p q r)] σ) (ROut σ (one F c).2 (one F c).1) := by
  have d0 := s_eqT h0
  have eo : one F c = if c.to < 0 ∨ c.to > 1048576 then (2, F) else (0, ⟨sized F.nodes c.to.toNat, F.roots, F.weak⟩) := by unfold one; rw [if_pos h0]
  rw [eo]
  simp -implicitDefEqProofs only [haymowref47_one_c, CV.cells, Nat.reduceAdd, Nat.reduceMul, Nat.reduceLT, Int.reduceToNat, Int.reduceAdd, Int.reduceSub, Int.reduceMul, rsU, s_bleD, Nat.reduceLeDiff, decide_true, decide_false]
  generalize hs : AH.put _ (σ.next + 1 + 1) _ = s1
  have n1 : s1.next = σ.next + 3 := by rw [← hs]; rfl
  have x0 : s1.blk σ.next = some (.cells true T_haymowref40_Form [.sl a F.nodes.length, .sl b F.roots.length, .sl d F.weak.length]) := by rw [← hs]; ((try simp only [rsD] at *); simp -implicitDefEqProofs (disch := (first | omega | rfl | assumption | (simp only [rsD]; first | omega | assumption))) only [s_bs, s_bn, s_kn, bump_blk])
  have x1' : s1.blk (σ.next + 1) = some (.cells true T_haymowref47_Change (c.cells p q r)) := by rw [← hs]; ((try simp only [rsD] at *); simp -implicitDefEqProofs (disch := (first | omega | rfl | assumption | (simp only [rsD]; first | omega | assumption))) only [s_bs, s_bn, s_kn, bump_blk]) <;> rfl
  have x1 := x1'
  unfold CV.cells at x1
  have x2 : s1.blk (σ.next + 1 + 1) = some (.cells true T_haymowref40_Form [.sl .nil 0, .sl .nil 0, .sl .nil 0]) := by rw [← hs]; exact s_bs
  have lo : ∀ y, y < σ.next → s1.blk y = σ.blk y := fun y hy => by rw [← hs]; ((try simp only [rsD] at *); simp -implicitDefEqProofs (disch := (first | omega | rfl | assumption | (simp only [rsD]; first | omega | assumption))) only [s_bs, s_bn, s_kn, bump_blk])
  have E1 : Ext σ s1 := ⟨by omega, lo⟩
  clear hs
  by_cases t1 : c.to < 0
  · have q1 := decide_eq_true t1
    rw [if_pos (.inl t1)]
    simp -implicitDefEqProofs only [x1, d0, q1, Nat.reduceAdd, Nat.reduceMul, Nat.reduceLT, Int.reduceToNat, Int.reduceAdd, Int.reduceSub, Int.reduceMul, rsU, s_bleD, Nat.reduceLeDiff, decide_true, decide_false]
    simp (config := { maxSteps := 2000000 }) -implicitDefEqProofs (disch := (first | omega | rfl | assumption | (simp only [rsD]; first | omega | assumption))) only [x0, x1, x2, Nat.reduceAdd, Nat.reduceMul, Nat.reduceLT, Int.reduceToNat, Int.reduceAdd, Int.reduceSub, Int.reduceMul, rsU, rsC]
    refine Ok_some.2 (ROut.old iN iR iW 2 ?_)
    exact (ext_of (by (have x0 := (E1).next); (try simp only [rsD] at *); omega) (fun b hb => by (have x0 := (E1).next); (try simp only [rsD] at *); simp -implicitDefEqProofs (disch := (first | omega | rfl | assumption | (simp only [rsD]; first | omega | assumption))) only [s_bn, s_kn, bump_blk, s_ext (E1)]))
  · have q1 := decide_eq_false t1
    by_cases t2 : c.to > 1048576
    · have q2 := decide_eq_true t2
      rw [if_pos (.inr t2)]
      simp -implicitDefEqProofs only [x1, d0, q1, q2, Nat.reduceAdd, Nat.reduceMul, Nat.reduceLT, Int.reduceToNat, Int.reduceAdd, Int.reduceSub, Int.reduceMul, rsU, s_bleD, Nat.reduceLeDiff, decide_true, decide_false]
      simp (config := { maxSteps := 2000000 }) -implicitDefEqProofs (disch := (first | omega | rfl | assumption | (simp only [rsD]; first | omega | assumption))) only [x0, x1, x2, Nat.reduceAdd, Nat.reduceMul, Nat.reduceLT, Int.reduceToNat, Int.reduceAdd, Int.reduceSub, Int.reduceMul, rsU, rsC]
      refine Ok_some.2 (ROut.old iN iR iW 2 ?_)
      exact (ext_of (by (have x0 := (E1).next); (try simp only [rsD] at *); omega) (fun b hb => by (have x0 := (E1).next); (try simp only [rsD] at *); simp -implicitDefEqProofs (disch := (first | omega | rfl | assumption | (simp only [rsD]; first | omega | assumption))) only [s_bn, s_kn, bump_blk, s_ext (E1)]))
    · have q2 := decide_eq_false t2
      rw [if_neg (by omega)]
      simp -implicitDefEqProofs only [x1, d0, q1, q2, Nat.reduceAdd, Nat.reduceMul, Nat.reduceLT, Int.reduceToNat, Int.reduceAdd, Int.reduceSub, Int.reduceMul, rsU, s_bleD, Nat.reduceLeDiff, decide_true, decide_false]
      refine Ok.step (rone_l1 iN hF (n := c.to.toNat) (by omega) x0 x1' (by show some (AV.i .i64 c.to) = _; rw [show ((c.to.toNat : Nat) : Int) = c.to by omega]) (by omega)) ?_
      rintro _ ⟨e, σ', rfl, B, hn', ho⟩
      have y0 := (ho σ.next (by omega)).trans x0
      have y2 := (ho (σ.next + 1 + 1) (by omega)).trans x2
      simp (config := { maxSteps := 2000000 }) -implicitDefEqProofs (disch := (first | omega | rfl | assumption | (simp only [rsD]; first | omega | assumption))) only [y0, y2, Nat.reduceAdd, Nat.reduceMul, Nat.reduceLT, Int.reduceToNat, Int.reduceAdd, Int.reduceSub, Int.reduceMul, rsU, rsC]
      have nw : ∀ s : AH O, s.next = σ'.next → (∀ y, σ.next + 3 ≤ y → s.blk y = σ'.blk y) → (∀ y, y < σ.next → s.blk y = σ'.blk y) → New σ s ((⟨sized F.nodes c.to.toNat, F.roots, F.weak⟩ : FV).rowE T_haymowref40_Node) [.sl e c.to.toNat, .sl b F.roots.length, .sl d F.weak.length] := fun s h1 h2 h3 => by
        have E : Ext σ s := ⟨by omega, fun y hy => by rw [h3 y hy, ho y (by omega)]; exact lo y hy⟩
        have := (B.keep (σ' := s) (by omega) (fun y hy _ => h2 y hy)).out E (by omega)
        rw [sized_len] at this
        unfold FV.rowE
        simp only [sized_len]
        exact this.app (New.im (.cons (ints_mk iR) (.cons (ints_mk iW) .nil)) (Ext.refl _))
      refine Ok_some.2 ⟨_, rfl, nw _ rfl (fun y hy => ?_) fun y hy => ?_⟩
      · ((try simp only [rsD] at *); simp -implicitDefEqProofs (disch := (first | omega | rfl | assumption | (simp only [rsD]; first | omega | assumption))) only [s_bs, s_bn, s_kn, bump_blk])
      · ((try simp only [rsD] at *); simp -implicitDefEqProofs (disch := (first | omega | rfl | assumption | (simp only [rsD]; first | omega | assumption))) only [s_bs, s_bn, s_kn, bump_blk])
theorem rone_45 {σ : AH O} {F : FV} {c : CV} {p q r a b d : SA} (iN : Nodes a F.nodes) (iR : Ints .i64 b F.roots) (iW : Ints .i64 d F.weak) (hr : Ints .i64 r c.list) (h0 : c.kind ≠ 0) (h1 : ¬ (1 ≤ c.kind ∧ c.kind ≤ 3)) :
    Ok (haymowref47_one_c (fza haymowref47_with) [.agg [.sl a F.nodes.length, .sl b F.roots.length, .sl d F.weak.length], .agg (c.cells p q r)] σ) (ROut σ (one F c).2 (one F c).1) := by
  have d0 := s_eqF h0
  simp -implicitDefEqProofs only [haymowref47_one_c, CV.cells, Nat.reduceAdd, Nat.reduceMul, Nat.reduceLT, Int.reduceToNat, Int.reduceAdd, Int.reduceSub, Int.reduceMul, rsU, s_bleD, Nat.reduceLeDiff, decide_true, decide_false]
  generalize hs : AH.put _ (σ.next + 1 + 1) _ = s1
  have n1 : s1.next = σ.next + 3 := by rw [← hs]; rfl
  have x0 : s1.blk σ.next = some (.cells true T_haymowref40_Form [.sl a F.nodes.length, .sl b F.roots.length, .sl d F.weak.length]) := by rw [← hs]; ((try simp only [rsD] at *); simp -implicitDefEqProofs (disch := (first | omega | rfl | assumption | (simp only [rsD]; first | omega | assumption))) only [s_bs, s_bn, s_kn, bump_blk])
  have x1' : s1.blk (σ.next + 1) = some (.cells true T_haymowref47_Change (c.cells p q r)) := by rw [← hs]; ((try simp only [rsD] at *); simp -implicitDefEqProofs (disch := (first | omega | rfl | assumption | (simp only [rsD]; first | omega | assumption))) only [s_bs, s_bn, s_kn, bump_blk]) <;> rfl
  have x1 := x1'
  unfold CV.cells at x1
  have x2 : s1.blk (σ.next + 1 + 1) = some (.cells true T_haymowref40_Form [.sl .nil 0, .sl .nil 0, .sl .nil 0]) := by rw [← hs]; exact s_bs
  have lo : ∀ y, y < σ.next → s1.blk y = σ.blk y := fun y hy => by rw [← hs]; ((try simp only [rsD] at *); simp -implicitDefEqProofs (disch := (first | omega | rfl | assumption | (simp only [rsD]; first | omega | assumption))) only [s_bs, s_bn, s_kn, bump_blk])
  have E1 : Ext σ s1 := ⟨by omega, lo⟩
  clear hs
  by_cases h4 : c.kind = 4
  · have d4 := s_eqT h4
    have eo : one F c = (0, ⟨F.nodes, c.list, F.weak⟩) := by unfold one; rw [if_neg h0, if_pos h4]
    rw [eo]
    simp -implicitDefEqProofs only [x1, d0, d4, Nat.reduceAdd, Nat.reduceMul, Nat.reduceLT, Int.reduceToNat, Int.reduceAdd, Int.reduceSub, Int.reduceMul, rsU, s_bleD, Nat.reduceLeDiff, decide_true, decide_false]
    simp (config := { maxSteps := 2000000 }) -implicitDefEqProofs (disch := (first | omega | rfl | assumption | (simp only [rsD]; first | omega | assumption))) only [x0, x1, x2, Nat.reduceAdd, Nat.reduceMul, Nat.reduceLT, Int.reduceToNat, Int.reduceAdd, Int.reduceSub, Int.reduceMul, rsU, rsC]
    refine Ok_some.2 (ROut.old (G := ⟨F.nodes, c.list, F.weak⟩) iN hr iW 0 ?_)
    exact (ext_of (by (have x0 := (E1).next); (try simp only [rsD] at *); omega) (fun b hb => by (have x0 := (E1).next); (try simp only [rsD] at *); simp -implicitDefEqProofs (disch := (first | omega | rfl | assumption | (simp only [rsD]; first | omega | assumption))) only [s_bn, s_kn, bump_blk, s_ext (E1)]))
  · have d4 := s_eqF h4
    by_cases h5 : c.kind = 5
    · have d5 := s_eqT h5
      have eo : one F c = (0, ⟨F.nodes, F.roots, c.list⟩) := by unfold one; rw [if_neg h0, if_neg h4, if_pos h5]
      rw [eo]
      simp -implicitDefEqProofs only [x1, d0, d4, d5, Nat.reduceAdd, Nat.reduceMul, Nat.reduceLT, Int.reduceToNat, Int.reduceAdd, Int.reduceSub, Int.reduceMul, rsU, s_bleD, Nat.reduceLeDiff, decide_true, decide_false]
      simp (config := { maxSteps := 2000000 }) -implicitDefEqProofs (disch := (first | omega | rfl | assumption | (simp only [rsD]; first | omega | assumption))) only [x0, x1, x2, Nat.reduceAdd, Nat.reduceMul, Nat.reduceLT, Int.reduceToNat, Int.reduceAdd, Int.reduceSub, Int.reduceMul, rsU, rsC]
      refine Ok_some.2 (ROut.old (G := ⟨F.nodes, F.roots, c.list⟩) iN iR hr 0 ?_)
      exact (ext_of (by (have x0 := (E1).next); (try simp only [rsD] at *); omega) (fun b hb => by (have x0 := (E1).next); (try simp only [rsD] at *); simp -implicitDefEqProofs (disch := (first | omega | rfl | assumption | (simp only [rsD]; first | omega | assumption))) only [s_bn, s_kn, bump_blk, s_ext (E1)]))
    · have d5 := s_eqF h5
      have eo : one F c = (1, F) := by unfold one; rw [if_neg h0, if_neg h4, if_neg h5, if_pos (by omega)]
      rw [eo]
      have q1 := s_eqF (show c.kind ≠ 1 by omega)
      have q2 := s_eqF (show c.kind ≠ 2 by omega)
      have q3 := s_eqF (show c.kind ≠ 3 by omega)
      simp -implicitDefEqProofs only [x1, d0, d4, d5, q1, q2, q3, Nat.reduceAdd, Nat.reduceMul, Nat.reduceLT, Int.reduceToNat, Int.reduceAdd, Int.reduceSub, Int.reduceMul, rsU, s_bleD, Nat.reduceLeDiff, decide_true, decide_false]
      simp (config := { maxSteps := 2000000 }) -implicitDefEqProofs (disch := (first | omega | rfl | assumption | (simp only [rsD]; first | omega | assumption))) only [x0, x1, x2, Nat.reduceAdd, Nat.reduceMul, Nat.reduceLT, Int.reduceToNat, Int.reduceAdd, Int.reduceSub, Int.reduceMul, rsU, rsC]
      refine Ok_some.2 (ROut.old iN iR iW 1 ?_)
      exact (ext_of (by (have x0 := (E1).next); (try simp only [rsD] at *); omega) (fun b hb => by (have x0 := (E1).next); (try simp only [rsD] at *); simp -implicitDefEqProofs (disch := (first | omega | rfl | assumption | (simp only [rsD]; first | omega | assumption))) only [s_bn, s_kn, bump_blk, s_ext (E1)]))
end Go.Abs.Try
set_option linter.unusedSimpArgs false
set_option linter.unusedVariables false
set_option linter.unusedSectionVars false
set_option maxHeartbeats 4000000
set_option maxRecDepth 100000
namespace Go.Abs.Try
open Go Go.Abs
variable {O : Type}

theorem flt_agg {vs : List AV} (h : vs.all AV.flat = true) : (AV.agg vs).flt = true := flts_of_flat h
theorem form_flt {F : FV} {a b d : SA} (iN : Nodes a F.nodes) (iR : Ints .i64 b F.roots) (iW : Ints .i64 d F.weak) : (AV.agg [.sl a F.nodes.length, .sl b F.roots.length, .sl d F.weak.length]).flt = true :=
  flt_agg (by simp only [List.all_cons, List.all_nil, (iN.im 0).flat, (ints_mk iR).flat, (ints_mk iW).flat, Bool.and_self])
theorem with_fza {s : AH O} {F : FV} {a b d p q : SA} {x : NV} {n : Int} (iN : Nodes a F.nodes) (iR : Ints .i64 b F.roots) (iW : Ints .i64 d F.weak) (hp : Ints .i64 p x.P) (hq : Ints .u64 q x.R) :
    fza haymowref47_with [.agg [.sl a F.nodes.length, .sl b F.roots.length, .sl d F.weak.length], .i .i64 n, .agg (x.cells p q)] s = haymowref47_with [.agg [.sl a F.nodes.length, .sl b F.roots.length, .sl d F.weak.length], .i .i64 n, .agg (x.cells p q)] s :=
  fza_eq (frzL_step (frzA_flt (form_flt iN iR iW)) (frzL_step (frzA_flt rfl) (frzL_step (frzA_flt (flt_agg (NV.mk_ hp hq).flat)) rfl)))
/-- behind the last call -/
theorem rone_1 {σ : AH O} {F : FV} {c : CV} {p q r a b d : SA} (iN : Nodes a F.nodes) (iR : Ints .i64 b F.roots) (iW : Ints .i64 d F.weak) (hF : F.nodes.length ≤ 10000000) (fx : ∀ x ∈ F.nodes, x.few) (hp : Ints .i64 p c.whole.P) (hq : Ints .u64 q c.whole.R) (h1 : c.kind = 1) :
    Ok (haymowref47_one_c (fza haymowref47_with) [.agg [.sl a F.nodes.length, .sl b F.roots.length, .sl d F.weak.length], .agg (c.cells p q r)] σ) (ROut σ (one F c).2 (one F c).1) := by
  have d0 := s_eqF (show c.kind ≠ 0 by omega)
  have d1 := s_eqT h1
  have d4 := s_eqF (show c.kind ≠ 4 by omega)
  have d5 := s_eqF (show c.kind ≠ 5 by omega)
  have eo : one F c = ((if c.at_ < 1 ∨ c.at_ > F.nodes.length then (2, F) else match F.nodes[(c.at_ - 1).toNat]? with | none => (2, F) | some x => (0, ⟨F.nodes.set (c.at_ - 1).toNat c.whole, F.roots, F.weak⟩)) : Int × FV) := by
    unfold one; rw [if_neg (by omega), if_neg (by omega), if_neg (by omega), if_neg (by omega)]; simp only [h1, if_true]
    rfl
  rw [eo]
  simp -implicitDefEqProofs only [haymowref47_one_c, CV.cells, Nat.reduceAdd, Nat.reduceMul, Nat.reduceLT, Int.reduceToNat, Int.reduceAdd, Int.reduceSub, Int.reduceMul, rsU, s_bleD, Nat.reduceLeDiff, decide_true, decide_false]
  generalize hs : AH.put _ (σ.next + 1 + 1) _ = s1
  have n1 : s1.next = σ.next + 3 := by rw [← hs]; rfl
  have x0 : s1.blk σ.next = some (.cells true T_haymowref40_Form [.sl a F.nodes.length, .sl b F.roots.length, .sl d F.weak.length]) := by rw [← hs]; ((try simp only [rsD] at *); simp -implicitDefEqProofs (disch := (first | omega | rfl | assumption | (simp only [rsD]; first | omega | assumption))) only [s_bs, s_bn, s_kn, bump_blk])
  have x1' : s1.blk (σ.next + 1) = some (.cells true T_haymowref47_Change (c.cells p q r)) := by rw [← hs]; ((try simp only [rsD] at *); simp -implicitDefEqProofs (disch := (first | omega | rfl | assumption | (simp only [rsD]; first | omega | assumption))) only [s_bs, s_bn, s_kn, bump_blk]) <;> rfl
  have x1 := x1'
  unfold CV.cells at x1
  have x2 : s1.blk (σ.next + 1 + 1) = some (.cells true T_haymowref40_Form [.sl .nil 0, .sl .nil 0, .sl .nil 0]) := by rw [← hs]; exact s_bs
  have lo : ∀ y, y < σ.next → s1.blk y = σ.blk y := fun y hy => by rw [← hs]; ((try simp only [rsD] at *); simp -implicitDefEqProofs (disch := (first | omega | rfl | assumption | (simp only [rsD]; first | omega | assumption))) only [s_bs, s_bn, s_kn, bump_blk])
  have E1 : Ext σ s1 := ⟨by omega, lo⟩
  clear hs
  by_cases a1 : c.at_ < 1
  · have q1 := decide_eq_true a1
    rw [if_pos (.inl a1)]
    simp -implicitDefEqProofs only [x1, x0, d0, d1, d4, d5, q1, Nat.reduceAdd, Nat.reduceMul, Nat.reduceLT, Int.reduceToNat, Int.reduceAdd, Int.reduceSub, Int.reduceMul, rsU, s_bleD, Nat.reduceLeDiff, decide_true, decide_false]
    simp (config := { maxSteps := 2000000 }) -implicitDefEqProofs (disch := (first | omega | rfl | assumption | (simp only [rsD]; first | omega | assumption))) only [x0, x1, x2, Nat.reduceAdd, Nat.reduceMul, Nat.reduceLT, Int.reduceToNat, Int.reduceAdd, Int.reduceSub, Int.reduceMul, rsU, rsC]
    refine Ok_some.2 (ROut.old iN iR iW 2 ?_)
    exact (ext_of (by (have x0 := (E1).next); (try simp only [rsD] at *); omega) (fun b hb => by (have x0 := (E1).next); (try simp only [rsD] at *); simp -implicitDefEqProofs (disch := (first | omega | rfl | assumption | (simp only [rsD]; first | omega | assumption))) only [s_bn, s_kn, bump_blk, s_ext (E1)]))
  have q1 := decide_eq_false a1
  by_cases a2 : c.at_ > F.nodes.length
  · have q2 := decide_eq_true a2
    rw [if_pos (.inr a2)]
    simp -implicitDefEqProofs only [x1, x0, d0, d1, d4, d5, q1, q2, Nat.reduceAdd, Nat.reduceMul, Nat.reduceLT, Int.reduceToNat, Int.reduceAdd, Int.reduceSub, Int.reduceMul, rsU, s_bleD, Nat.reduceLeDiff, decide_true, decide_false]
    simp (config := { maxSteps := 2000000 }) -implicitDefEqProofs (disch := (first | omega | rfl | assumption | (simp only [rsD]; first | omega | assumption))) only [x0, x1, x2, Nat.reduceAdd, Nat.reduceMul, Nat.reduceLT, Int.reduceToNat, Int.reduceAdd, Int.reduceSub, Int.reduceMul, rsU, rsC]
    refine Ok_some.2 (ROut.old iN iR iW 2 ?_)
    exact (ext_of (by (have x0 := (E1).next); (try simp only [rsD] at *); omega) (fun b hb => by (have x0 := (E1).next); (try simp only [rsD] at *); simp -implicitDefEqProofs (disch := (first | omega | rfl | assumption | (simp only [rsD]; first | omega | assumption))) only [s_bn, s_kn, bump_blk, s_ext (E1)]))
  have q2 := decide_eq_false a2
  obtain ⟨k, hk⟩ : ∃ k : Nat, c.at_ = (k : Int) + 1 := ⟨(c.at_ - 1).toNat, by omega⟩
  have ek : (c.at_ - 1).toNat = k := by omega
  have ek2 : c.at_ - 1 = (k : Int) := by omega
  have hkl : k < F.nodes.length := by omega
  rw [if_neg (by omega), ek, List.getElem?_eq_getElem hkl]
  simp only
  simp -implicitDefEqProofs only [x1, x0, d0, d1, d4, d5, q1, q2, Nat.reduceAdd, Nat.reduceMul, Nat.reduceLT, Int.reduceToNat, Int.reduceAdd, Int.reduceSub, Int.reduceMul, rsU, s_bleD, Nat.reduceLeDiff, decide_true, decide_false]
  simp (config := { maxSteps := 2000000 }) -implicitDefEqProofs (disch := (first | omega | rfl | assumption | (simp only [rsD]; first | omega | assumption))) only [x0, x1, x2, Nat.reduceAdd, Nat.reduceMul, Nat.reduceLT, Int.reduceToNat, Int.reduceAdd, Int.reduceSub, Int.reduceMul, rsU, rsC]
  rw [ek2]
  have fz := with_fza (s := s1) (n := (k : Int)) iN iR iW hp hq
  unfold NV.cells at fz
  rw [fz]
  have rw_ := rwith_ok (σ := s1) (k := k) (F := F) ⟨a, b, d, rfl, iN, iR, iW⟩ hF hkl hp hq
  unfold NV.cells at rw_
  refine Ok.step rw_ fun t ⟨g1, E2⟩ => ?_
  obtain ⟨z, σ2⟩ := t
  simp only at g1 E2
  obtain ⟨a', b', d', rfl, jN, jR, jW⟩ := g1.it
  have n2 := E2.next
  have y2 := (E2.blk (σ.next + 1 + 1) (by omega)).trans x2
  simp (config := { maxSteps := 2000000 }) -implicitDefEqProofs (disch := (first | omega | rfl | assumption | (simp only [rsD]; first | omega | assumption))) only [y2, Nat.reduceAdd, Nat.reduceMul, Nat.reduceLT, Int.reduceToNat, Int.reduceAdd, Int.reduceSub, Int.reduceMul, rsU, rsC]
  refine Ok_some.2 (ROut.old jN jR jW 0 ?_)
  exact (ext_of (by (have x0 := (E1).next); (have x1 := (E2).next); (try simp only [rsD] at *); omega) (fun b hb => by (have x0 := (E1).next); (have x1 := (E2).next); (try simp only [rsD] at *); simp -implicitDefEqProofs (disch := (first | omega | rfl | assumption | (simp only [rsD]; first | omega | assumption))) only [s_bn, s_kn, bump_blk, s_ext (E1), s_ext (E2)]))
theorem imm_rd {k : IntKind} {a : SA} {l : List Int} (h : Ints k a l) (s : AH O) : s.rdSl a l.length 1 = some (l.map (AV.i k)) := (h.imm O s).rdSl
theorem frzA_ints {d : Nat} {s : AH O} {b el : Nat} {k : IntKind} {l : List Int} {rest : List AV} (h0 : l.length ≠ 0) (h : s.blk b = some (.cells true el (l.map (AV.i k) ++ rest))) (hf : rest.all AV.flat = true) :
    frzA (d + 2) s (.sl (.loc (.n b) 0 1) l.length) = some (.sl (.loc (.f (l.map (AV.i k))) 0 1) l.length, (s.kill b).put b (.cells false el (l.map (AV.i k) ++ rest))) := by
  have := frzA_sl (d := d + 1) (b := b) (o := 0) (es := 1) (n := l.length) h0 h (by simp) (frzL_flt (d := d) (flts_of_flat (by rw [List.all_append, flat_ints, hf]; rfl)))
  rw [this, List.drop_zero, Nat.mul_one, List.take_append_of_le_length (by simp), List.take_of_length_le (by simp)]
theorem with_fzaP {s : AH O} {F : FV} {a b d q : SA} {x : NV} {n : Int} {e m : Nat} {rest : List AV} (iN : Nodes a F.nodes) (iR : Ints .i64 b F.roots) (iW : Ints .i64 d F.weak) (hq : Ints .u64 q x.R) (hm : m = x.P.length) (h0 : m ≠ 0) (h : s.blk e = some (.cells true 3 (x.P.map (AV.i .i64) ++ rest))) (hf : rest.all AV.flat = true) :
    fza haymowref47_with [.agg [.sl a F.nodes.length, .sl b F.roots.length, .sl d F.weak.length], .i .i64 n, .agg [.i .i64 x.h.p, .i .i64 x.h.r, .i .i64 x.h.site, .i .i64 x.h.age, .b x.h.large, .sl (.loc (.n e) 0 1) m, .sl q x.R.length]] s = haymowref47_with [.agg [.sl a F.nodes.length, .sl b F.roots.length, .sl d F.weak.length], .i .i64 n, .agg (x.cells (.loc (.f (x.P.map (AV.i .i64))) 0 1) q)] ((s.kill e).put e (.cells false 3 (x.P.map (AV.i .i64) ++ rest))) := by
  subst hm
  exact fza_eq (frzL_step (frzA_flt (form_flt iN iR iW)) (frzL_step (frzA_flt rfl) (frzL_step (frzA_agg (d := 6) (frzL_step (frzA_flt rfl) <| frzL_step (frzA_flt rfl) <| frzL_step (frzA_flt rfl) <| frzL_step (frzA_flt rfl) <| frzL_step (frzA_flt rfl) <| frzL_step (frzA_ints h0 h hf) <| frzL_step (frzA_flt (flt_of_flat (ints_mk hq).flat)) rfl)) rfl)))
theorem with_fzaR {s : AH O} {F : FV} {a b d q : SA} {x : NV} {n : Int} {e m : Nat} {rest : List AV} (iN : Nodes a F.nodes) (iR : Ints .i64 b F.roots) (iW : Ints .i64 d F.weak) (hq : Ints .i64 q x.P) (hm : m = x.R.length) (h0 : m ≠ 0) (h : s.blk e = some (.cells true 22 (x.R.map (AV.i .u64) ++ rest))) (hf : rest.all AV.flat = true) :
    fza haymowref47_with [.agg [.sl a F.nodes.length, .sl b F.roots.length, .sl d F.weak.length], .i .i64 n, .agg [.i .i64 x.h.p, .i .i64 x.h.r, .i .i64 x.h.site, .i .i64 x.h.age, .b x.h.large, .sl q x.P.length, .sl (.loc (.n e) 0 1) m]] s = haymowref47_with [.agg [.sl a F.nodes.length, .sl b F.roots.length, .sl d F.weak.length], .i .i64 n, .agg (x.cells q (.loc (.f (x.R.map (AV.i .u64))) 0 1))] ((s.kill e).put e (.cells false 22 (x.R.map (AV.i .u64) ++ rest))) := by
  subst hm
  exact fza_eq (frzL_step (frzA_flt (form_flt iN iR iW)) (frzL_step (frzA_flt rfl) (frzL_step (frzA_agg (d := 6) (frzL_step (frzA_flt rfl) <| frzL_step (frzA_flt rfl) <| frzL_step (frzA_flt rfl) <| frzL_step (frzA_flt rfl) <| frzL_step (frzA_flt rfl) <| frzL_step (frzA_flt (flt_of_flat (ints_mk hq).flat)) <| frzL_step (frzA_ints h0 h hf) rfl)) rfl)))
theorem rone_2 {σ : AH O} {F : FV} {c : CV} {p q r a b d : SA} (iN : Nodes a F.nodes) (iR : Ints .i64 b F.roots) (iW : Ints .i64 d F.weak) (hF : F.nodes.length ≤ 10000000) (fx : ∀ x ∈ F.nodes, x.few) (hp : Ints .i64 p c.whole.P) (hq : Ints .u64 q c.whole.R) (h1 : c.kind = 2) :
    Ok (haymowref47_one_c (fza haymowref47_with) [.agg [.sl a F.nodes.length, .sl b F.roots.length, .sl d F.weak.length], .agg (c.cells p q r)] σ) (ROut σ (one F c).2 (one F c).1) := by
  have d0 := s_eqF (show c.kind ≠ 0 by omega)
  have d1 := s_eqF (show c.kind ≠ 1 by omega)
  have d2 := s_eqT h1
  have d3 := s_eqF (show c.kind ≠ 3 by omega)
  have d4 := s_eqF (show c.kind ≠ 4 by omega)
  have d5 := s_eqF (show c.kind ≠ 5 by omega)
  have eo : one F c = ((if c.at_ < 1 ∨ c.at_ > F.nodes.length then (2, F) else match F.nodes[(c.at_ - 1).toNat]? with | none => (2, F) | some x => if c.slot < 0 ∨ c.slot ≥ x.P.length then (2, F) else (0, ⟨F.nodes.set (c.at_ - 1).toNat ⟨x.h, x.P.set c.slot.toNat c.to, x.R⟩, F.roots, F.weak⟩)) : Int × FV) := by
    unfold one; rw [if_neg (by omega), if_neg (by omega), if_neg (by omega), if_neg (by omega)]
    simp [h1]
    rfl
  rw [eo]
  simp -implicitDefEqProofs only [haymowref47_one_c, CV.cells, Nat.reduceAdd, Nat.reduceMul, Nat.reduceLT, Int.reduceToNat, Int.reduceAdd, Int.reduceSub, Int.reduceMul, rsU, s_bleD, Nat.reduceLeDiff, decide_true, decide_false]
  generalize hs : AH.put _ (σ.next + 1 + 1) _ = s1
  have n1 : s1.next = σ.next + 3 := by rw [← hs]; rfl
  have x0 : s1.blk σ.next = some (.cells true T_haymowref40_Form [.sl a F.nodes.length, .sl b F.roots.length, .sl d F.weak.length]) := by rw [← hs]; ((try simp only [rsD] at *); simp -implicitDefEqProofs (disch := (first | omega | rfl | assumption | (simp only [rsD]; first | omega | assumption))) only [s_bs, s_bn, s_kn, bump_blk])
  have x1' : s1.blk (σ.next + 1) = some (.cells true T_haymowref47_Change (c.cells p q r)) := by rw [← hs]; ((try simp only [rsD] at *); simp -implicitDefEqProofs (disch := (first | omega | rfl | assumption | (simp only [rsD]; first | omega | assumption))) only [s_bs, s_bn, s_kn, bump_blk]) <;> rfl
  have x1 := x1'
  unfold CV.cells at x1
  have x2 : s1.blk (σ.next + 1 + 1) = some (.cells true T_haymowref40_Form [.sl .nil 0, .sl .nil 0, .sl .nil 0]) := by rw [← hs]; exact s_bs
  have lo : ∀ y, y < σ.next → s1.blk y = σ.blk y := fun y hy => by rw [← hs]; ((try simp only [rsD] at *); simp -implicitDefEqProofs (disch := (first | omega | rfl | assumption | (simp only [rsD]; first | omega | assumption))) only [s_bs, s_bn, s_kn, bump_blk])
  have E1 : Ext σ s1 := ⟨by omega, lo⟩
  clear hs
  by_cases a1 : c.at_ < 1
  · have q1 := decide_eq_true a1
    rw [if_pos (.inl a1)]
    simp -implicitDefEqProofs only [x1, x0, d0, d1, d2, d3, d4, d5, q1, Nat.reduceAdd, Nat.reduceMul, Nat.reduceLT, Int.reduceToNat, Int.reduceAdd, Int.reduceSub, Int.reduceMul, rsU, s_bleD, Nat.reduceLeDiff, decide_true, decide_false]
    simp (config := { maxSteps := 2000000 }) -implicitDefEqProofs (disch := (first | omega | rfl | assumption | (simp only [rsD]; first | omega | assumption))) only [x0, x1, x2, Nat.reduceAdd, Nat.reduceMul, Nat.reduceLT, Int.reduceToNat, Int.reduceAdd, Int.reduceSub, Int.reduceMul, rsU, rsC]
    refine Ok_some.2 (ROut.old iN iR iW 2 ?_)
    exact (ext_of (by (have x0 := (E1).next); (try simp only [rsD] at *); omega) (fun b hb => by (have x0 := (E1).next); (try simp only [rsD] at *); simp -implicitDefEqProofs (disch := (first | omega | rfl | assumption | (simp only [rsD]; first | omega | assumption))) only [s_bn, s_kn, bump_blk, s_ext (E1)]))
  have q1 := decide_eq_false a1
  by_cases a2 : c.at_ > F.nodes.length
  · have q2 := decide_eq_true a2
    rw [if_pos (.inr a2)]
    simp -implicitDefEqProofs only [x1, x0, d0, d1, d2, d3, d4, d5, q1, q2, Nat.reduceAdd, Nat.reduceMul, Nat.reduceLT, Int.reduceToNat, Int.reduceAdd, Int.reduceSub, Int.reduceMul, rsU, s_bleD, Nat.reduceLeDiff, decide_true, decide_false]
    simp (config := { maxSteps := 2000000 }) -implicitDefEqProofs (disch := (first | omega | rfl | assumption | (simp only [rsD]; first | omega | assumption))) only [x0, x1, x2, Nat.reduceAdd, Nat.reduceMul, Nat.reduceLT, Int.reduceToNat, Int.reduceAdd, Int.reduceSub, Int.reduceMul, rsU, rsC]
    refine Ok_some.2 (ROut.old iN iR iW 2 ?_)
    exact (ext_of (by (have x0 := (E1).next); (try simp only [rsD] at *); omega) (fun b hb => by (have x0 := (E1).next); (try simp only [rsD] at *); simp -implicitDefEqProofs (disch := (first | omega | rfl | assumption | (simp only [rsD]; first | omega | assumption))) only [s_bn, s_kn, bump_blk, s_ext (E1)]))
  have q2 := decide_eq_false a2
  obtain ⟨k, hk⟩ : ∃ k : Nat, c.at_ = (k : Int) + 1 := ⟨(c.at_ - 1).toNat, by omega⟩
  have ek : (c.at_ - 1).toNat = k := by omega
  have ek2 : c.at_ - 1 = (k : Int) := by omega
  have ewk : IntKind.i64.wrap (c.at_ - 1) = (k : Int) := by rw [s_i64 (by omega), ek2]
  have hkl : k < F.nodes.length := by omega
  obtain ⟨x, hx⟩ : ∃ x, F.nodes[k]? = some x := ⟨_, List.getElem?_eq_getElem hkl⟩
  have fxx := fx x (List.mem_of_getElem? hx)
  have fxp := fxx.p
  have fxr := fxx.r
  have im_N := iN
  obtain ⟨b', o', u, w, rfl, hu, hw, l1⟩ := iN.node hx
  rw [if_neg (by omega), ek, hx]
  simp only
  have lt1 := decide_eq_true (show (0 : Int) ≤ (k : Int) by omega)
  have lt2 := decide_eq_true (show (k : Int) < (F.nodes.length : Int) by omega)
  obtain ⟨l10, l11, l12, l13, l14, l15, l16⟩ := l1 O (s1.bump 1)
  by_cases t1 : c.slot < 0
  · have q3 := decide_eq_true t1
    rw [if_pos (.inl t1)]
    simp -implicitDefEqProofs only [x1, x0, d0, d1, d2, d3, d4, d5, q1, q2, ewk, lt1, lt2, Nat.reduceAdd, Nat.reduceMul, Nat.reduceLT, Int.reduceToNat, Int.reduceAdd, Int.reduceSub, Int.reduceMul, rsU, s_bleD, Nat.reduceLeDiff, decide_true, decide_false]
    simp (config := { maxSteps := 2000000 }) -implicitDefEqProofs (disch := (first | omega | rfl | assumption | (simp only [rsD]; first | omega | assumption))) only [x0, x1, x2, l10, l11, l12, l13, l14, l15, l16, q3, Nat.reduceAdd, Nat.reduceMul, Nat.reduceLT, Int.reduceToNat, Int.reduceAdd, Int.reduceSub, Int.reduceMul, rsU, rsC]
    refine Ok_some.2 (ROut.old im_N iR iW 2 ?_)
    exact (ext_of (by (have x0 := (E1).next); (try simp only [rsD] at *); omega) (fun b hb => by (have x0 := (E1).next); (try simp only [rsD] at *); simp -implicitDefEqProofs (disch := (first | omega | rfl | assumption | (simp only [rsD]; first | omega | assumption))) only [s_bn, s_kn, bump_blk, s_ext (E1)]))
  have q3 := decide_eq_false t1
  by_cases t2 : c.slot ≥ x.P.length
  · have q4 := decide_eq_true (show c.slot ≥ (x.P.length : Int) from t2)
    rw [if_pos (.inr t2)]
    simp -implicitDefEqProofs only [x1, x0, d0, d1, d2, d3, d4, d5, q1, q2, ewk, lt1, lt2, Nat.reduceAdd, Nat.reduceMul, Nat.reduceLT, Int.reduceToNat, Int.reduceAdd, Int.reduceSub, Int.reduceMul, rsU, s_bleD, Nat.reduceLeDiff, decide_true, decide_false]
    simp (config := { maxSteps := 2000000 }) -implicitDefEqProofs (disch := (first | omega | rfl | assumption | (simp only [rsD]; first | omega | assumption))) only [x0, x1, x2, l10, l11, l12, l13, l14, l15, l16, q3, q4, d2, d3, Nat.reduceAdd, Nat.reduceMul, Nat.reduceLT, Int.reduceToNat, Int.reduceAdd, Int.reduceSub, Int.reduceMul, rsU, rsC]
    refine Ok_some.2 (ROut.old im_N iR iW 2 ?_)
    exact (ext_of (by (have x0 := (E1).next); (try simp only [rsD] at *); omega) (fun b hb => by (have x0 := (E1).next); (try simp only [rsD] at *); simp -implicitDefEqProofs (disch := (first | omega | rfl | assumption | (simp only [rsD]; first | omega | assumption))) only [s_bn, s_kn, bump_blk, s_ext (E1)]))
  have q4 := decide_eq_false (show ¬ c.slot ≥ (x.P.length : Int) from t2)
  rw [if_neg (by omega)]
  simp -implicitDefEqProofs only [x1, x0, d0, d1, d2, d3, d4, d5, q1, q2, ewk, lt1, lt2, Nat.reduceAdd, Nat.reduceMul, Nat.reduceLT, Int.reduceToNat, Int.reduceAdd, Int.reduceSub, Int.reduceMul, rsU, s_bleD, Nat.reduceLeDiff, decide_true, decide_false]
  have rd := fun s : AH O => imm_rd hu s
  simp (config := { maxSteps := 2000000 }) -implicitDefEqProofs (disch := (first | omega | rfl | assumption | (simp only [rsD]; first | omega | assumption))) only [x0, x1, x2, l10, l11, l12, l13, l14, l15, l16, q3, q4, d2, d3, rd, Nat.reduceAdd, Nat.reduceMul, Nat.reduceLT, Int.reduceToNat, Int.reduceAdd, Int.reduceSub, Int.reduceMul, rsU, rsC]
  have room : c.slot.toNat < x.P.length := by omega
  generalize hs3 : AH.put _ (s1.next + 1) _ = s3
  have n3 : s3.next = s1.next + 3 := by rw [← hs3]; rfl
  have z0 : s3.blk σ.next = some (.cells true T_haymowref40_Form [.sl (.loc b' o' 7) F.nodes.length, .sl b F.roots.length, .sl d F.weak.length]) := by rw [← hs3]; ((try simp only [rsD] at *); simp -implicitDefEqProofs (disch := (first | omega | rfl | assumption | (simp only [rsD]; first | omega | assumption))) only [s_bs, s_bn, s_kn, bump_blk]); exact x0
  have z1 : s3.blk (σ.next + 1) = some (.cells true T_haymowref47_Change (c.cells p q r)) := by rw [← hs3]; ((try simp only [rsD] at *); simp -implicitDefEqProofs (disch := (first | omega | rfl | assumption | (simp only [rsD]; first | omega | assumption))) only [s_bs, s_bn, s_kn, bump_blk]); exact x1'
  have z2 : s3.blk (σ.next + 1 + 1) = some (.cells true T_haymowref40_Form [.sl .nil 0, .sl .nil 0, .sl .nil 0]) := by rw [← hs3]; ((try simp only [rsD] at *); simp -implicitDefEqProofs (disch := (first | omega | rfl | assumption | (simp only [rsD]; first | omega | assumption))) only [s_bs, s_bn, s_kn, bump_blk]); exact x2
  have z3 : s3.blk s1.next = some (.cells true T_haymowref40_Node [.i .i64 x.h.p, .i .i64 x.h.r, .i .i64 x.h.site, .i .i64 x.h.age, .b x.h.large, .sl u x.P.length, .sl w x.R.length]) := by rw [← hs3]; ((try simp only [rsD] at *); simp -implicitDefEqProofs (disch := (first | omega | rfl | assumption | (simp only [rsD]; first | omega | assumption))) only [s_bs, s_bn, s_kn, bump_blk])
  have z4 : s3.blk (s1.next + 1) = some (.cells true 3 []) := by rw [← hs3]; exact s_bs
  have lo3 : ∀ y, y < σ.next → s3.blk y = σ.blk y := fun y hy => by rw [← hs3]; ((try simp only [rsD] at *); simp -implicitDefEqProofs (disch := (first | omega | rfl | assumption | (simp only [rsD]; first | omega | assumption))) only [s_bs, s_bn, s_kn, bump_blk]); exact lo y hy
  clear hs3
  have O0 : OwnS s3 3 1 (.loc (.n (s1.next + 1)) 0 1) 0 [] := OwnS.new (by simp) z4 (by omega)
  refine Ok.step (app_ok (nid := s1.next + 1 + 1) O0 (by simp [SA.bk]) (by omega) (m := x.P.length) (new := x.P.map (AV.i .i64)) (by simp)) fun t ⟨a', g1, g2, g3, g4, g5⟩ => ?_
  obtain ⟨z, σ4⟩ := t
  simp only [Nat.zero_add, List.nil_append] at g1 g2 g3 g4
  subst g1
  have lo4 : ∀ y, y < s1.next + 1 → σ4.blk y = s3.blk y := fun y hy => g4 y (by omega) (by simp [SA.bk]; omega)
  have O4 : a' = .loc (.n (s1.next + 1 + 1)) 0 1 ∧ σ4.blk (s1.next + 1 + 1) = some (.cells true 3 (x.P.map (AV.i .i64) ++ [])) := by
    have hw := g2.wh
    cases a' with
    | loc b o e =>
      obtain ⟨k, rfl, rfl, rfl, hb, hlt⟩ := hw
      have he := g5 k (by simp [SA.bk])
      subst he
      exact ⟨rfl, by rw [List.append_nil]; exact hb⟩
    | nil => exact absurd hw (by omega)
    | z => exact absurd hw (by omega)
  obtain ⟨rfl, hb⟩ := O4
  obtain ⟨rest, hrest, hb⟩ : ∃ rest : List AV, [] = rest ∧ σ4.blk (s1.next + 1 + 1) = some (.cells true 3 (x.P.map (AV.i .i64) ++ rest)) := ⟨[], rfl, hb⟩
  have y0 := (lo4 σ.next (by omega)).trans z0
  have y1 := (lo4 (σ.next + 1) (by omega)).trans z1
  have y2 := (lo4 (σ.next + 1 + 1) (by omega)).trans z2
  have y3 := (lo4 s1.next (by omega)).trans z3
  unfold CV.cells at y1
  have lt3 := decide_eq_true (show (0 : Int) ≤ c.slot by omega)
  have lt4 := decide_eq_true (show c.slot < (x.P.length : Int) by omega)
  have room2 : c.slot.toNat + 1 ≤ (x.P.map (AV.i .i64) ++ rest).length := by rw [List.length_append, List.length_map]; omega
  simp (config := { maxSteps := 2000000 }) -implicitDefEqProofs (disch := (first | omega | rfl | assumption | (simp only [rsD]; first | omega | assumption))) only [y0, y1, y2, y3, hb, lt3, lt4, Nat.reduceAdd, Nat.reduceMul, Nat.reduceLT, Int.reduceToNat, Int.reduceAdd, Int.reduceSub, Int.reduceMul, rsU, rsC]
  rw [map_poke room, ek2]
  have hlst : (x.P.set c.slot.toNat c.to).length = x.P.length := by simp
  have fz := with_fzaP (s := (σ4.put s1.next (.cells true T_haymowref40_Node [.i .i64 x.h.p, .i .i64 x.h.r, .i .i64 x.h.site, .i .i64 x.h.age, .b x.h.large, .sl (.loc (.n (s1.next + 1 + 1)) 0 1) x.P.length, .sl w x.R.length])).put (s1.next + 1 + 1) (.cells true 3 ((x.P.set c.slot.toNat c.to).map (AV.i .i64) ++ rest))) (n := (k : Int)) (x := (⟨x.h, x.P.set c.slot.toNat c.to, x.R⟩ : NV)) (m := x.P.length) im_N iR iW hw hlst.symm (by omega) s_bs (by rw [← hrest]; rfl)
  simp only at fz
  rw [fz]
  generalize hs8 : AH.put (AH.kill _ _) _ _ = s8
  have n8 : s8.next = σ4.next := by rw [← hs8]; rfl
  have w2 : s8.blk (σ.next + 1 + 1) = some (.cells true T_haymowref40_Form [.sl .nil 0, .sl .nil 0, .sl .nil 0]) := by rw [← hs8]; ((try simp only [rsD] at *); simp -implicitDefEqProofs (disch := (first | omega | rfl | assumption | (simp only [rsD]; first | omega | assumption))) only [s_bs, s_bn, s_kn, bump_blk]); exact y2
  have lo8 : ∀ y, y < σ.next → s8.blk y = σ.blk y := fun y hy => by rw [← hs8]; ((try simp only [rsD] at *); simp -implicitDefEqProofs (disch := (first | omega | rfl | assumption | (simp only [rsD]; first | omega | assumption))) only [s_bs, s_bn, s_kn, bump_blk]); rw [lo4 y (by omega)]; exact lo3 y hy
  have E8 : Ext σ s8 := ⟨by omega, lo8⟩
  clear hs8
  have rw_ := rwith_ok (σ := s8) (k := k) (F := F) (x := (⟨x.h, x.P.set c.slot.toNat c.to, x.R⟩ : NV)) ⟨_, b, d, rfl, im_N, iR, iW⟩ hF hkl (Ints.mk (Imm.f (by simp))) hw
  refine Ok.step rw_ fun t ⟨h1', E2⟩ => ?_
  obtain ⟨z, σ5⟩ := t
  simp only at h1' E2
  obtain ⟨a', b', d', rfl, jN, jR, jW⟩ := h1'.it
  have n5 := E2.next
  have v2 := (E2.blk (σ.next + 1 + 1) (by omega)).trans w2
  simp (config := { maxSteps := 2000000 }) -implicitDefEqProofs (disch := (first | omega | rfl | assumption | (simp only [rsD]; first | omega | assumption))) only [v2, Nat.reduceAdd, Nat.reduceMul, Nat.reduceLT, Int.reduceToNat, Int.reduceAdd, Int.reduceSub, Int.reduceMul, rsU, rsC]
  refine Ok_some.2 (ROut.old jN jR jW 0 ?_)
  exact (ext_of (by (have x0 := (E8).next); (have x1 := (E2).next); (try simp only [rsD] at *); omega) (fun b hb => by (have x0 := (E8).next); (have x1 := (E2).next); (try simp only [rsD] at *); simp -implicitDefEqProofs (disch := (first | omega | rfl | assumption | (simp only [rsD]; first | omega | assumption))) only [s_bn, s_kn, bump_blk, s_ext (E8), s_ext (E2)]))
theorem rone_3 {σ : AH O} {F : FV} {c : CV} {p q r a b d : SA} (iN : Nodes a F.nodes) (iR : Ints .i64 b F.roots) (iW : Ints .i64 d F.weak) (hF : F.nodes.length ≤ 10000000) (fx : ∀ x ∈ F.nodes, x.few) (hp : Ints .i64 p c.whole.P) (hq : Ints .u64 q c.whole.R) (h1 : c.kind = 3) :
    Ok (haymowref47_one_c (fza haymowref47_with) [.agg [.sl a F.nodes.length, .sl b F.roots.length, .sl d F.weak.length], .agg (c.cells p q r)] σ) (ROut σ (one F c).2 (one F c).1) := by
  have d0 := s_eqF (show c.kind ≠ 0 by omega)
  have d1 := s_eqF (show c.kind ≠ 1 by omega)
  have d2 := s_eqF (show c.kind ≠ 2 by omega)
  have d3 := s_eqT h1
  have d4 := s_eqF (show c.kind ≠ 4 by omega)
  have d5 := s_eqF (show c.kind ≠ 5 by omega)
  have eo : one F c = ((if c.at_ < 1 ∨ c.at_ > F.nodes.length then (2, F) else match F.nodes[(c.at_ - 1).toNat]? with | none => (2, F) | some x => if c.slot < 0 ∨ c.slot ≥ x.R.length then (2, F) else (0, ⟨F.nodes.set (c.at_ - 1).toNat ⟨x.h, x.P, x.R.set c.slot.toNat c.word⟩, F.roots, F.weak⟩)) : Int × FV) := by
    unfold one; rw [if_neg (by omega), if_neg (by omega), if_neg (by omega), if_neg (by omega)]
    simp [h1]
    rfl
  rw [eo]
  simp -implicitDefEqProofs only [haymowref47_one_c, CV.cells, Nat.reduceAdd, Nat.reduceMul, Nat.reduceLT, Int.reduceToNat, Int.reduceAdd, Int.reduceSub, Int.reduceMul, rsU, s_bleD, Nat.reduceLeDiff, decide_true, decide_false]
  generalize hs : AH.put _ (σ.next + 1 + 1) _ = s1
  have n1 : s1.next = σ.next + 3 := by rw [← hs]; rfl
  have x0 : s1.blk σ.next = some (.cells true T_haymowref40_Form [.sl a F.nodes.length, .sl b F.roots.length, .sl d F.weak.length]) := by rw [← hs]; ((try simp only [rsD] at *); simp -implicitDefEqProofs (disch := (first | omega | rfl | assumption | (simp only [rsD]; first | omega | assumption))) only [s_bs, s_bn, s_kn, bump_blk])
  have x1' : s1.blk (σ.next + 1) = some (.cells true T_haymowref47_Change (c.cells p q r)) := by rw [← hs]; ((try simp only [rsD] at *); simp -implicitDefEqProofs (disch := (first | omega | rfl | assumption | (simp only [rsD]; first | omega | assumption))) only [s_bs, s_bn, s_kn, bump_blk]) <;> rfl
  have x1 := x1'
  unfold CV.cells at x1
  have x2 : s1.blk (σ.next + 1 + 1) = some (.cells true T_haymowref40_Form [.sl .nil 0, .sl .nil 0, .sl .nil 0]) := by rw [← hs]; exact s_bs
  have lo : ∀ y, y < σ.next → s1.blk y = σ.blk y := fun y hy => by rw [← hs]; ((try simp only [rsD] at *); simp -implicitDefEqProofs (disch := (first | omega | rfl | assumption | (simp only [rsD]; first | omega | assumption))) only [s_bs, s_bn, s_kn, bump_blk])
  have E1 : Ext σ s1 := ⟨by omega, lo⟩
  clear hs
  by_cases a1 : c.at_ < 1
  · have q1 := decide_eq_true a1
    rw [if_pos (.inl a1)]
    simp -implicitDefEqProofs only [x1, x0, d0, d1, d2, d3, d4, d5, q1, Nat.reduceAdd, Nat.reduceMul, Nat.reduceLT, Int.reduceToNat, Int.reduceAdd, Int.reduceSub, Int.reduceMul, rsU, s_bleD, Nat.reduceLeDiff, decide_true, decide_false]
    simp (config := { maxSteps := 2000000 }) -implicitDefEqProofs (disch := (first | omega | rfl | assumption | (simp only [rsD]; first | omega | assumption))) only [x0, x1, x2, Nat.reduceAdd, Nat.reduceMul, Nat.reduceLT, Int.reduceToNat, Int.reduceAdd, Int.reduceSub, Int.reduceMul, rsU, rsC]
    refine Ok_some.2 (ROut.old iN iR iW 2 ?_)
    exact (ext_of (by (have x0 := (E1).next); (try simp only [rsD] at *); omega) (fun b hb => by (have x0 := (E1).next); (try simp only [rsD] at *); simp -implicitDefEqProofs (disch := (first | omega | rfl | assumption | (simp only [rsD]; first | omega | assumption))) only [s_bn, s_kn, bump_blk, s_ext (E1)]))
  have q1 := decide_eq_false a1
  by_cases a2 : c.at_ > F.nodes.length
  · have q2 := decide_eq_true a2
    rw [if_pos (.inr a2)]
    simp -implicitDefEqProofs only [x1, x0, d0, d1, d2, d3, d4, d5, q1, q2, Nat.reduceAdd, Nat.reduceMul, Nat.reduceLT, Int.reduceToNat, Int.reduceAdd, Int.reduceSub, Int.reduceMul, rsU, s_bleD, Nat.reduceLeDiff, decide_true, decide_false]
    simp (config := { maxSteps := 2000000 }) -implicitDefEqProofs (disch := (first | omega | rfl | assumption | (simp only [rsD]; first | omega | assumption))) only [x0, x1, x2, Nat.reduceAdd, Nat.reduceMul, Nat.reduceLT, Int.reduceToNat, Int.reduceAdd, Int.reduceSub, Int.reduceMul, rsU, rsC]
    refine Ok_some.2 (ROut.old iN iR iW 2 ?_)
    exact (ext_of (by (have x0 := (E1).next); (try simp only [rsD] at *); omega) (fun b hb => by (have x0 := (E1).next); (try simp only [rsD] at *); simp -implicitDefEqProofs (disch := (first | omega | rfl | assumption | (simp only [rsD]; first | omega | assumption))) only [s_bn, s_kn, bump_blk, s_ext (E1)]))
  have q2 := decide_eq_false a2
  obtain ⟨k, hk⟩ : ∃ k : Nat, c.at_ = (k : Int) + 1 := ⟨(c.at_ - 1).toNat, by omega⟩
  have ek : (c.at_ - 1).toNat = k := by omega
  have ek2 : c.at_ - 1 = (k : Int) := by omega
  have ewk : IntKind.i64.wrap (c.at_ - 1) = (k : Int) := by rw [s_i64 (by omega), ek2]
  have hkl : k < F.nodes.length := by omega
  obtain ⟨x, hx⟩ : ∃ x, F.nodes[k]? = some x := ⟨_, List.getElem?_eq_getElem hkl⟩
  have fxx := fx x (List.mem_of_getElem? hx)
  have fxp := fxx.p
  have fxr := fxx.r
  have im_N := iN
  obtain ⟨b', o', u, w, rfl, hu, hw, l1⟩ := iN.node hx
  rw [if_neg (by omega), ek, hx]
  simp only
  have lt1 := decide_eq_true (show (0 : Int) ≤ (k : Int) by omega)
  have lt2 := decide_eq_true (show (k : Int) < (F.nodes.length : Int) by omega)
  obtain ⟨l10, l11, l12, l13, l14, l15, l16⟩ := l1 O (s1.bump 1)
  by_cases t1 : c.slot < 0
  · have q3 := decide_eq_true t1
    rw [if_pos (.inl t1)]
    simp -implicitDefEqProofs only [x1, x0, d0, d1, d2, d3, d4, d5, q1, q2, ewk, lt1, lt2, Nat.reduceAdd, Nat.reduceMul, Nat.reduceLT, Int.reduceToNat, Int.reduceAdd, Int.reduceSub, Int.reduceMul, rsU, s_bleD, Nat.reduceLeDiff, decide_true, decide_false]
    simp (config := { maxSteps := 2000000 }) -implicitDefEqProofs (disch := (first | omega | rfl | assumption | (simp only [rsD]; first | omega | assumption))) only [x0, x1, x2, l10, l11, l12, l13, l14, l15, l16, q3, Nat.reduceAdd, Nat.reduceMul, Nat.reduceLT, Int.reduceToNat, Int.reduceAdd, Int.reduceSub, Int.reduceMul, rsU, rsC]
    refine Ok_some.2 (ROut.old im_N iR iW 2 ?_)
    exact (ext_of (by (have x0 := (E1).next); (try simp only [rsD] at *); omega) (fun b hb => by (have x0 := (E1).next); (try simp only [rsD] at *); simp -implicitDefEqProofs (disch := (first | omega | rfl | assumption | (simp only [rsD]; first | omega | assumption))) only [s_bn, s_kn, bump_blk, s_ext (E1)]))
  have q3 := decide_eq_false t1
  by_cases t2 : c.slot ≥ x.R.length
  · have q4 := decide_eq_true (show c.slot ≥ (x.R.length : Int) from t2)
    rw [if_pos (.inr t2)]
    simp -implicitDefEqProofs only [x1, x0, d0, d1, d2, d3, d4, d5, q1, q2, ewk, lt1, lt2, Nat.reduceAdd, Nat.reduceMul, Nat.reduceLT, Int.reduceToNat, Int.reduceAdd, Int.reduceSub, Int.reduceMul, rsU, s_bleD, Nat.reduceLeDiff, decide_true, decide_false]
    simp (config := { maxSteps := 2000000 }) -implicitDefEqProofs (disch := (first | omega | rfl | assumption | (simp only [rsD]; first | omega | assumption))) only [x0, x1, x2, l10, l11, l12, l13, l14, l15, l16, q3, q4, d2, d3, Nat.reduceAdd, Nat.reduceMul, Nat.reduceLT, Int.reduceToNat, Int.reduceAdd, Int.reduceSub, Int.reduceMul, rsU, rsC]
    refine Ok_some.2 (ROut.old im_N iR iW 2 ?_)
    exact (ext_of (by (have x0 := (E1).next); (try simp only [rsD] at *); omega) (fun b hb => by (have x0 := (E1).next); (try simp only [rsD] at *); simp -implicitDefEqProofs (disch := (first | omega | rfl | assumption | (simp only [rsD]; first | omega | assumption))) only [s_bn, s_kn, bump_blk, s_ext (E1)]))
  have q4 := decide_eq_false (show ¬ c.slot ≥ (x.R.length : Int) from t2)
  rw [if_neg (by omega)]
  simp -implicitDefEqProofs only [x1, x0, d0, d1, d2, d3, d4, d5, q1, q2, ewk, lt1, lt2, Nat.reduceAdd, Nat.reduceMul, Nat.reduceLT, Int.reduceToNat, Int.reduceAdd, Int.reduceSub, Int.reduceMul, rsU, s_bleD, Nat.reduceLeDiff, decide_true, decide_false]
  have rd := fun s : AH O => imm_rd hw s
  simp (config := { maxSteps := 2000000 }) -implicitDefEqProofs (disch := (first | omega | rfl | assumption | (simp only [rsD]; first | omega | assumption))) only [x0, x1, x2, l10, l11, l12, l13, l14, l15, l16, q3, q4, d2, d3, rd, Nat.reduceAdd, Nat.reduceMul, Nat.reduceLT, Int.reduceToNat, Int.reduceAdd, Int.reduceSub, Int.reduceMul, rsU, rsC]
  have room : c.slot.toNat < x.R.length := by omega
  generalize hs3 : AH.put _ (s1.next + 1) _ = s3
  have n3 : s3.next = s1.next + 3 := by rw [← hs3]; rfl
  have z0 : s3.blk σ.next = some (.cells true T_haymowref40_Form [.sl (.loc b' o' 7) F.nodes.length, .sl b F.roots.length, .sl d F.weak.length]) := by rw [← hs3]; ((try simp only [rsD] at *); simp -implicitDefEqProofs (disch := (first | omega | rfl | assumption | (simp only [rsD]; first | omega | assumption))) only [s_bs, s_bn, s_kn, bump_blk]); exact x0
  have z1 : s3.blk (σ.next + 1) = some (.cells true T_haymowref47_Change (c.cells p q r)) := by rw [← hs3]; ((try simp only [rsD] at *); simp -implicitDefEqProofs (disch := (first | omega | rfl | assumption | (simp only [rsD]; first | omega | assumption))) only [s_bs, s_bn, s_kn, bump_blk]); exact x1'
  have z2 : s3.blk (σ.next + 1 + 1) = some (.cells true T_haymowref40_Form [.sl .nil 0, .sl .nil 0, .sl .nil 0]) := by rw [← hs3]; ((try simp only [rsD] at *); simp -implicitDefEqProofs (disch := (first | omega | rfl | assumption | (simp only [rsD]; first | omega | assumption))) only [s_bs, s_bn, s_kn, bump_blk]); exact x2
  have z3 : s3.blk s1.next = some (.cells true T_haymowref40_Node [.i .i64 x.h.p, .i .i64 x.h.r, .i .i64 x.h.site, .i .i64 x.h.age, .b x.h.large, .sl u x.P.length, .sl w x.R.length]) := by rw [← hs3]; ((try simp only [rsD] at *); simp -implicitDefEqProofs (disch := (first | omega | rfl | assumption | (simp only [rsD]; first | omega | assumption))) only [s_bs, s_bn, s_kn, bump_blk])
  have z4 : s3.blk (s1.next + 1) = some (.cells true 22 []) := by rw [← hs3]; exact s_bs
  have lo3 : ∀ y, y < σ.next → s3.blk y = σ.blk y := fun y hy => by rw [← hs3]; ((try simp only [rsD] at *); simp -implicitDefEqProofs (disch := (first | omega | rfl | assumption | (simp only [rsD]; first | omega | assumption))) only [s_bs, s_bn, s_kn, bump_blk]); exact lo y hy
  clear hs3
  have O0 : OwnS s3 22 1 (.loc (.n (s1.next + 1)) 0 1) 0 [] := OwnS.new (by simp) z4 (by omega)
  refine Ok.step (app_ok (nid := s1.next + 1 + 1) O0 (by simp [SA.bk]) (by omega) (m := x.R.length) (new := x.R.map (AV.i .u64)) (by simp)) fun t ⟨a', g1, g2, g3, g4, g5⟩ => ?_
  obtain ⟨z, σ4⟩ := t
  simp only [Nat.zero_add, List.nil_append] at g1 g2 g3 g4
  subst g1
  have lo4 : ∀ y, y < s1.next + 1 → σ4.blk y = s3.blk y := fun y hy => g4 y (by omega) (by simp [SA.bk]; omega)
  have O4 : a' = .loc (.n (s1.next + 1 + 1)) 0 1 ∧ σ4.blk (s1.next + 1 + 1) = some (.cells true 22 (x.R.map (AV.i .u64) ++ [])) := by
    have hw := g2.wh
    cases a' with
    | loc b o e =>
      obtain ⟨k, rfl, rfl, rfl, hb, hlt⟩ := hw
      have he := g5 k (by simp [SA.bk])
      subst he
      exact ⟨rfl, by rw [List.append_nil]; exact hb⟩
    | nil => exact absurd hw (by omega)
    | z => exact absurd hw (by omega)
  obtain ⟨rfl, hb⟩ := O4
  obtain ⟨rest, hrest, hb⟩ : ∃ rest : List AV, [] = rest ∧ σ4.blk (s1.next + 1 + 1) = some (.cells true 22 (x.R.map (AV.i .u64) ++ rest)) := ⟨[], rfl, hb⟩
  have y0 := (lo4 σ.next (by omega)).trans z0
  have y1 := (lo4 (σ.next + 1) (by omega)).trans z1
  have y2 := (lo4 (σ.next + 1 + 1) (by omega)).trans z2
  have y3 := (lo4 s1.next (by omega)).trans z3
  unfold CV.cells at y1
  have lt3 := decide_eq_true (show (0 : Int) ≤ c.slot by omega)
  have lt4 := decide_eq_true (show c.slot < (x.R.length : Int) by omega)
  have room2 : c.slot.toNat + 1 ≤ (x.R.map (AV.i .u64) ++ rest).length := by rw [List.length_append, List.length_map]; omega
  simp (config := { maxSteps := 2000000 }) -implicitDefEqProofs (disch := (first | omega | rfl | assumption | (simp only [rsD]; first | omega | assumption))) only [y0, y1, y2, y3, hb, lt3, lt4, Nat.reduceAdd, Nat.reduceMul, Nat.reduceLT, Int.reduceToNat, Int.reduceAdd, Int.reduceSub, Int.reduceMul, rsU, rsC]
  rw [map_poke room, ek2]
  have hlst : (x.R.set c.slot.toNat c.word).length = x.R.length := by simp
  have fz := with_fzaR (s := (σ4.put s1.next (.cells true T_haymowref40_Node [.i .i64 x.h.p, .i .i64 x.h.r, .i .i64 x.h.site, .i .i64 x.h.age, .b x.h.large, .sl u x.P.length, .sl (.loc (.n (s1.next + 1 + 1)) 0 1) x.R.length])).put (s1.next + 1 + 1) (.cells true 22 ((x.R.set c.slot.toNat c.word).map (AV.i .u64) ++ rest))) (n := (k : Int)) (x := (⟨x.h, x.P, x.R.set c.slot.toNat c.word⟩ : NV)) (m := x.R.length) im_N iR iW hu hlst.symm (by omega) s_bs (by rw [← hrest]; rfl)
  simp only at fz
  rw [fz]
  generalize hs8 : AH.put (AH.kill _ _) _ _ = s8
  have n8 : s8.next = σ4.next := by rw [← hs8]; rfl
  have w2 : s8.blk (σ.next + 1 + 1) = some (.cells true T_haymowref40_Form [.sl .nil 0, .sl .nil 0, .sl .nil 0]) := by rw [← hs8]; ((try simp only [rsD] at *); simp -implicitDefEqProofs (disch := (first | omega | rfl | assumption | (simp only [rsD]; first | omega | assumption))) only [s_bs, s_bn, s_kn, bump_blk]); exact y2
  have lo8 : ∀ y, y < σ.next → s8.blk y = σ.blk y := fun y hy => by rw [← hs8]; ((try simp only [rsD] at *); simp -implicitDefEqProofs (disch := (first | omega | rfl | assumption | (simp only [rsD]; first | omega | assumption))) only [s_bs, s_bn, s_kn, bump_blk]); rw [lo4 y (by omega)]; exact lo3 y hy
  have E8 : Ext σ s8 := ⟨by omega, lo8⟩
  clear hs8
  have rw_ := rwith_ok (σ := s8) (k := k) (F := F) (x := (⟨x.h, x.P, x.R.set c.slot.toNat c.word⟩ : NV)) ⟨_, b, d, rfl, im_N, iR, iW⟩ hF hkl hu (Ints.mk (Imm.f (by simp)))
  refine Ok.step rw_ fun t ⟨h1', E2⟩ => ?_
  obtain ⟨z, σ5⟩ := t
  simp only at h1' E2
  obtain ⟨a', b', d', rfl, jN, jR, jW⟩ := h1'.it
  have n5 := E2.next
  have v2 := (E2.blk (σ.next + 1 + 1) (by omega)).trans w2
  simp (config := { maxSteps := 2000000 }) -implicitDefEqProofs (disch := (first | omega | rfl | assumption | (simp only [rsD]; first | omega | assumption))) only [v2, Nat.reduceAdd, Nat.reduceMul, Nat.reduceLT, Int.reduceToNat, Int.reduceAdd, Int.reduceSub, Int.reduceMul, rsU, rsC]
  refine Ok_some.2 (ROut.old jN jR jW 0 ?_)
  exact (ext_of (by (have x0 := (E8).next); (have x1 := (E2).next); (try simp only [rsD] at *); omega) (fun b hb => by (have x0 := (E8).next); (have x1 := (E2).next); (try simp only [rsD] at *); simp -implicitDefEqProofs (disch := (first | omega | rfl | assumption | (simp only [rsD]; first | omega | assumption))) only [s_bn, s_kn, bump_blk, s_ext (E8), s_ext (E2)]))
end Go.Abs.Try
