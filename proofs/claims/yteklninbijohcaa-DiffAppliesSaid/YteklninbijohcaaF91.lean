/-
  What is unlike in two nodes, and in two forms. No conditions.
-/
import Derived.Test.YteklninbijohcaaF90
set_option linter.unusedVariables false
set_option linter.unusedSimpArgs false
set_option linter.constructorNameAsVariable false
set_option linter.unusedSimpArgs false
set_option linter.unusedVariables false
set_option linter.unusedSectionVars false
set_option maxHeartbeats 1000000
namespace Go.Abs.Try
open Go Go.Abs
variable {O : Type}

theorem nodes_l2 {σ σ1 : AH O} {n : Int} {x y : NV} {a c : SA} {e1 : Nat} (hx : x.few) (hy : y.few) (ha : Ints .u64 a x.R) (hc : Ints .u64 c y.R) (hlen : x.R.length = y.R.length) {k0 : SA} {pre : List CV} (hpre : pre.length ≤ 100000) {e0 : SA}
    (b0 : σ1.blk σ.next = some (.cells true e1 (x.cells k0 a))) (hn : σ.next + 2 ≤ σ1.next) (B0 : BldO (σ.next + 2) σ1 T_diff_Change 13 CV.row e0 pre) :
    Ok (loopF (S := List AV × AH O) (T := List AV × AH O) (diff_nodes_L2 (c, y.R.length) σ n) ([.sl e0 pre.length, .i .i64 0], σ1)) fun r => ∃ e σ', r = ([.sl e (pre ++ unlike (ch3 n) x.R y.R y.R.length).length], σ') ∧ BldO (σ.next + 2) σ' T_diff_Change 13 CV.row e (pre ++ unlike (ch3 n) x.R y.R y.R.length) ∧ σ1.next ≤ σ'.next ∧ ∀ b, b < σ.next + 2 → σ'.blk b = σ1.blk b := by
  refine Ok.count y.R.length (fun k s => NdI σ1 (σ.next + 2) (pre ++ unlike (ch3 n) x.R y.R k) k s) ?_ ?_ ⟨e0, σ1, by simp [unlike], by simpa [unlike] using B0, Nat.le_refl _, fun _ _ => rfl⟩
  · rintro k s hk ⟨e, σ2, rfl, B, hn2, ho⟩
    obtain ⟨u, hu⟩ : ∃ u, x.R[k]? = some u := ⟨_, List.getElem?_eq_getElem (by omega)⟩
    obtain ⟨w, hw⟩ : ∃ w, y.R[k]? = some w := ⟨_, List.getElem?_eq_getElem hk⟩
    obtain ⟨p1, o1, rfl, l1⟩ := ha.at hu
    obtain ⟨p2, o2, rfl, l2⟩ := hc.at hw
    have c0 := (ho σ.next (by omega)).trans b0
    have hl := unlike_len (ch3 n) x.R y.R k
    have hfew := hy.r
    have hle : (pre ++ unlike (ch3 n) x.R y.R k).length ≤ 200000 := by rw [List.length_append]; omega
    unfold NV.cells at c0
    by_cases q : u = w
    · have q1 := s_eqT q
      simp (config := { maxSteps := 2000000 }) -implicitDefEqProofs (disch := (first | omega | rfl | assumption | (simp only [rsD]; first | omega | assumption))) only [diff_nodes_L2, c0, l1, l2, q1, Nat.reduceAdd, Nat.reduceMul, Nat.reduceLT, Int.reduceToNat, Int.reduceAdd, Int.reduceSub, Int.reduceMul, rsU, rsC]
      refine Ok_some.2 ⟨e, σ2, ?_, ?_, hn2, ho⟩
      · rw [unlike_succ, hu, hw, q]; simp
      · rw [unlike_succ, hu, hw, q]; simpa using B
    · have q1 := s_eqF q
      simp (config := { maxSteps := 2000000 }) -implicitDefEqProofs (disch := (first | omega | rfl | assumption | (simp only [rsD]; first | omega | assumption))) only [diff_nodes_L2, c0, l1, l2, q1, Nat.reduceAdd, Nat.reduceMul, Nat.reduceLT, Int.reduceToNat, Int.reduceAdd, Int.reduceSub, Int.reduceMul, rsU, rsC]
      refine Ok.step (B.app1 (x := ch3 n k w) (σ2 := σ2) (by omega) (New.im (CV.mk_ (c := ch3 n k w) (a := .nil) (b := .nil) (d := .nil) (Row.nil (int1_len _)) (Row.nil (int1_len _)) (Row.nil (int1_len _))) (Ext.refl _)) (ext_of (by (try simp only [rsD] at *); omega) (fun b hb => by (try simp only [rsD] at *); simp -implicitDefEqProofs (disch := (first | omega | rfl | assumption | (simp only [rsD]; first | omega | assumption))) only [s_bn, s_kn, bump_blk])) (by omega) (by simp)) fun r ⟨e', g1, g2, g3, g4, g5⟩ => ?_
      obtain ⟨z, σ3⟩ := r
      simp only at g1 g2 g3 g4
      subst g1
      have hbk := B.bk
      simp (config := { maxSteps := 2000000 }) -implicitDefEqProofs (disch := (first | omega | rfl | assumption | (simp only [rsD]; first | omega | assumption))) only [Nat.reduceAdd, Nat.reduceMul, Nat.reduceLT, Int.reduceToNat, Int.reduceAdd, Int.reduceSub, Int.reduceMul, rsU, rsC]
      have eu : pre ++ unlike (ch3 n) x.R y.R (k + 1) = (pre ++ unlike (ch3 n) x.R y.R k) ++ [ch3 n k w] := by
        rw [unlike_succ, hu, hw, if_neg (by simpa using q)]; simp [hw]
      refine Ok_some.2 ⟨e', σ3, ?_, ?_, by rw [g3]; simp; omega, fun b hb => ?_⟩
      · rw [eu]; simp [Nat.add_assoc]
      · rw [eu]; exact g2
      · rw [g4 b (by omega) (fun hm => by have := hbk b hm; omega), ← ho b hb]; ((try simp only [rsD] at *); simp -implicitDefEqProofs (disch := (first | omega | rfl | assumption | (simp only [rsD]; first | omega | assumption))) only [s_bs, s_bn, s_kn, bump_blk])
  · rintro s ⟨e, σ2, rfl, B, hn2, ho⟩
    simp (config := { maxSteps := 2000000 }) -implicitDefEqProofs (disch := (first | omega | rfl | assumption | (simp only [rsD]; first | omega | assumption))) only [diff_nodes_L2, Nat.reduceAdd, Nat.reduceMul, Nat.reduceLT, Int.reduceToNat, Int.reduceAdd, Int.reduceSub, Int.reduceMul, rsU, rsC]
    exact Ok_some.2 ⟨e, σ2, rfl, B, hn2, ho⟩
theorem dnodes_len (n : Int) (x y : NV) (hy : y.few) : (dnodes n x y).length ≤ 200000 := by
  unfold dnodes
  have h1 := hy.p
  have h2 := hy.r
  have h3 := unlike_len (ch2 n) x.P y.P y.P.length
  have h4 := unlike_len (ch3 n) x.R y.R y.R.length
  split
  · simp
  · rw [List.length_append]; omega
theorem nodes_ok {σ : AH O} {n : Int} {x y : NV} {a b c d : SA} (hx : x.few) (hy : y.few) (ha : Ints .i64 a x.P) (hb : Ints .u64 b x.R) (hc : Ints .i64 c y.P) (hd : Ints .u64 d y.R) :
    Ok (diff_nodes [.i .i64 n, .agg (x.cells a b), .agg (y.cells c d)] σ) fun r => (∃ e, r.1 = .sl e (dnodes n x y).length ∧ Chgs e (dnodes n x y)) ∧ Ext σ r.2 := by
  have fin : Ok (diff_nodes [.i .i64 n, .agg (x.cells a b), .agg (y.cells c d)] σ) fun r => Im (.sl T_diff_Change 13 (dnodes n x y).length ((dnodes n x y).flatMap CV.row)) r.1 ∧ Ext σ r.2 := by
    refine frz_sl (rows_deep fun x => CV.deep x 5) ?_
    have q := hv_eq x.h y.h
    have hx1 := hx.p
    have hx2 := hx.r
    have hy1 := hy.p
    have hy2 := hy.r
    have bf : (false == false) = true := rfl
    have tf : (true == false) = false := rfl
    by_cases c0 : x.h ≠ y.h ∨ x.P.length ≠ y.P.length ∨ x.R.length ≠ y.R.length
    · have hd0 : dnodes n x y = [⟨1, n, 0, 0, 0, y, []⟩] := by unfold dnodes; rw [if_pos c0]
      rw [hd0]
      have key : ∀ σ1 : AH O, Ext σ σ1 → σ1.next = σ.next + 2 → Ok (diff_clone [.agg (y.cells c d)] (σ1.bump 1)) fun r => ∃ a' b', r.1 = .agg (y.cells a' b') ∧ New σ (r.2.put σ1.next (.cells true T_diff_Change ((⟨1, n, 0, 0, 0, y, []⟩ : CV).cells a' b' .nil))) [.sl T_diff_Change 13 1 ([(⟨1, n, 0, 0, 0, y, []⟩ : CV)].flatMap CV.row)] [.sl (.loc (.n σ1.next) 0 13) 1] := by
        intro σ1 E1 n1
        refine (dclone hc hd hy).mono ?_
        rintro ⟨z, σ2⟩ ⟨a', b', g1, g2, _⟩
        simp only at g1 g2
        subst g1
        refine ⟨a', b', rfl, ?_⟩
        have x2 := g2.e.next
        simp only [rsD] at x2
        refine New.sl (m := σ1.next + 1) (ext_of (by (have x0 := (g2.e).next); (have x1 := (E1).next); (try simp only [rsD] at *); omega) (fun b hb => by (have x0 := (g2.e).next); (have x1 := (E1).next); (try simp only [rsD] at *); simp -implicitDefEqProofs (disch := (first | omega | rfl | assumption | (simp only [rsD]; first | omega | assumption))) only [s_bn, s_kn, bump_blk, s_ext (g2.e), s_ext (E1)])) (OwnS.new (by simp [CV.cells]) s_bs (by simp; omega)).p ?_ (by simp [SA.bk]; omega) (by omega)
        have st := (New.lf (x := .i .i64 1) rfl (New.lf (x := .i .i64 n) rfl (New.lf (x := .i .i64 0) rfl (New.lf (x := .i .i64 0) rfl (New.lf (x := .i .u64 0) rfl (g2.app (New.im (.cons (ints_mk (Row.nil (int1_len .i64))) .nil) (Ext.refl _))))))))
        have := st.still (σ'' := σ2.put σ1.next (.cells true T_diff_Change ((⟨1, n, 0, 0, 0, y, []⟩ : CV).cells a' b' .nil))) (Nat.le_refl _) fun b h1 h2 => by simp only [rsD] at h1; ((try simp only [rsD] at *); simp -implicitDefEqProofs (disch := (first | omega | rfl | assumption | (simp only [rsD]; first | omega | assumption))) only [s_bs, s_bn, s_kn, bump_blk])
        simpa [CV.row, CV.cells, NV.cells, NV.row, HV.cs] using this
      simp only [NV.cells] at key
      by_cases e : x.h = y.h
      · rw [decide_eq_true e] at q
        by_cases e1 : x.P.length = y.P.length
        · have p1 := s_eqT (show (x.P.length : Int) = y.P.length by omega)
          have p2 := s_eqF (show ¬ (x.R.length : Int) = y.R.length by have := c0.resolve_left (fun h => h e); have := this.resolve_left (fun h => h e1); omega)
          simp (config := { maxSteps := 2000000 }) -implicitDefEqProofs (disch := (first | omega | rfl | assumption | (simp only [rsD]; first | omega | assumption))) only [diff_nodes_c, NV.cells, q, bf, tf, p1, p2, Nat.reduceAdd, Nat.reduceMul, Nat.reduceLT, Int.reduceToNat, Int.reduceAdd, Int.reduceSub, Int.reduceMul, rsU, rsC]
          refine Ok.step (key _ (ext_of (by (try simp only [rsD] at *); omega) (fun b hb => by (try simp only [rsD] at *); simp -implicitDefEqProofs (disch := (first | omega | rfl | assumption | (simp only [rsD]; first | omega | assumption))) only [s_bn, s_kn, bump_blk])) (by simp)) fun r ⟨a', b', g1, g2⟩ => ?_
          obtain ⟨z, σ2⟩ := r
          simp only at g1 g2
          subst g1
          simp (config := { maxSteps := 2000000 }) -implicitDefEqProofs (disch := (first | omega | rfl | assumption | (simp only [rsD]; first | omega | assumption))) only [Nat.reduceAdd, Nat.reduceMul, Nat.reduceLT, Int.reduceToNat, Int.reduceAdd, Int.reduceSub, Int.reduceMul, rsU, rsC]
          exact Ok_some.2 g2
        · have p1 := s_eqF (show ¬ (x.P.length : Int) = y.P.length by omega)
          simp (config := { maxSteps := 2000000 }) -implicitDefEqProofs (disch := (first | omega | rfl | assumption | (simp only [rsD]; first | omega | assumption))) only [diff_nodes_c, NV.cells, q, bf, tf, p1, Nat.reduceAdd, Nat.reduceMul, Nat.reduceLT, Int.reduceToNat, Int.reduceAdd, Int.reduceSub, Int.reduceMul, rsU, rsC]
          refine Ok.step (key _ (ext_of (by (try simp only [rsD] at *); omega) (fun b hb => by (try simp only [rsD] at *); simp -implicitDefEqProofs (disch := (first | omega | rfl | assumption | (simp only [rsD]; first | omega | assumption))) only [s_bn, s_kn, bump_blk])) (by simp)) fun r ⟨a', b', g1, g2⟩ => ?_
          obtain ⟨z, σ2⟩ := r
          simp only at g1 g2
          subst g1
          simp (config := { maxSteps := 2000000 }) -implicitDefEqProofs (disch := (first | omega | rfl | assumption | (simp only [rsD]; first | omega | assumption))) only [Nat.reduceAdd, Nat.reduceMul, Nat.reduceLT, Int.reduceToNat, Int.reduceAdd, Int.reduceSub, Int.reduceMul, rsU, rsC]
          exact Ok_some.2 g2
      · rw [decide_eq_false e] at q
        simp (config := { maxSteps := 2000000 }) -implicitDefEqProofs (disch := (first | omega | rfl | assumption | (simp only [rsD]; first | omega | assumption))) only [diff_nodes_c, NV.cells, q, bf, tf, Nat.reduceAdd, Nat.reduceMul, Nat.reduceLT, Int.reduceToNat, Int.reduceAdd, Int.reduceSub, Int.reduceMul, rsU, rsC]
        refine Ok.step (key _ (ext_of (by (try simp only [rsD] at *); omega) (fun b hb => by (try simp only [rsD] at *); simp -implicitDefEqProofs (disch := (first | omega | rfl | assumption | (simp only [rsD]; first | omega | assumption))) only [s_bn, s_kn, bump_blk])) (by simp)) fun r ⟨a', b', g1, g2⟩ => ?_
        obtain ⟨z, σ2⟩ := r
        simp only at g1 g2
        subst g1
        simp (config := { maxSteps := 2000000 }) -implicitDefEqProofs (disch := (first | omega | rfl | assumption | (simp only [rsD]; first | omega | assumption))) only [Nat.reduceAdd, Nat.reduceMul, Nat.reduceLT, Int.reduceToNat, Int.reduceAdd, Int.reduceSub, Int.reduceMul, rsU, rsC]
        exact Ok_some.2 g2
    · have e : x.h = y.h := Decidable.byContradiction fun h => c0 (.inl h)
      have e1 : x.P.length = y.P.length := Decidable.byContradiction fun h => c0 (.inr (.inl h))
      have e2 : x.R.length = y.R.length := Decidable.byContradiction fun h => c0 (.inr (.inr h))
      have hd0 : dnodes n x y = unlike (ch2 n) x.P y.P y.P.length ++ unlike (ch3 n) x.R y.R y.R.length := by unfold dnodes; rw [if_neg c0]
      rw [decide_eq_true e] at q
      have p1 := s_eqT (show (x.P.length : Int) = y.P.length by omega)
      have p2 := s_eqT (show (x.R.length : Int) = y.R.length by omega)
      simp (config := { maxSteps := 2000000 }) -implicitDefEqProofs (disch := (first | omega | rfl | assumption | (simp only [rsD]; first | omega | assumption))) only [diff_nodes_c, NV.cells, q, bf, tf, p1, p2, Nat.reduceAdd, Nat.reduceMul, Nat.reduceLT, Int.reduceToNat, Int.reduceAdd, Int.reduceSub, Int.reduceMul, rsU, rsC]
      refine Ok.step (nodes_l1 hx hy ha hc e1 (k0 := b) (k1 := d) (b' := d) (d' := d) (e2 := 0) (e1 := T_canon_Node) (by unfold NV.cells; ((try simp only [rsD] at *); simp -implicitDefEqProofs (disch := (first | omega | rfl | assumption | (simp only [rsD]; first | omega | assumption))) only [s_bs, s_bn, s_kn, bump_blk])) (by simp)) fun r ⟨e', σ2, g1, g2, g3, g4⟩ => ?_
      subst g1
      have l1 := unlike_len (ch2 n) x.P y.P y.P.length
      simp only [rsD] at g3
      have c0 := g4 σ.next (by omega)
      have c1 := g4 (σ.next + 1) (by omega)
      simp (config := { maxSteps := 2000000 }) -implicitDefEqProofs (disch := (first | omega | rfl | assumption | (simp only [rsD]; first | omega | assumption))) only [Nat.reduceAdd, Nat.reduceMul, Nat.reduceLT, Int.reduceToNat, Int.reduceAdd, Int.reduceSub, Int.reduceMul, rsU, rsC] at c0 c1
      simp (config := { maxSteps := 2000000 }) -implicitDefEqProofs (disch := (first | omega | rfl | assumption | (simp only [rsD]; first | omega | assumption))) only [c1, Nat.reduceAdd, Nat.reduceMul, Nat.reduceLT, Int.reduceToNat, Int.reduceAdd, Int.reduceSub, Int.reduceMul, rsU, rsC]
      refine Ok.step (nodes_l2 hx hy hb hd e2 (by omega) (k0 := a) (e1 := T_canon_Node) (by rw [c0]; rfl) g3 g2) fun r ⟨e3, σ3, h1, h2, h3, h4⟩ => ?_
      subst h1
      simp (config := { maxSteps := 2000000 }) -implicitDefEqProofs (disch := (first | omega | rfl | assumption | (simp only [rsD]; first | omega | assumption))) only [Nat.reduceAdd, Nat.reduceMul, Nat.reduceLT, Int.reduceToNat, Int.reduceAdd, Int.reduceSub, Int.reduceMul, rsU, rsC]
      refine Ok_some.2 ?_
      rw [← hd0] at h2 ⊢
      exact h2.out ⟨by show σ.next ≤ σ3.next; omega, fun b hb => by show σ3.blk b = _; rw [h4 b (by omega), g4 b (by omega)]; ((try simp only [rsD] at *); simp -implicitDefEqProofs (disch := (first | omega | rfl | assumption | (simp only [rsD]; first | omega | assumption))) only [s_bs, s_bn, s_kn, bump_blk])⟩ (by omega)
  refine fin.mono ?_
  rintro ⟨v, σ'⟩ ⟨h1, h2⟩
  exact ⟨Row.of CV.len h1 rfl, h2⟩
end Go.Abs.Try
set_option linter.unusedSimpArgs false
set_option linter.unusedVariables false
set_option linter.unusedSectionVars false
set_option maxHeartbeats 1000000
namespace Go.Abs.Try
open Go Go.Abs
variable {O : Type}

def dsize (a b : FV) : List CV := if a.nodes.length ≠ b.nodes.length then [⟨0, 0, 0, b.nodes.length, 0, NV.zero, []⟩] else []
def dmid (a b : FV) (k : Nat) : List CV := (List.range k).flatMap fun (i : Nat) => dnodes ((i : Int) + 1) (a.nodes.getD i NV.zero) (b.nodes.getD i NV.zero)
def dlist (kind : Int) (p q : List Int) : List CV := if p ≠ q then [⟨kind, 0, 0, 0, 0, NV.zero, q⟩] else []
def dOf (a b : FV) : List CV := dsize a b ++ dmid a b b.nodes.length ++ dlist 4 a.roots b.roots ++ dlist 5 a.weak b.weak
theorem dmid_succ (a b : FV) (k : Nat) : dmid a b (k + 1) = dmid a b k ++ dnodes ((k : Int) + 1) (a.nodes.getD k NV.zero) (b.nodes.getD k NV.zero) := by
  simp [dmid, List.range_succ, List.flatMap_append]
theorem zero_few : NV.zero.few := ⟨by decide, by decide⟩
theorem getD_few {l : List NV} (h : ∀ x ∈ l, x.few) (i : Nat) : (l.getD i NV.zero).few := by
  rw [List.getD_eq_getElem?_getD]
  cases hx : l[i]? with
  | none => exact zero_few
  | some x => exact h x (List.mem_of_getElem? hx)
theorem dmid_len (a b : FV) (hb : b.few) : ∀ k, (dmid a b k).length ≤ k * 200000
  | 0 => by simp [dmid]
  | k + 1 => by
    rw [dmid_succ, List.length_append]
    have := dmid_len a b hb k
    have := dnodes_len (k + 1) (a.nodes.getD k NV.zero) _ (getD_few hb.x k)
    omega
theorem dsize_len (a b : FV) : (dsize a b).length ≤ 1 := by unfold dsize; split <;> simp
theorem dlist_len (k : Int) (p q : List Int) : (dlist k p q).length ≤ 1 := by unfold dlist; split <;> simp
theorem nil_ints (k : IntKind) : Ints k .nil [] := Row.nil (int1_len _)
/-- the nodes, one by one -/
theorem of_loop {σ σ1 : AH O} {F G : FV} {a b c a2 b2 c2 : SA} (fF : F.few) (fG : G.few) (iF : Nodes a F.nodes) (iG : Nodes a2 G.nodes) {e0 : SA} {pre : List CV} (hpre : pre.length ≤ 1) {e1 : Nat}
    (b0 : σ1.blk σ.next = some (.cells true e1 [.sl a F.nodes.length, .sl b F.roots.length, .sl c F.weak.length])) (hn : σ.next + 2 ≤ σ1.next) (B0 : BldO (σ.next + 2) σ1 T_diff_Change 13 CV.row e0 pre) :
    Ok (loopF (S := List AV × AH O) (T := List AV × AH O) (diff_Of_L1 (a2, G.nodes.length) σ diff_nodes) ([.sl e0 pre.length, .i .i64 0], σ1)) fun r => ∃ e σ', r = ([.sl e (pre ++ dmid F G G.nodes.length).length], σ') ∧ BldO (σ.next + 2) σ' T_diff_Change 13 CV.row e (pre ++ dmid F G G.nodes.length) ∧ σ1.next ≤ σ'.next ∧ ∀ b, b < σ.next + 2 → σ'.blk b = σ1.blk b := by
  have fn := fG.n
  have fn2 := fF.n
  refine Ok.count G.nodes.length (fun k s => NdI σ1 (σ.next + 2) (pre ++ dmid F G k) k s) ?_ ?_ ⟨e0, σ1, by simp [dmid], by simpa [dmid] using B0, Nat.le_refl _, fun _ _ => rfl⟩
  · rintro k s hk ⟨e, σ2, rfl, B, hn2, ho⟩
    obtain ⟨y, hy⟩ : ∃ y, G.nodes[k]? = some y := ⟨_, List.getElem?_eq_getElem hk⟩
    obtain ⟨p2, o2, u2, v2, rfl, ju, jv, l2⟩ := iG.node hy
    have fy := fG.x y (List.mem_of_getElem? hy)
    have c0 := (ho σ.next (by omega)).trans b0
    have hml := dmid_len F G fG k
    have hlen : (pre ++ dmid F G k).length ≤ 20000000001 := by
      rw [List.length_append]
      have : k * 200000 ≤ 100000 * 200000 := Nat.mul_le_mul_right _ (by omega)
      omega
    have hle := dnodes_len (k + 1) (F.nodes.getD k NV.zero) y fy
    have hD : dmid F G (k + 1) = dmid F G k ++ dnodes (k + 1) (F.nodes.getD k NV.zero) y := by rw [dmid_succ, show G.nodes.getD k NV.zero = y by rw [List.getD_eq_getElem?_getD, hy]; rfl]
    have hbk := B.bk
    -- behind the call
    have last : ∀ σ3 : AH O, Ext σ2 σ3 → ∀ (nid : Nat), σ2.next ≤ nid → nid < σ3.next → ∀ (q : SA) (new : List AV), ImL ((dnodes (k + 1) (F.nodes.getD k NV.zero) y).flatMap CV.row) new →
        Ok (σ3.appSl nid T_diff_Change 13 e (pre ++ dmid F G k).length (dnodes (k + 1) (F.nodes.getD k NV.zero) y).length new) fun r => ∃ e', r.1 = .sl e' (pre ++ dmid F G (k + 1)).length ∧ NdI σ1 (σ.next + 2) (pre ++ dmid F G (k + 1)) (k + 1) ([.sl e' (pre ++ dmid F G (k + 1)).length, .i .i64 ((k : Int) + 1)], r.2) := by
      intro σ3 E nid h1 h2 q new hnew
      refine (B.app' (by omega) E.next (fun b _ hb => E.blk b hb) ⟨[], OwL.im hnew, by simp⟩ h1 h2).mono ?_
      rintro ⟨z, σ4⟩ ⟨e', g1, g2, g3, g4, g5⟩
      simp only at g1 g2 g3 g4
      subst g1
      have eq : pre ++ dmid F G (k + 1) = (pre ++ dmid F G k) ++ dnodes (k + 1) (F.nodes.getD k NV.zero) y := by rw [hD, List.append_assoc]
      have hE := E.next
      refine ⟨e', congrArg (AV.sl e') (by rw [eq]; simp only [List.length_append]), ⟨e', σ4, by simp, by rw [eq]; exact g2, by omega, fun b hb => ?_⟩⟩
      rw [g4 b (by omega) (fun hm => by have := hbk b hm; omega), ← ho b hb]
      exact E.blk b (by omega)
    by_cases hkF : k < F.nodes.length
    · obtain ⟨x, hx⟩ : ∃ x, F.nodes[k]? = some x := ⟨_, List.getElem?_eq_getElem hkF⟩
      obtain ⟨p1, o1, u1, v1, rfl, iu, iv, l1⟩ := iF.node hx
      have fx := fF.x x (List.mem_of_getElem? hx)
      have hD2 : F.nodes.getD k NV.zero = x := by rw [List.getD_eq_getElem?_getD, hx]; rfl
      rw [hD2] at last hle
      simp (config := { maxSteps := 2000000 }) -implicitDefEqProofs (disch := (first | omega | rfl | assumption | (simp only [rsD]; first | omega | assumption))) only [diff_Of_L1, c0, l1, l2, Nat.reduceAdd, Nat.reduceMul, Nat.reduceLT, Int.reduceToNat, Int.reduceAdd, Int.reduceSub, Int.reduceMul, rsU, rsC]
      refine Ok.step (nodes_ok (n := (k : Int) + 1) fx fy iu iv ju jv) fun r ⟨⟨q, g1, g2⟩, g3⟩ => ?_
      obtain ⟨z, σ3⟩ := r
      simp only at g1 g3
      subst g1
      obtain ⟨new, w1, w2, w3⟩ := g2.all
      have n3 := g3.next
      simp only [rsD] at n3
      simp (config := { maxSteps := 2000000 }) -implicitDefEqProofs (disch := (first | omega | rfl | assumption | (simp only [rsD]; first | omega | assumption))) only [w3, Nat.reduceAdd, Nat.reduceMul, Nat.reduceLT, Int.reduceToNat, Int.reduceAdd, Int.reduceSub, Int.reduceMul, rsU, rsC]
      refine Ok.step (last σ3 (ext_of (by (have x0 := (g3).next); (try simp only [rsD] at *); omega) (fun b hb => by (have x0 := (g3).next); (try simp only [rsD] at *); simp -implicitDefEqProofs (disch := (first | omega | rfl | assumption | (simp only [rsD]; first | omega | assumption))) only [s_bn, s_kn, bump_blk, s_ext (g3)])) _ (by omega) (by omega) q new w2) fun r ⟨e', h1, h2⟩ => ?_
      obtain ⟨z, σ4⟩ := r
      simp only at h1 h2
      subst h1
      simp (config := { maxSteps := 2000000 }) -implicitDefEqProofs (disch := (first | omega | rfl | assumption | (simp only [rsD]; first | omega | assumption))) only [Nat.reduceAdd, Nat.reduceMul, Nat.reduceLT, Int.reduceToNat, Int.reduceAdd, Int.reduceSub, Int.reduceMul, rsU, rsC]
      exact Ok_some.2 h2
    · have hD2 : F.nodes.getD k NV.zero = NV.zero := by rw [List.getD_eq_getElem?_getD, List.getElem?_eq_none (by omega)]; rfl
      rw [hD2] at last hle
      simp (config := { maxSteps := 2000000 }) -implicitDefEqProofs (disch := (first | omega | rfl | assumption | (simp only [rsD]; first | omega | assumption))) only [diff_Of_L1, c0, l2, Nat.reduceAdd, Nat.reduceMul, Nat.reduceLT, Int.reduceToNat, Int.reduceAdd, Int.reduceSub, Int.reduceMul, rsU, rsC]
      refine Ok.step (nodes_ok (n := (k : Int) + 1) (x := NV.zero) zero_few fy (nil_ints _) (nil_ints _) ju jv) fun r ⟨⟨q, g1, g2⟩, g3⟩ => ?_
      obtain ⟨z, σ3⟩ := r
      simp only at g1 g3
      subst g1
      obtain ⟨new, w1, w2, w3⟩ := g2.all
      have n3 := g3.next
      simp only [rsD] at n3
      simp (config := { maxSteps := 2000000 }) -implicitDefEqProofs (disch := (first | omega | rfl | assumption | (simp only [rsD]; first | omega | assumption))) only [w3, Nat.reduceAdd, Nat.reduceMul, Nat.reduceLT, Int.reduceToNat, Int.reduceAdd, Int.reduceSub, Int.reduceMul, rsU, rsC]
      refine Ok.step (last σ3 (ext_of (by (have x0 := (g3).next); (try simp only [rsD] at *); omega) (fun b hb => by (have x0 := (g3).next); (try simp only [rsD] at *); simp -implicitDefEqProofs (disch := (first | omega | rfl | assumption | (simp only [rsD]; first | omega | assumption))) only [s_bn, s_kn, bump_blk, s_ext (g3)])) _ (by omega) (by omega) q new w2) fun r ⟨e', h1, h2⟩ => ?_
      obtain ⟨z, σ4⟩ := r
      simp only at h1 h2
      subst h1
      simp (config := { maxSteps := 2000000 }) -implicitDefEqProofs (disch := (first | omega | rfl | assumption | (simp only [rsD]; first | omega | assumption))) only [Nat.reduceAdd, Nat.reduceMul, Nat.reduceLT, Int.reduceToNat, Int.reduceAdd, Int.reduceSub, Int.reduceMul, rsU, rsC]
      exact Ok_some.2 h2
  · rintro s ⟨e, σ2, rfl, B, hn2, ho⟩
    simp (config := { maxSteps := 2000000 }) -implicitDefEqProofs (disch := (first | omega | rfl | assumption | (simp only [rsD]; first | omega | assumption))) only [diff_Of_L1, Nat.reduceAdd, Nat.reduceMul, Nat.reduceLT, Int.reduceToNat, Int.reduceAdd, Int.reduceSub, Int.reduceMul, rsU, rsC]
    exact Ok_some.2 ⟨e, σ2, rfl, B, hn2, ho⟩
/-- one list more -/
theorem of_tail {σ : AH O} {base : Nat} {kind : Int} {q : List Int} {e a : SA} {l : List CV} (hq : Ints .i64 a q) (hl : q.length ≤ 100000) (B : BldO base σ T_diff_Change 13 CV.row e l) (hb : base ≤ σ.next) :
    Ok (slices_Clone___int_int_ [.sl a q.length] (σ.bump 2)) fun r => ∃ a', r.1 = .sl a' q.length ∧ Ok ((r.2.put σ.next (.cells true T_diff_Change [.i .i64 kind, .i .i64 0, .i .i64 0, .i .i64 0, .i .u64 0, .i .i64 0, .i .i64 0, .i .i64 0, .i .i64 0, .b false, .sl .nil 0, .sl .nil 0, .sl a' q.length])).appSl (σ.next + 1) T_diff_Change 13 e l.length 1 [.i .i64 kind, .i .i64 0, .i .i64 0, .i .i64 0, .i .u64 0, .i .i64 0, .i .i64 0, .i .i64 0, .i .i64 0, .b false, .sl .nil 0, .sl .nil 0, .sl a' q.length]) fun r => ∃ e', r.1 = .sl e' (l.length + 1) ∧ BldO base r.2 T_diff_Change 13 CV.row e' (l ++ [⟨kind, 0, 0, 0, 0, NV.zero, q⟩]) ∧ σ.next ≤ r.2.next ∧ ∀ b, b < base → r.2.blk b = σ.blk b := by
  refine (clone_i hq hl).mono ?_
  rintro ⟨z, σ1⟩ ⟨a', g1, g2, _⟩
  simp only at g1 g2
  subst g1
  refine ⟨a', rfl, ?_⟩
  have n2 := g2.e.next
  simp only [rsD] at n2
  have hbk := B.bk
  have parts := New.app (New.im (ts := (CV.row ⟨kind, 0, 0, 0, 0, NV.zero, q⟩).take 12) (vs := [.i .i64 kind, .i .i64 0, .i .i64 0, .i .i64 0, .i .u64 0, .i .i64 0, .i .i64 0, .i .i64 0, .i .i64 0, .b false, .sl .nil 0, .sl .nil 0]) ((CV.mk_ (c := ⟨kind, 0, 0, 0, 0, NV.zero, []⟩) (nil_ints _) (nil_ints _) (nil_ints _)).take 12) (Ext.refl (σ.bump 2))) g2
  have e12 : (CV.row ⟨kind, 0, 0, 0, 0, NV.zero, q⟩).take 12 ++ [ints .i64 q] = [(⟨kind, 0, 0, 0, 0, NV.zero, q⟩ : CV)].flatMap CV.row := by simp [CV.row, NV.row, HV.cs, NV.zero]
  rw [e12] at parts
  obtain ⟨K, k1, k2⟩ := parts.at_ (σc := σ1.put σ.next (.cells true T_diff_Change [.i .i64 kind, .i .i64 0, .i .i64 0, .i .i64 0, .i .u64 0, .i .i64 0, .i .i64 0, .i .i64 0, .i .i64 0, .b false, .sl .nil 0, .sl .nil 0, .sl a' q.length])) (p := σ.next) (nid := σ.next + 1) (Nat.le_refl _) (fun b h1 h2 => by simp only [rsD] at h1; ((try simp only [rsD] at *); simp -implicitDefEqProofs (disch := (first | omega | rfl | assumption | (simp only [rsD]; first | omega | assumption))) only [s_bs, s_bn, s_kn, bump_blk])) (by simp) (by simp)
  refine (B.app' (m := [⟨kind, 0, 0, 0, 0, NV.zero, q⟩]) hb (by simp; omega) (fun b h1 h2 => by ((have x0 := (g2.e).next); (try simp only [rsD] at *); simp -implicitDefEqProofs (disch := (first | omega | rfl | assumption | (simp only [rsD]; first | omega | assumption))) only [s_bs, s_bn, s_kn, bump_blk, s_ext (g2.e)])) ⟨K, by simpa using k1, k2⟩ (by omega) (by simp; omega)).mono ?_
  rintro ⟨z, σ2⟩ ⟨e', h1, h2, h3, h4, h5⟩
  simp only at h1 h2 h3 h4
  refine ⟨e', h1, h2, by show σ.next ≤ σ2.next; rw [h3]; simp; omega, fun b hb2 => ?_⟩
  show σ2.blk b = _
  rw [h4 b (by omega) (fun hm => by have := hbk b hm; omega)]
  ((have x0 := (g2.e).next); (try simp only [rsD] at *); simp -implicitDefEqProofs (disch := (first | omega | rfl | assumption | (simp only [rsD]; first | omega | assumption))) only [s_bs, s_bn, s_kn, bump_blk, s_ext (g2.e)])
theorem of_ok {σ : AH O} {F G : FV} {v w : AV} (hF : F.At v) (hG : G.At w) (fF : F.few) (fG : G.few) : Ok (diff_Of [v, w] σ) fun r => (∃ e, r.1 = .sl e (dOf F G).length ∧ Chgs e (dOf F G)) ∧ Ext σ r.2 := by
  have fin : Ok (diff_Of [v, w] σ) fun r => Im (.sl T_diff_Change 13 (dOf F G).length ((dOf F G).flatMap CV.row)) r.1 ∧ Ext σ r.2 := by
    refine frz_sl (rows_deep fun x => CV.deep x 5) ?_
    obtain ⟨a1, b1, c1, rfl, i1, i2, i3⟩ := hF.it
    obtain ⟨a2, b2, c2, rfl, j1, j2, j3⟩ := hG.it
    have fn := fF.n
    have gn := fG.n
    -- behind the first change
    have main : ∀ (σ1 : AH O) (e0 : SA), σ.next + 2 ≤ σ1.next → (∀ b, b < σ.next → σ1.blk b = σ.blk b) → σ1.blk σ.next = some (.cells true T_canon_Form [.sl a1 F.nodes.length, .sl b1 F.roots.length, .sl c1 F.weak.length]) → σ1.blk (σ.next + 1) = some (.cells true T_canon_Form [.sl a2 G.nodes.length, .sl b2 G.roots.length, .sl c2 G.weak.length]) →
        BldO (σ.next + 2) σ1 T_diff_Change 13 CV.row e0 (dsize F G) →
        Ok (loopF (S := List AV × AH O) (T := List AV × AH O) (diff_Of_L1 (a2, G.nodes.length) σ diff_nodes) ([.sl e0 (dsize F G).length, .i .i64 0], σ1)) fun r => ∃ e σ', r = ([.sl e (dsize F G ++ dmid F G G.nodes.length).length], σ') ∧ BldO (σ.next + 2) σ' T_diff_Change 13 CV.row e (dsize F G ++ dmid F G G.nodes.length) ∧ σ.next + 2 ≤ σ'.next ∧ (∀ b, b < σ.next → σ'.blk b = σ.blk b) ∧ σ'.blk σ.next = some (.cells true T_canon_Form [.sl a1 F.nodes.length, .sl b1 F.roots.length, .sl c1 F.weak.length]) ∧ σ'.blk (σ.next + 1) = some (.cells true T_canon_Form [.sl a2 G.nodes.length, .sl b2 G.roots.length, .sl c2 G.weak.length]) := by
      intro σ1 e0 n1 o1 x0 x1 B
      refine (of_loop fF fG i1 j1 (dsize_len F G) (b2 := b2) (c2 := c2) (c := c1) (b := b1) x0 n1 B).mono ?_
      rintro r ⟨e, σ2, rfl, h2, h3, h4⟩
      exact ⟨e, σ2, rfl, h2, by omega, fun b hb => (h4 b (by omega)).trans (o1 b hb), (h4 _ (by omega)).trans x0, (h4 _ (by omega)).trans x1⟩
    have fl : ∀ (l : List CV), l = dsize F G ++ dmid F G G.nodes.length → l.length ≤ 20000000001 := fun l hl => by
      rw [hl, List.length_append]
      have h1 := dsize_len F G
      have h2 := dmid_len F G fG G.nodes.length
      have : G.nodes.length * 200000 ≤ 100000 * 200000 := Nat.mul_le_mul_right _ (by omega)
      omega
    -- the lists
    have rest : ∀ (σ2 : AH O) (e : SA) (l : List CV), l.length ≤ 20000000001 → σ.next + 2 ≤ σ2.next → (∀ b, b < σ.next → σ2.blk b = σ.blk b) → BldO (σ.next + 2) σ2 T_diff_Change 13 CV.row e (l ++ dlist 4 F.roots G.roots ++ dlist 5 F.weak G.weak) → New σ σ2 [.sl T_diff_Change 13 (l ++ dlist 4 F.roots G.roots ++ dlist 5 F.weak G.weak).length ((l ++ dlist 4 F.roots G.roots ++ dlist 5 F.weak G.weak).flatMap CV.row)] [.sl e (l ++ dlist 4 F.roots G.roots ++ dlist 5 F.weak G.weak).length] :=
      fun σ2 e l _ n2 o2 B => B.out ⟨by omega, o2⟩ (by omega)
    have dl4 := dlist_len 4 F.roots G.roots
    have fl1 := fl _ rfl
    have fl2 : (dsize F G ++ dmid F G G.nodes.length ++ dlist 4 F.roots G.roots).length ≤ 20000000002 := by rw [List.length_append]; omega
    simp (config := { maxSteps := 2000000 }) -implicitDefEqProofs (disch := (first | omega | rfl | assumption | (simp only [rsD]; first | omega | assumption))) only [diff_Of_c, Nat.reduceAdd, Nat.reduceMul, Nat.reduceLT, Int.reduceToNat, Int.reduceAdd, Int.reduceSub, Int.reduceMul, rsU, rsC]
    refine Ok.step (Q := fun r => ∃ e σ1, r = ([.sl e (dsize F G).length], σ1) ∧ σ.next + 2 ≤ σ1.next ∧ (∀ b, b < σ.next → σ1.blk b = σ.blk b) ∧ σ1.blk σ.next = some (.cells true T_canon_Form [.sl a1 F.nodes.length, .sl b1 F.roots.length, .sl c1 F.weak.length]) ∧ σ1.blk (σ.next + 1) = some (.cells true T_canon_Form [.sl a2 G.nodes.length, .sl b2 G.roots.length, .sl c2 G.weak.length]) ∧ BldO (σ.next + 2) σ1 T_diff_Change 13 CV.row e (dsize F G)) ?_ ?_
    · by_cases c0 : F.nodes.length = G.nodes.length
      · have p0 := s_eqT (show (F.nodes.length : Int) = G.nodes.length by omega)
        have d0 : dsize F G = [] := by unfold dsize; rw [if_neg (fun h => h c0)]
        simp (config := { maxSteps := 2000000 }) -implicitDefEqProofs (disch := (first | omega | rfl | assumption | (simp only [rsD]; first | omega | assumption))) only [p0, Nat.reduceAdd, Nat.reduceMul, Nat.reduceLT, Int.reduceToNat, Int.reduceAdd, Int.reduceSub, Int.reduceMul, rsU, rsC]
        exact Ok_some.2 ⟨.nil, _, by rw [d0]; rfl, by simp, fun b hb => by ((try simp only [rsD] at *); simp -implicitDefEqProofs (disch := (first | omega | rfl | assumption | (simp only [rsD]; first | omega | assumption))) only [s_bs, s_bn, s_kn, bump_blk]), by ((try simp only [rsD] at *); simp -implicitDefEqProofs (disch := (first | omega | rfl | assumption | (simp only [rsD]; first | omega | assumption))) only [s_bs, s_bn, s_kn, bump_blk]), by ((try simp only [rsD] at *); simp -implicitDefEqProofs (disch := (first | omega | rfl | assumption | (simp only [rsD]; first | omega | assumption))) only [s_bs, s_bn, s_kn, bump_blk]), by rw [d0]; exact BldO.nil _ _ _ CV.len⟩
      · have p0 := s_eqF (show ¬ (F.nodes.length : Int) = G.nodes.length by omega)
        have d0 : dsize F G = [⟨0, 0, 0, G.nodes.length, 0, NV.zero, []⟩] := by unfold dsize; rw [if_pos c0]
        rw [d0]
        simp (config := { maxSteps := 2000000 }) -implicitDefEqProofs (disch := (first | omega | rfl | assumption | (simp only [rsD]; first | omega | assumption))) only [p0, Nat.reduceAdd, Nat.reduceMul, Nat.reduceLT, Int.reduceToNat, Int.reduceAdd, Int.reduceSub, Int.reduceMul, rsU, rsC]
        refine Ok.step ((BldO.nil (σ.next + 2) (((σ.bump 2).put σ.next (.cells true T_canon_Form [.sl a1 F.nodes.length, .sl b1 F.roots.length, .sl c1 F.weak.length])).put (σ.next + 1) (.cells true T_canon_Form [.sl a2 G.nodes.length, .sl b2 G.roots.length, .sl c2 G.weak.length])) T_diff_Change CV.len).app' (m := [⟨0, 0, 0, G.nodes.length, 0, NV.zero, []⟩]) (by simp) (by simp) (fun b h1 h2 => by simp only [rsD] at h2; ((try simp only [rsD] at *); simp -implicitDefEqProofs (disch := (first | omega | rfl | assumption | (simp only [rsD]; first | omega | assumption))) only [s_bs, s_bn, s_kn, bump_blk])) ⟨[], OwL.im (by rw [List.flatMap_cons, List.flatMap_nil, List.append_nil]; exact CV.mk_ (c := ⟨0, 0, 0, G.nodes.length, 0, NV.zero, []⟩) (a := .nil) (b := .nil) (d := .nil) (nil_ints _) (nil_ints _) (nil_ints _)), by simp⟩ (by simp) (by simp)) fun r ⟨e', h1, h2, h3, h4, h5⟩ => ?_
        obtain ⟨z, σ1⟩ := r
        simp only at h1 h2 h3 h4
        subst h1
        simp (config := { maxSteps := 2000000 }) -implicitDefEqProofs (disch := (first | omega | rfl | assumption | (simp only [rsD]; first | omega | assumption))) only [Nat.reduceAdd, Nat.reduceMul, Nat.reduceLT, Int.reduceToNat, Int.reduceAdd, Int.reduceSub, Int.reduceMul, rsU, rsC]
        refine Ok_some.2 ⟨e', σ1, rfl, by rw [h3]; simp, fun b hb => ?_, ?_, ?_, h2⟩
        · rw [h4 b (by omega) (by simp [SA.bk])]; ((try simp only [rsD] at *); simp -implicitDefEqProofs (disch := (first | omega | rfl | assumption | (simp only [rsD]; first | omega | assumption))) only [s_bs, s_bn, s_kn, bump_blk])
        · rw [h4 _ (by omega) (by simp [SA.bk])]; ((try simp only [rsD] at *); simp -implicitDefEqProofs (disch := (first | omega | rfl | assumption | (simp only [rsD]; first | omega | assumption))) only [s_bs, s_bn, s_kn, bump_blk])
        · rw [h4 _ (by omega) (by simp [SA.bk])]; ((try simp only [rsD] at *); simp -implicitDefEqProofs (disch := (first | omega | rfl | assumption | (simp only [rsD]; first | omega | assumption))) only [s_bs, s_bn, s_kn, bump_blk])
    rintro _ ⟨e0, σ1, rfl, n1, o1, x0, x1, B⟩
    simp (config := { maxSteps := 2000000 }) -implicitDefEqProofs (disch := (first | omega | rfl | assumption | (simp only [rsD]; first | omega | assumption))) only [x1, Nat.reduceAdd, Nat.reduceMul, Nat.reduceLT, Int.reduceToNat, Int.reduceAdd, Int.reduceSub, Int.reduceMul, rsU, rsC]
    refine Ok.step (main σ1 e0 n1 o1 x0 x1 B) ?_
    rintro _ ⟨e1, σ2, rfl, B, n2, o2, y0, y1⟩
    simp (config := { maxSteps := 2000000 }) -implicitDefEqProofs (disch := (first | omega | rfl | assumption | (simp only [rsD]; first | omega | assumption))) only [y0, y1, Nat.reduceAdd, Nat.reduceMul, Nat.reduceLT, Int.reduceToNat, Int.reduceAdd, Int.reduceSub, Int.reduceMul, rsU, rsC]
    refine Ok.step (sequal_i i2 j2 fF.r fG.r) fun r g => ?_
    subst g
    simp (config := { maxSteps := 2000000 }) -implicitDefEqProofs (disch := (first | omega | rfl | assumption | (simp only [rsD]; first | omega | assumption))) only [Nat.reduceAdd, Nat.reduceMul, Nat.reduceLT, Int.reduceToNat, Int.reduceAdd, Int.reduceSub, Int.reduceMul, rsU, rsC]
    refine Ok.step (Q := fun r => ∃ e σ1, r = ([.sl e (dsize F G ++ dmid F G G.nodes.length ++ dlist 4 F.roots G.roots).length], σ1) ∧ σ.next + 2 ≤ σ1.next ∧ (∀ b, b < σ.next → σ1.blk b = σ.blk b) ∧ σ1.blk σ.next = some (.cells true T_canon_Form [.sl a1 F.nodes.length, .sl b1 F.roots.length, .sl c1 F.weak.length]) ∧ σ1.blk (σ.next + 1) = some (.cells true T_canon_Form [.sl a2 G.nodes.length, .sl b2 G.roots.length, .sl c2 G.weak.length]) ∧ BldO (σ.next + 2) σ1 T_diff_Change 13 CV.row e (dsize F G ++ dmid F G G.nodes.length ++ dlist 4 F.roots G.roots)) ?_ ?_
    · by_cases c0 : F.roots = G.roots
      · have p0 := decide_eq_true c0
        have d0 : dlist 4 F.roots G.roots = [] := by unfold dlist; rw [if_neg (fun h => h c0)]
        simp (config := { maxSteps := 2000000 }) -implicitDefEqProofs (disch := (first | omega | rfl | assumption | (simp only [rsD]; first | omega | assumption))) only [p0, Nat.reduceAdd, Nat.reduceMul, Nat.reduceLT, Int.reduceToNat, Int.reduceAdd, Int.reduceSub, Int.reduceMul, rsU, rsC]
        rw [d0, List.append_nil]
        exact Ok_some.2 ⟨e1, σ2, rfl, n2, o2, y0, y1, B⟩
      · have p0 := decide_eq_false c0
        have d0 : dlist 4 F.roots G.roots = [⟨4, 0, 0, 0, 0, NV.zero, G.roots⟩] := by unfold dlist; rw [if_pos c0]
        rw [d0]
        simp (config := { maxSteps := 2000000 }) -implicitDefEqProofs (disch := (first | omega | rfl | assumption | (simp only [rsD]; first | omega | assumption))) only [p0, y1, Nat.reduceAdd, Nat.reduceMul, Nat.reduceLT, Int.reduceToNat, Int.reduceAdd, Int.reduceSub, Int.reduceMul, rsU, rsC]
        refine Ok.step (of_tail (kind := 4) j2 fG.r B n2) fun r ⟨a', g1, g2⟩ => ?_
        obtain ⟨z, σ3⟩ := r
        simp only at g1 g2
        subst g1
        simp (config := { maxSteps := 2000000 }) -implicitDefEqProofs (disch := (first | omega | rfl | assumption | (simp only [rsD]; first | omega | assumption))) only [Nat.reduceAdd, Nat.reduceMul, Nat.reduceLT, Int.reduceToNat, Int.reduceAdd, Int.reduceSub, Int.reduceMul, rsU, rsC]
        refine Ok.step g2 fun r ⟨e', h1, h2, h3, h4⟩ => ?_
        obtain ⟨z, σ4⟩ := r
        simp only at h1 h2 h3 h4
        subst h1
        simp (config := { maxSteps := 2000000 }) -implicitDefEqProofs (disch := (first | omega | rfl | assumption | (simp only [rsD]; first | omega | assumption))) only [Nat.reduceAdd, Nat.reduceMul, Nat.reduceLT, Int.reduceToNat, Int.reduceAdd, Int.reduceSub, Int.reduceMul, rsU, rsC]
        exact Ok_some.2 ⟨e', σ4, by simp [Nat.add_assoc], by omega, fun b hb => (h4 b (by omega)).trans (o2 b hb), (h4 _ (by omega)).trans y0, (h4 _ (by omega)).trans y1, h2⟩
    rintro _ ⟨e2, σ3, rfl, n3, o3, z0, z1, B⟩
    simp (config := { maxSteps := 2000000 }) -implicitDefEqProofs (disch := (first | omega | rfl | assumption | (simp only [rsD]; first | omega | assumption))) only [z0, z1, Nat.reduceAdd, Nat.reduceMul, Nat.reduceLT, Int.reduceToNat, Int.reduceAdd, Int.reduceSub, Int.reduceMul, rsU, rsC]
    refine Ok.step (sequal_i i3 j3 fF.w fG.w) fun r g => ?_
    subst g
    simp (config := { maxSteps := 2000000 }) -implicitDefEqProofs (disch := (first | omega | rfl | assumption | (simp only [rsD]; first | omega | assumption))) only [Nat.reduceAdd, Nat.reduceMul, Nat.reduceLT, Int.reduceToNat, Int.reduceAdd, Int.reduceSub, Int.reduceMul, rsU, rsC]
    refine Ok.step (Q := fun r => ∃ e σ1, r = ([.sl e (dsize F G ++ dmid F G G.nodes.length ++ dlist 4 F.roots G.roots ++ dlist 5 F.weak G.weak).length], σ1) ∧ σ.next + 2 ≤ σ1.next ∧ (∀ b, b < σ.next → σ1.blk b = σ.blk b) ∧ σ1.blk σ.next = some (.cells true T_canon_Form [.sl a1 F.nodes.length, .sl b1 F.roots.length, .sl c1 F.weak.length]) ∧ σ1.blk (σ.next + 1) = some (.cells true T_canon_Form [.sl a2 G.nodes.length, .sl b2 G.roots.length, .sl c2 G.weak.length]) ∧ BldO (σ.next + 2) σ1 T_diff_Change 13 CV.row e (dsize F G ++ dmid F G G.nodes.length ++ dlist 4 F.roots G.roots ++ dlist 5 F.weak G.weak)) ?_ ?_
    · by_cases c0 : F.weak = G.weak
      · have p0 := decide_eq_true c0
        have d0 : dlist 5 F.weak G.weak = [] := by unfold dlist; rw [if_neg (fun h => h c0)]
        simp (config := { maxSteps := 2000000 }) -implicitDefEqProofs (disch := (first | omega | rfl | assumption | (simp only [rsD]; first | omega | assumption))) only [p0, Nat.reduceAdd, Nat.reduceMul, Nat.reduceLT, Int.reduceToNat, Int.reduceAdd, Int.reduceSub, Int.reduceMul, rsU, rsC]
        rw [d0, List.append_nil]
        exact Ok_some.2 ⟨e2, σ3, rfl, n3, o3, z0, z1, B⟩
      · have p0 := decide_eq_false c0
        have d0 : dlist 5 F.weak G.weak = [⟨5, 0, 0, 0, 0, NV.zero, G.weak⟩] := by unfold dlist; rw [if_pos c0]
        rw [d0]
        simp (config := { maxSteps := 2000000 }) -implicitDefEqProofs (disch := (first | omega | rfl | assumption | (simp only [rsD]; first | omega | assumption))) only [p0, z1, Nat.reduceAdd, Nat.reduceMul, Nat.reduceLT, Int.reduceToNat, Int.reduceAdd, Int.reduceSub, Int.reduceMul, rsU, rsC]
        refine Ok.step (of_tail (kind := 5) j3 fG.w B n3) fun r ⟨a', g1, g2⟩ => ?_
        obtain ⟨z, σ4⟩ := r
        simp only at g1 g2
        subst g1
        simp (config := { maxSteps := 2000000 }) -implicitDefEqProofs (disch := (first | omega | rfl | assumption | (simp only [rsD]; first | omega | assumption))) only [Nat.reduceAdd, Nat.reduceMul, Nat.reduceLT, Int.reduceToNat, Int.reduceAdd, Int.reduceSub, Int.reduceMul, rsU, rsC]
        refine Ok.step g2 fun r ⟨e', h1, h2, h3, h4⟩ => ?_
        obtain ⟨z, σ5⟩ := r
        simp only at h1 h2 h3 h4
        subst h1
        simp (config := { maxSteps := 2000000 }) -implicitDefEqProofs (disch := (first | omega | rfl | assumption | (simp only [rsD]; first | omega | assumption))) only [Nat.reduceAdd, Nat.reduceMul, Nat.reduceLT, Int.reduceToNat, Int.reduceAdd, Int.reduceSub, Int.reduceMul, rsU, rsC]
        exact Ok_some.2 ⟨e', σ5, by simp [Nat.add_assoc], by omega, fun b hb => (h4 b (by omega)).trans (o3 b hb), (h4 _ (by omega)).trans z0, (h4 _ (by omega)).trans z1, h2⟩
    rintro _ ⟨e3, σ4, rfl, n4, o4, w0, w1, B⟩
    simp (config := { maxSteps := 2000000 }) -implicitDefEqProofs (disch := (first | omega | rfl | assumption | (simp only [rsD]; first | omega | assumption))) only [Nat.reduceAdd, Nat.reduceMul, Nat.reduceLT, Int.reduceToNat, Int.reduceAdd, Int.reduceSub, Int.reduceMul, rsU, rsC]
    exact Ok_some.2 (rest σ4 e3 _ fl1 n4 o4 B)
  refine fin.mono ?_
  rintro ⟨v, σ'⟩ ⟨h1, h2⟩
  exact ⟨Row.of CV.len h1 rfl, h2⟩
end Go.Abs.Try
set_option linter.unusedSimpArgs false
set_option linter.unusedVariables false
set_option linter.unusedSectionVars false
set_option maxHeartbeats 1000000
namespace Go.Abs.Try
open Go Go.Abs
variable {O : Type}

theorem _root_.Go.Abs.BldM.adv0 {α : Type} {σ : AH O} {el k : Nat} {row : α → List TV} {a : SA} {l : List α} {L : List Nat} (h : BldM σ el k row a l L) : SA.adv a 0 k = some a := by
  obtain ⟨hk, vs, M, h1, _⟩ := h
  have h2 := h1.wh
  cases a with
  | nil => rfl
  | z => rfl
  | loc b o e => obtain ⟨_, _, _, q1, q2, _⟩ := h2; subst q1; subst q2; simp [SA.adv]
/-- its three slices -/
structure Parts (σ : AH O) (base : Nat) (F : FV) (a b c : SA) (A B C : List Nat) : Prop where
  n : BldM σ T_canon_Node 7 NV.row a F.nodes A
  r : Ow σ (ints .i64 F.roots) (.sl b F.roots.length) B
  w : Ow σ (ints .i64 F.weak) (.sl c F.weak.length) C
  lA : ∀ x ∈ A, base ≤ x ∧ x ∉ B ∧ x ∉ C
  lB : ∀ x ∈ B, base ≤ x ∧ x ∉ C
  lC : ∀ x ∈ C, base ≤ x
theorem Parts.of {σ σ' : AH O} {base : Nat} {F : FV} {a b c : SA} {A B C : List Nat} (h : Parts σ base F a b c A B C) (hn : σ.next ≤ σ'.next) (hb : ∀ x, base ≤ x → x < σ.next → σ'.blk x = σ.blk x) : Parts σ' base F a b c A B C :=
  ⟨h.n.of hn fun x hx => hb x (h.lA x hx).1 (h.n.lt x hx), h.r.of hn fun x hx => hb x (h.lB x hx).1 (h.r.lt x hx), h.w.of hn fun x hx => hb x (h.lC x hx) (h.w.lt x hx), h.lA, h.lB, h.lC⟩
theorem Parts.nodes {σ σ' : AH O} {base : Nat} {F : FV} {a a' b c : SA} {A A' B C : List Nat} {l : List NV} (h : Parts σ base F a b c A B C) (hb : base ≤ σ.next) (hn : σ.next ≤ σ'.next) (n : BldM σ' T_canon_Node 7 NV.row a' l A') (hA : ∀ x ∈ A', x ∈ A ∨ σ.next ≤ x) (hf : ∀ x, x ∈ B ∨ x ∈ C → σ'.blk x = σ.blk x) : Parts σ' base ⟨l, F.roots, F.weak⟩ a' b c A' B C :=
  ⟨n, h.r.of hn fun x hx => hf x (.inl hx), h.w.of hn fun x hx => hf x (.inr hx), fun x hx => by
    rcases hA x hx with h1 | h1
    · exact h.lA x h1
    · exact ⟨by omega, fun hm => by have := h.r.lt x hm; omega, fun hm => by have := h.w.lt x hm; omega⟩, h.lB, h.lC⟩
/-- it stands in this box -/
structure WF (σ : AH O) (fb base : Nat) (F : FV) : Prop where
  lt : fb < base
  le : base ≤ σ.next
  it : ∃ a b c A B C, σ.blk fb = some (.cells true T_canon_Form [.sl a F.nodes.length, .sl b F.roots.length, .sl c F.weak.length]) ∧ Parts σ base F a b c A B C
theorem WF.keep {σ σ' : AH O} {fb base : Nat} {F : FV} (h : WF σ fb base F) (hn : σ.next ≤ σ'.next) (h0 : σ'.blk fb = σ.blk fb) (hb : ∀ x, base ≤ x → x < σ.next → σ'.blk x = σ.blk x) : WF σ' fb base F := by
  obtain ⟨l1, l2, a, b, c, A, B, C, h1, h2⟩ := h
  exact ⟨l1, by omega, a, b, c, A, B, C, h0.trans h1, h2.of hn hb⟩
def sized (l : List NV) (n : Nat) : List NV := (l ++ List.replicate (n - l.length) NV.zero).take n
theorem sized_len (l : List NV) (n : Nat) : (sized l n).length = n := by simp [sized]; omega
/-- nothing but this form turned -/
structure Only (σ σ' : AH O) (fb base : Nat) : Prop where
  n : σ.next ≤ σ'.next
  o : ∀ x, x < base → x ≠ fb → σ'.blk x = σ.blk x
theorem Only.refl (σ : AH O) (fb base : Nat) : Only σ σ fb base := ⟨Nat.le_refl _, fun _ _ _ => rfl⟩
theorem Only.trans {σ1 σ2 σ3 : AH O} {fb base : Nat} (h : Only σ1 σ2 fb base) (k : Only σ2 σ3 fb base) : Only σ1 σ3 fb base := ⟨Nat.le_trans h.n k.n, fun x h1 h2 => (k.o x h1 h2).trans (h.o x h1 h2)⟩
theorem zero_row (σ : AH O) : OwL σ NV.zero.row [.i .i64 0, .i .i64 0, .i .i64 0, .i .i64 0, .b false, .sl .nil 0, .sl .nil 0] [] := OwL.im (NV.mk_ (x := NV.zero) (nil_ints _) (nil_ints _))
theorem size_ok {σ : AH O} {fb base : Nat} {F : FV} {n : Int} (W : WF σ fb base F) : Ok (diff_size [.p (some (.n fb, 0)), .i .i64 n] σ) fun r => if n < 0 ∨ n > 1048576 then r = (.i .i64 2, σ) else r.1 = .i .i64 0 ∧ WF r.2 fb base ⟨sized F.nodes n.toNat, F.roots, F.weak⟩ ∧ Only σ r.2 fb base := by
  by_cases c1 : n < 0
  · have d := decide_eq_true c1
    simp (config := { maxSteps := 2000000 }) -implicitDefEqProofs (disch := (first | omega | rfl | assumption | (simp only [rsD]; first | omega | assumption))) only [diff_size, diff_size_c, d, Nat.reduceAdd, Nat.reduceMul, Nat.reduceLT, Int.reduceToNat, Int.reduceAdd, Int.reduceSub, Int.reduceMul, rsU, rsC]
    exact Ok_some.2 (by rw [if_pos (.inl c1)])
  by_cases c2 : n > 1048576
  · have d := decide_eq_false c1
    have d2 := decide_eq_true c2
    simp (config := { maxSteps := 2000000 }) -implicitDefEqProofs (disch := (first | omega | rfl | assumption | (simp only [rsD]; first | omega | assumption))) only [diff_size, diff_size_c, d, d2, Nat.reduceAdd, Nat.reduceMul, Nat.reduceLT, Int.reduceToNat, Int.reduceAdd, Int.reduceSub, Int.reduceMul, rsU, rsC]
    exact Ok_some.2 (by rw [if_pos (.inr c2)])
  obtain ⟨m, rfl⟩ : ∃ m : Nat, n = m := ⟨n.toNat, by omega⟩
  have d := decide_eq_false c1
  have d2 := decide_eq_false c2
  rw [Int.toNat_natCast]
  simp (config := { maxSteps := 2000000 }) -implicitDefEqProofs (disch := (first | omega | rfl | assumption | (simp only [rsD]; first | omega | assumption))) only [diff_size, diff_size_c, d, d2, Nat.reduceAdd, Nat.reduceMul, Nat.reduceLT, Int.reduceToNat, Int.reduceAdd, Int.reduceSub, Int.reduceMul, rsU, rsC]
  have lp : Ok (loopF (S := List AV × AH O) (T := List AV × AH O) (diff_size_L1 (some (.n fb, 0)) (m : Int)) ([], σ)) fun r => ∃ l σ', r = ([], σ') ∧ m ≤ l.length ∧ l.take m = sized F.nodes m ∧ WF σ' fb base ⟨l, F.roots, F.weak⟩ ∧ Only σ σ' fb base := by
    refine Ok.count (m - F.nodes.length) (fun k s => ∃ σ', s = ([], σ') ∧ WF σ' fb base ⟨F.nodes ++ List.replicate k NV.zero, F.roots, F.weak⟩ ∧ Only σ σ' fb base) ?_ ?_ ⟨σ, rfl, by simpa using W, Only.refl _ _ _⟩
    · rintro k s hk ⟨σ1, rfl, ⟨l1, l2, a, b, c, A, B, C, h1, P⟩, Y⟩
      have len : (F.nodes ++ List.replicate k NV.zero).length = F.nodes.length + k := by simp
      simp only [len] at h1
      have q := decide_eq_true (show ((F.nodes.length + k : Nat) : Int) < (m : Int) by omega)
      simp (config := { maxSteps := 2000000 }) -implicitDefEqProofs (disch := (first | omega | rfl | assumption | (simp only [rsD]; first | omega | assumption))) only [diff_size_L1, h1, q, Nat.reduceAdd, Nat.reduceMul, Nat.reduceLT, Int.reduceToNat, Int.reduceAdd, Int.reduceSub, Int.reduceMul, rsU, rsC]
      have ltA := P.n.lt
      have PB := P.of (σ' := (σ1.bump 2).put σ1.next (.cells true T_canon_Node [.i .i64 0, .i .i64 0, .i .i64 0, .i .i64 0, .b false, .sl .nil 0, .sl .nil 0])) (by simp) fun x hx hl => by ((try simp only [rsD] at *); simp -implicitDefEqProofs (disch := (first | omega | rfl | assumption | (simp only [rsD]; first | omega | assumption))) only [s_bs, s_bn, s_kn, bump_blk])
      have ap := PB.n.app (x := NV.zero) (nid := σ1.next + 1) (zero_row _) (by simp) rfl ⟨fun hm => by have := ltA _ hm; omega, by simp⟩ (by simp)
      simp only [len] at ap
      refine Ok.step ap fun r ⟨a', A', g1, g2, g3, g4, g5⟩ => ?_
      obtain ⟨z, σ2⟩ := r
      simp only at g1 g2 g3 g4
      subst g1
      have hf2 : σ2.blk fb = some (.cells true T_canon_Form [.sl a (F.nodes.length + k), .sl b F.roots.length, .sl c F.weak.length]) := by
        rw [g4 fb (by omega) (fun hm => by have := (P.lA _ hm).1; omega)]; ((try simp only [rsD] at *); simp -implicitDefEqProofs (disch := (first | omega | rfl | assumption | (simp only [rsD]; first | omega | assumption))) only [s_bs, s_bn, s_kn, bump_blk]); exact h1
      simp (config := { maxSteps := 2000000 }) -implicitDefEqProofs (disch := (first | omega | rfl | assumption | (simp only [rsD]; first | omega | assumption))) only [hf2, Nat.reduceAdd, Nat.reduceMul, Nat.reduceLT, Int.reduceToNat, Int.reduceAdd, Int.reduceSub, Int.reduceMul, rsU, rsC]
      have no : ∀ x, base ≤ x → x ≠ fb := fun x h => by omega
      have n3 : σ2.next = σ1.next + 2 := by rw [g3]; rfl
      have A'ge : ∀ x ∈ A', x ∈ A ∨ σ1.next ≤ x := fun x hx => by
        rcases g5 x hx with h | h | h
        · exact .inr (by omega)
        · exact .inl h
        · simp at h
      have A'b : ∀ x ∈ A', base ≤ x := fun x hx => by
        rcases A'ge x hx with h | h
        · exact (P.lA x h).1
        · omega
      refine Ok_some.2 ⟨_, rfl, ⟨l1, by show base ≤ σ2.next; omega, a', b, c, A', B, C, ?_, ?_⟩, ⟨by have := Y.n; show σ.next ≤ σ2.next; omega, fun x h1 h2 => ?_⟩⟩
      · rw [s_bs]; simp [Nat.add_assoc]
      · rw [List.replicate_succ', ← List.append_assoc]
        refine P.nodes l2 (by show σ1.next ≤ σ2.next; omega) (g2.of (Nat.le_refl _) fun x hx => s_bn (no x (A'b x hx))) A'ge fun x hx => ?_
        have hx1 : base ≤ x ∧ x < σ1.next ∧ x ∉ A := by
          rcases hx with hx | hx
          · exact ⟨(P.lB x hx).1, P.r.lt x hx, fun hm => (P.lA x hm).2.1 hx⟩
          · exact ⟨P.lC x hx, P.w.lt x hx, fun hm => (P.lA x hm).2.2 hx⟩
        rw [s_bn (no x hx1.1), g4 x (by omega) hx1.2.2]; ((try simp only [rsD] at *); simp -implicitDefEqProofs (disch := (first | omega | rfl | assumption | (simp only [rsD]; first | omega | assumption))) only [s_bs, s_bn, s_kn, bump_blk])
      · rw [s_bn h2, g4 x (by omega) (fun hm => by have := (P.lA x hm).1; omega)]
        rw [← Y.o x h1 h2]; ((try simp only [rsD] at *); simp -implicitDefEqProofs (disch := (first | omega | rfl | assumption | (simp only [rsD]; first | omega | assumption))) only [s_bs, s_bn, s_kn, bump_blk])
    · rintro s ⟨σ1, rfl, W1, Y⟩
      obtain ⟨l1, l2, a, b, c, A, B, C, h1, P⟩ := W1
      have len : (F.nodes ++ List.replicate (m - F.nodes.length) NV.zero).length = F.nodes.length + (m - F.nodes.length) := by simp
      have h1' := h1
      simp only [len] at h1'
      have q := decide_eq_false (show ¬ (((F.nodes.length + (m - F.nodes.length) : Nat) : Int) < (m : Int)) by omega)
      simp (config := { maxSteps := 2000000 }) -implicitDefEqProofs (disch := (first | omega | rfl | assumption | (simp only [rsD]; first | omega | assumption))) only [diff_size_L1, h1', q, Nat.reduceAdd, Nat.reduceMul, Nat.reduceLT, Int.reduceToNat, Int.reduceAdd, Int.reduceSub, Int.reduceMul, rsU, rsC]
      exact Ok_some.2 ⟨_, σ1, rfl, by rw [len]; omega, rfl, ⟨l1, l2, a, b, c, A, B, C, h1, P⟩, Y⟩
  refine Ok.step lp ?_
  rintro _ ⟨l, σ1, rfl, hm, hl, ⟨l1, l2, a, b, c, A, B, C, h1, P⟩, Y⟩
  simp only at h1
  have ad := P.n.adv0
  have q := decide_eq_true (show (m : Int) ≤ (l.length : Int) by omega)
  simp (config := { maxSteps := 2000000 }) -implicitDefEqProofs (disch := (first | omega | rfl | assumption | (simp only [rsD]; first | omega | assumption))) only [h1, q, ad, Nat.reduceAdd, Nat.reduceMul, Nat.reduceLT, Int.reduceToNat, Int.reduceAdd, Int.reduceSub, Int.reduceMul, rsU, rsC]
  obtain ⟨A', g1, g2⟩ := P.n.less hm
  have no : ∀ x, base ≤ x → x ≠ fb := fun x h => by omega
  refine Ok_some.2 ?_
  rw [if_neg (by omega)]
  refine ⟨rfl, ⟨l1, l2, a, b, c, A', B, C, ?_, ?_⟩, ⟨Y.n, fun x h1 h2 => (s_bn h2).trans (Y.o x h1 h2)⟩⟩
  · rw [s_bs]; simp [sized_len]
  · rw [← hl]
    exact P.nodes l2 (Nat.le_refl _) (g1.of (Nat.le_refl _) fun x hx => s_bn (no x (P.lA x (g2 x hx)).1)) (fun x hx => .inl (g2 x hx)) fun x hx => s_bn (no x (by rcases hx with hx | hx; exact (P.lB x hx).1; exact P.lC x hx))
end Go.Abs.Try
