/-
  What is unlike in two forms. No conditions.
-/
import Derived.Test.YteklninbijohcaaF5
set_option linter.unusedVariables false
set_option linter.unusedSimpArgs false
set_option linter.constructorNameAsVariable false
set_option linter.unusedSimpArgs false
set_option linter.unusedVariables false
set_option linter.unusedSectionVars false
set_option maxHeartbeats 1000000
namespace Go.Abs.Try
open Go Go.Abs
variable {O : Type}

def dsize (a b : FV) : List CV := if a.nodes.length ≠ b.nodes.length then [⟨0, 0, 0, b.nodes.length, 0, NV.zero, []⟩] else []
def dmid (a b : FV) (k : Nat) : List CV := (List.range k).flatMap fun (i : Nat) => dnodes ((i : Int) + 1) (a.nodes.getD i NV.zero) (b.nodes.getD i NV.zero)
def dlist (kind : Int) (p q : List Int) : List CV := if p ≠ q then [⟨kind, 0, 0, 0, 0, NV.zero, q⟩] else []
def dOf (a b : FV) : List CV := dsize a b ++ dmid a b b.nodes.length ++ dlist 4 a.roots b.roots ++ dlist 5 a.weak b.weak
theorem dmid_succ (a b : FV) (k : Nat) : dmid a b (k + 1) = dmid a b k ++ dnodes ((k : Int) + 1) (a.nodes.getD k NV.zero) (b.nodes.getD k NV.zero) := by
  simp [dmid, List.range_succ, List.flatMap_append]
theorem zero_few : NV.zero.few := ⟨by decide, by decide⟩
theorem getD_few {l : List NV} (h : ∀ x ∈ l, x.few) (i : Nat) : (l.getD i NV.zero).few := by
  rw [List.getD_eq_getElem?_getD]
  cases hx : l[i]? with
  | none => exact zero_few
  | some x => exact h x (List.mem_of_getElem? hx)
theorem dmid_len (a b : FV) (hb : b.few) : ∀ k, (dmid a b k).length ≤ k * 200000
  | 0 => by simp [dmid]
  | k + 1 => by
    rw [dmid_succ, List.length_append]
    have := dmid_len a b hb k
    have := dnodes_len (k + 1) (a.nodes.getD k NV.zero) _ (getD_few hb.x k)
    omega
theorem dsize_len (a b : FV) : (dsize a b).length ≤ 1 := by unfold dsize; split <;> simp
theorem dlist_len (k : Int) (p q : List Int) : (dlist k p q).length ≤ 1 := by unfold dlist; split <;> simp
theorem nil_ints (k : IntKind) : Ints k .nil [] := Row.nil (int1_len _)
/-- the nodes, one by one -/
theorem of_loop {σ σ1 : AH O} {F G : FV} {a b c a2 b2 c2 : SA} (fF : F.few) (fG : G.few) (iF : Nodes a F.nodes) (iG : Nodes a2 G.nodes) {e0 : SA} {pre : List CV} (hpre : pre.length ≤ 1) {e1 : Nat}
    (b0 : σ1.blk σ.next = some (.cells true e1 [.sl a F.nodes.length, .sl b F.roots.length, .sl c F.weak.length])) (hn : σ.next + 2 ≤ σ1.next) (B0 : BldO (σ.next + 2) σ1 T_diff_Change 13 CV.row e0 pre) :
    Ok (loopF (S := List AV × AH O) (T := List AV × AH O) (diff_Of_L1 (a2, G.nodes.length) σ diff_nodes) ([.sl e0 pre.length, .i .i64 0], σ1)) fun r => ∃ e σ', r = ([.sl e (pre ++ dmid F G G.nodes.length).length], σ') ∧ BldO (σ.next + 2) σ' T_diff_Change 13 CV.row e (pre ++ dmid F G G.nodes.length) ∧ σ1.next ≤ σ'.next ∧ ∀ b, b < σ.next + 2 → σ'.blk b = σ1.blk b := by
  have fn := fG.n
  have fn2 := fF.n
  refine Ok.count G.nodes.length (fun k s => NdI σ1 (σ.next + 2) (pre ++ dmid F G k) k s) ?_ ?_ ⟨e0, σ1, by simp [dmid], by simpa [dmid] using B0, Nat.le_refl _, fun _ _ => rfl⟩
  · rintro k s hk ⟨e, σ2, rfl, B, hn2, ho⟩
    obtain ⟨y, hy⟩ : ∃ y, G.nodes[k]? = some y := ⟨_, List.getElem?_eq_getElem hk⟩
    obtain ⟨p2, o2, u2, v2, rfl, ju, jv, l2⟩ := iG.node hy
    have fy := fG.x y (List.mem_of_getElem? hy)
    have c0 := (ho σ.next (by omega)).trans b0
    have hml := dmid_len F G fG k
    have hlen : (pre ++ dmid F G k).length ≤ 20000000001 := by
      rw [List.length_append]
      have : k * 200000 ≤ 100000 * 200000 := Nat.mul_le_mul_right _ (by omega)
      omega
    have hle := dnodes_len (k + 1) (F.nodes.getD k NV.zero) y fy
    have hD : dmid F G (k + 1) = dmid F G k ++ dnodes (k + 1) (F.nodes.getD k NV.zero) y := by rw [dmid_succ, show G.nodes.getD k NV.zero = y by rw [List.getD_eq_getElem?_getD, hy]; rfl]
    have hbk := B.bk
    -- behind the call
    have last : ∀ σ3 : AH O, Ext σ2 σ3 → ∀ (nid : Nat), σ2.next ≤ nid → nid < σ3.next → ∀ (q : SA) (new : List AV), ImL ((dnodes (k + 1) (F.nodes.getD k NV.zero) y).flatMap CV.row) new →
        Ok (σ3.appSl nid T_diff_Change 13 e (pre ++ dmid F G k).length (dnodes (k + 1) (F.nodes.getD k NV.zero) y).length new) fun r => ∃ e', r.1 = .sl e' (pre ++ dmid F G (k + 1)).length ∧ NdI σ1 (σ.next + 2) (pre ++ dmid F G (k + 1)) (k + 1) ([.sl e' (pre ++ dmid F G (k + 1)).length, .i .i64 ((k : Int) + 1)], r.2) := by
      intro σ3 E nid h1 h2 q new hnew
      refine (B.app' (by omega) E.next (fun b _ hb => E.blk b hb) ⟨[], OwL.im hnew, by simp⟩ h1 h2).mono ?_
      rintro ⟨z, σ4⟩ ⟨e', g1, g2, g3, g4, g5⟩
      simp only at g1 g2 g3 g4
      subst g1
      have eq : pre ++ dmid F G (k + 1) = (pre ++ dmid F G k) ++ dnodes (k + 1) (F.nodes.getD k NV.zero) y := by rw [hD, List.append_assoc]
      have hE := E.next
      refine ⟨e', congrArg (AV.sl e') (by rw [eq]; simp only [List.length_append]), ⟨e', σ4, by simp, by rw [eq]; exact g2, by omega, fun b hb => ?_⟩⟩
      rw [g4 b (by omega) (fun hm => by have := hbk b hm; omega), ← ho b hb]
      exact E.blk b (by omega)
    by_cases hkF : k < F.nodes.length
    · obtain ⟨x, hx⟩ : ∃ x, F.nodes[k]? = some x := ⟨_, List.getElem?_eq_getElem hkF⟩
      obtain ⟨p1, o1, u1, v1, rfl, iu, iv, l1⟩ := iF.node hx
      have fx := fF.x x (List.mem_of_getElem? hx)
      have hD2 : F.nodes.getD k NV.zero = x := by rw [List.getD_eq_getElem?_getD, hx]; rfl
      rw [hD2] at last hle
      simp (config := { maxSteps := 2000000 }) -implicitDefEqProofs (disch := (first | omega | rfl | assumption | (simp only [rsD]; first | omega | assumption))) only [diff_Of_L1, c0, l1, l2, Nat.reduceAdd, Nat.reduceMul, Nat.reduceLT, Int.reduceToNat, Int.reduceAdd, Int.reduceSub, Int.reduceMul, rsU, rsC]
      refine Ok.step (nodes_ok (n := (k : Int) + 1) fx fy iu iv ju jv) fun r ⟨⟨q, g1, g2⟩, g3⟩ => ?_
      obtain ⟨z, σ3⟩ := r
      simp only at g1 g3
      subst g1
      obtain ⟨new, w1, w2, w3⟩ := g2.all
      have n3 := g3.next
      simp only [rsD] at n3
      simp (config := { maxSteps := 2000000 }) -implicitDefEqProofs (disch := (first | omega | rfl | assumption | (simp only [rsD]; first | omega | assumption))) only [w3, Nat.reduceAdd, Nat.reduceMul, Nat.reduceLT, Int.reduceToNat, Int.reduceAdd, Int.reduceSub, Int.reduceMul, rsU, rsC]
      refine Ok.step (last σ3 (ext_of (by (have x0 := (g3).next); (try simp only [rsD] at *); omega) (fun b hb => by (have x0 := (g3).next); (try simp only [rsD] at *); simp -implicitDefEqProofs (disch := (first | omega | rfl | assumption | (simp only [rsD]; first | omega | assumption))) only [s_bn, s_kn, bump_blk, s_ext (g3)])) _ (by omega) (by omega) q new w2) fun r ⟨e', h1, h2⟩ => ?_
      obtain ⟨z, σ4⟩ := r
      simp only at h1 h2
      subst h1
      simp (config := { maxSteps := 2000000 }) -implicitDefEqProofs (disch := (first | omega | rfl | assumption | (simp only [rsD]; first | omega | assumption))) only [Nat.reduceAdd, Nat.reduceMul, Nat.reduceLT, Int.reduceToNat, Int.reduceAdd, Int.reduceSub, Int.reduceMul, rsU, rsC]
      exact Ok_some.2 h2
    · have hD2 : F.nodes.getD k NV.zero = NV.zero := by rw [List.getD_eq_getElem?_getD, List.getElem?_eq_none (by omega)]; rfl
      rw [hD2] at last hle
      simp (config := { maxSteps := 2000000 }) -implicitDefEqProofs (disch := (first | omega | rfl | assumption | (simp only [rsD]; first | omega | assumption))) only [diff_Of_L1, c0, l2, Nat.reduceAdd, Nat.reduceMul, Nat.reduceLT, Int.reduceToNat, Int.reduceAdd, Int.reduceSub, Int.reduceMul, rsU, rsC]
      refine Ok.step (nodes_ok (n := (k : Int) + 1) (x := NV.zero) zero_few fy (nil_ints _) (nil_ints _) ju jv) fun r ⟨⟨q, g1, g2⟩, g3⟩ => ?_
      obtain ⟨z, σ3⟩ := r
      simp only at g1 g3
      subst g1
      obtain ⟨new, w1, w2, w3⟩ := g2.all
      have n3 := g3.next
      simp only [rsD] at n3
      simp (config := { maxSteps := 2000000 }) -implicitDefEqProofs (disch := (first | omega | rfl | assumption | (simp only [rsD]; first | omega | assumption))) only [w3, Nat.reduceAdd, Nat.reduceMul, Nat.reduceLT, Int.reduceToNat, Int.reduceAdd, Int.reduceSub, Int.reduceMul, rsU, rsC]
      refine Ok.step (last σ3 (ext_of (by (have x0 := (g3).next); (try simp only [rsD] at *); omega) (fun b hb => by (have x0 := (g3).next); (try simp only [rsD] at *); simp -implicitDefEqProofs (disch := (first | omega | rfl | assumption | (simp only [rsD]; first | omega | assumption))) only [s_bn, s_kn, bump_blk, s_ext (g3)])) _ (by omega) (by omega) q new w2) fun r ⟨e', h1, h2⟩ => ?_
      obtain ⟨z, σ4⟩ := r
      simp only at h1 h2
      subst h1
      simp (config := { maxSteps := 2000000 }) -implicitDefEqProofs (disch := (first | omega | rfl | assumption | (simp only [rsD]; first | omega | assumption))) only [Nat.reduceAdd, Nat.reduceMul, Nat.reduceLT, Int.reduceToNat, Int.reduceAdd, Int.reduceSub, Int.reduceMul, rsU, rsC]
      exact Ok_some.2 h2
  · rintro s ⟨e, σ2, rfl, B, hn2, ho⟩
    simp (config := { maxSteps := 2000000 }) -implicitDefEqProofs (disch := (first | omega | rfl | assumption | (simp only [rsD]; first | omega | assumption))) only [diff_Of_L1, Nat.reduceAdd, Nat.reduceMul, Nat.reduceLT, Int.reduceToNat, Int.reduceAdd, Int.reduceSub, Int.reduceMul, rsU, rsC]
    exact Ok_some.2 ⟨e, σ2, rfl, B, hn2, ho⟩
/-- one list more -/
theorem of_tail {σ : AH O} {base : Nat} {kind : Int} {q : List Int} {e a : SA} {l : List CV} (hq : Ints .i64 a q) (hl : q.length ≤ 100000) (B : BldO base σ T_diff_Change 13 CV.row e l) (hb : base ≤ σ.next) :
    Ok (slices_Clone___int_int_ [.sl a q.length] (σ.bump 2)) fun r => ∃ a', r.1 = .sl a' q.length ∧ Ok ((r.2.put σ.next (.cells true T_diff_Change [.i .i64 kind, .i .i64 0, .i .i64 0, .i .i64 0, .i .u64 0, .i .i64 0, .i .i64 0, .i .i64 0, .i .i64 0, .b false, .sl .nil 0, .sl .nil 0, .sl a' q.length])).appSl (σ.next + 1) T_diff_Change 13 e l.length 1 [.i .i64 kind, .i .i64 0, .i .i64 0, .i .i64 0, .i .u64 0, .i .i64 0, .i .i64 0, .i .i64 0, .i .i64 0, .b false, .sl .nil 0, .sl .nil 0, .sl a' q.length]) fun r => ∃ e', r.1 = .sl e' (l.length + 1) ∧ BldO base r.2 T_diff_Change 13 CV.row e' (l ++ [⟨kind, 0, 0, 0, 0, NV.zero, q⟩]) ∧ σ.next ≤ r.2.next ∧ ∀ b, b < base → r.2.blk b = σ.blk b := by
  refine (clone_i hq hl).mono ?_
  rintro ⟨z, σ1⟩ ⟨a', g1, g2, _⟩
  simp only at g1 g2
  subst g1
  refine ⟨a', rfl, ?_⟩
  have n2 := g2.e.next
  simp only [rsD] at n2
  have hbk := B.bk
  have parts := New.app (New.im (ts := (CV.row ⟨kind, 0, 0, 0, 0, NV.zero, q⟩).take 12) (vs := [.i .i64 kind, .i .i64 0, .i .i64 0, .i .i64 0, .i .u64 0, .i .i64 0, .i .i64 0, .i .i64 0, .i .i64 0, .b false, .sl .nil 0, .sl .nil 0]) ((CV.mk_ (c := ⟨kind, 0, 0, 0, 0, NV.zero, []⟩) (nil_ints _) (nil_ints _) (nil_ints _)).take 12) (Ext.refl (σ.bump 2))) g2
  have e12 : (CV.row ⟨kind, 0, 0, 0, 0, NV.zero, q⟩).take 12 ++ [ints .i64 q] = [(⟨kind, 0, 0, 0, 0, NV.zero, q⟩ : CV)].flatMap CV.row := by simp [CV.row, NV.row, HV.cs, NV.zero]
  rw [e12] at parts
  obtain ⟨K, k1, k2⟩ := parts.at_ (σc := σ1.put σ.next (.cells true T_diff_Change [.i .i64 kind, .i .i64 0, .i .i64 0, .i .i64 0, .i .u64 0, .i .i64 0, .i .i64 0, .i .i64 0, .i .i64 0, .b false, .sl .nil 0, .sl .nil 0, .sl a' q.length])) (p := σ.next) (nid := σ.next + 1) (Nat.le_refl _) (fun b h1 h2 => by simp only [rsD] at h1; ((try simp only [rsD] at *); simp -implicitDefEqProofs (disch := (first | omega | rfl | assumption | (simp only [rsD]; first | omega | assumption))) only [s_bs, s_bn, s_kn, bump_blk])) (by simp) (by simp)
  refine (B.app' (m := [⟨kind, 0, 0, 0, 0, NV.zero, q⟩]) hb (by simp; omega) (fun b h1 h2 => by ((have x0 := (g2.e).next); (try simp only [rsD] at *); simp -implicitDefEqProofs (disch := (first | omega | rfl | assumption | (simp only [rsD]; first | omega | assumption))) only [s_bs, s_bn, s_kn, bump_blk, s_ext (g2.e)])) ⟨K, by simpa using k1, k2⟩ (by omega) (by simp; omega)).mono ?_
  rintro ⟨z, σ2⟩ ⟨e', h1, h2, h3, h4, h5⟩
  simp only at h1 h2 h3 h4
  refine ⟨e', h1, h2, by show σ.next ≤ σ2.next; rw [h3]; simp; omega, fun b hb2 => ?_⟩
  show σ2.blk b = _
  rw [h4 b (by omega) (fun hm => by have := hbk b hm; omega)]
  ((have x0 := (g2.e).next); (try simp only [rsD] at *); simp -implicitDefEqProofs (disch := (first | omega | rfl | assumption | (simp only [rsD]; first | omega | assumption))) only [s_bs, s_bn, s_kn, bump_blk, s_ext (g2.e)])
theorem of_ok {σ : AH O} {F G : FV} {v w : AV} (hF : F.At v) (hG : G.At w) (fF : F.few) (fG : G.few) : Ok (diff_Of [v, w] σ) fun r => (∃ e, r.1 = .sl e (dOf F G).length ∧ Chgs e (dOf F G)) ∧ Ext σ r.2 := by
  have fin : Ok (diff_Of [v, w] σ) fun r => Im (.sl T_diff_Change 13 (dOf F G).length ((dOf F G).flatMap CV.row)) r.1 ∧ Ext σ r.2 := by
    refine frz_sl (rows_deep fun x => CV.deep x 5) ?_
    obtain ⟨a1, b1, c1, rfl, i1, i2, i3⟩ := hF.it
    obtain ⟨a2, b2, c2, rfl, j1, j2, j3⟩ := hG.it
    have fn := fF.n
    have gn := fG.n
    -- behind the first change
    have main : ∀ (σ1 : AH O) (e0 : SA), σ.next + 2 ≤ σ1.next → (∀ b, b < σ.next → σ1.blk b = σ.blk b) → σ1.blk σ.next = some (.cells true T_canon_Form [.sl a1 F.nodes.length, .sl b1 F.roots.length, .sl c1 F.weak.length]) → σ1.blk (σ.next + 1) = some (.cells true T_canon_Form [.sl a2 G.nodes.length, .sl b2 G.roots.length, .sl c2 G.weak.length]) →
        BldO (σ.next + 2) σ1 T_diff_Change 13 CV.row e0 (dsize F G) →
        Ok (loopF (S := List AV × AH O) (T := List AV × AH O) (diff_Of_L1 (a2, G.nodes.length) σ diff_nodes) ([.sl e0 (dsize F G).length, .i .i64 0], σ1)) fun r => ∃ e σ', r = ([.sl e (dsize F G ++ dmid F G G.nodes.length).length], σ') ∧ BldO (σ.next + 2) σ' T_diff_Change 13 CV.row e (dsize F G ++ dmid F G G.nodes.length) ∧ σ.next + 2 ≤ σ'.next ∧ (∀ b, b < σ.next → σ'.blk b = σ.blk b) ∧ σ'.blk σ.next = some (.cells true T_canon_Form [.sl a1 F.nodes.length, .sl b1 F.roots.length, .sl c1 F.weak.length]) ∧ σ'.blk (σ.next + 1) = some (.cells true T_canon_Form [.sl a2 G.nodes.length, .sl b2 G.roots.length, .sl c2 G.weak.length]) := by
      intro σ1 e0 n1 o1 x0 x1 B
      refine (of_loop fF fG i1 j1 (dsize_len F G) (b2 := b2) (c2 := c2) (c := c1) (b := b1) x0 n1 B).mono ?_
      rintro r ⟨e, σ2, rfl, h2, h3, h4⟩
      exact ⟨e, σ2, rfl, h2, by omega, fun b hb => (h4 b (by omega)).trans (o1 b hb), (h4 _ (by omega)).trans x0, (h4 _ (by omega)).trans x1⟩
    have fl : ∀ (l : List CV), l = dsize F G ++ dmid F G G.nodes.length → l.length ≤ 20000000001 := fun l hl => by
      rw [hl, List.length_append]
      have h1 := dsize_len F G
      have h2 := dmid_len F G fG G.nodes.length
      have : G.nodes.length * 200000 ≤ 100000 * 200000 := Nat.mul_le_mul_right _ (by omega)
      omega
    -- the lists
    have rest : ∀ (σ2 : AH O) (e : SA) (l : List CV), l.length ≤ 20000000001 → σ.next + 2 ≤ σ2.next → (∀ b, b < σ.next → σ2.blk b = σ.blk b) → BldO (σ.next + 2) σ2 T_diff_Change 13 CV.row e (l ++ dlist 4 F.roots G.roots ++ dlist 5 F.weak G.weak) → New σ σ2 [.sl T_diff_Change 13 (l ++ dlist 4 F.roots G.roots ++ dlist 5 F.weak G.weak).length ((l ++ dlist 4 F.roots G.roots ++ dlist 5 F.weak G.weak).flatMap CV.row)] [.sl e (l ++ dlist 4 F.roots G.roots ++ dlist 5 F.weak G.weak).length] :=
      fun σ2 e l _ n2 o2 B => B.out ⟨by omega, o2⟩ (by omega)
    have dl4 := dlist_len 4 F.roots G.roots
    have fl1 := fl _ rfl
    have fl2 : (dsize F G ++ dmid F G G.nodes.length ++ dlist 4 F.roots G.roots).length ≤ 20000000002 := by rw [List.length_append]; omega
    simp (config := { maxSteps := 2000000 }) -implicitDefEqProofs (disch := (first | omega | rfl | assumption | (simp only [rsD]; first | omega | assumption))) only [diff_Of_c, Nat.reduceAdd, Nat.reduceMul, Nat.reduceLT, Int.reduceToNat, Int.reduceAdd, Int.reduceSub, Int.reduceMul, rsU, rsC]
    refine Ok.step (Q := fun r => ∃ e σ1, r = ([.sl e (dsize F G).length], σ1) ∧ σ.next + 2 ≤ σ1.next ∧ (∀ b, b < σ.next → σ1.blk b = σ.blk b) ∧ σ1.blk σ.next = some (.cells true T_canon_Form [.sl a1 F.nodes.length, .sl b1 F.roots.length, .sl c1 F.weak.length]) ∧ σ1.blk (σ.next + 1) = some (.cells true T_canon_Form [.sl a2 G.nodes.length, .sl b2 G.roots.length, .sl c2 G.weak.length]) ∧ BldO (σ.next + 2) σ1 T_diff_Change 13 CV.row e (dsize F G)) ?_ ?_
    · by_cases c0 : F.nodes.length = G.nodes.length
      · have p0 := s_eqT (show (F.nodes.length : Int) = G.nodes.length by omega)
        have d0 : dsize F G = [] := by unfold dsize; rw [if_neg (fun h => h c0)]
        simp (config := { maxSteps := 2000000 }) -implicitDefEqProofs (disch := (first | omega | rfl | assumption | (simp only [rsD]; first | omega | assumption))) only [p0, Nat.reduceAdd, Nat.reduceMul, Nat.reduceLT, Int.reduceToNat, Int.reduceAdd, Int.reduceSub, Int.reduceMul, rsU, rsC]
        exact Ok_some.2 ⟨.nil, _, by rw [d0]; rfl, by simp, fun b hb => by ((try simp only [rsD] at *); simp -implicitDefEqProofs (disch := (first | omega | rfl | assumption | (simp only [rsD]; first | omega | assumption))) only [s_bs, s_bn, s_kn, bump_blk]), by ((try simp only [rsD] at *); simp -implicitDefEqProofs (disch := (first | omega | rfl | assumption | (simp only [rsD]; first | omega | assumption))) only [s_bs, s_bn, s_kn, bump_blk]), by ((try simp only [rsD] at *); simp -implicitDefEqProofs (disch := (first | omega | rfl | assumption | (simp only [rsD]; first | omega | assumption))) only [s_bs, s_bn, s_kn, bump_blk]), by rw [d0]; exact BldO.nil _ _ _ CV.len⟩
      · have p0 := s_eqF (show ¬ (F.nodes.length : Int) = G.nodes.length by omega)
        have d0 : dsize F G = [⟨0, 0, 0, G.nodes.length, 0, NV.zero, []⟩] := by unfold dsize; rw [if_pos c0]
        rw [d0]
        simp (config := { maxSteps := 2000000 }) -implicitDefEqProofs (disch := (first | omega | rfl | assumption | (simp only [rsD]; first | omega | assumption))) only [p0, Nat.reduceAdd, Nat.reduceMul, Nat.reduceLT, Int.reduceToNat, Int.reduceAdd, Int.reduceSub, Int.reduceMul, rsU, rsC]
        refine Ok.step ((BldO.nil (σ.next + 2) (((σ.bump 2).put σ.next (.cells true T_canon_Form [.sl a1 F.nodes.length, .sl b1 F.roots.length, .sl c1 F.weak.length])).put (σ.next + 1) (.cells true T_canon_Form [.sl a2 G.nodes.length, .sl b2 G.roots.length, .sl c2 G.weak.length])) T_diff_Change CV.len).app' (m := [⟨0, 0, 0, G.nodes.length, 0, NV.zero, []⟩]) (by simp) (by simp) (fun b h1 h2 => by simp only [rsD] at h2; ((try simp only [rsD] at *); simp -implicitDefEqProofs (disch := (first | omega | rfl | assumption | (simp only [rsD]; first | omega | assumption))) only [s_bs, s_bn, s_kn, bump_blk])) ⟨[], OwL.im (by rw [List.flatMap_cons, List.flatMap_nil, List.append_nil]; exact CV.mk_ (c := ⟨0, 0, 0, G.nodes.length, 0, NV.zero, []⟩) (a := .nil) (b := .nil) (d := .nil) (nil_ints _) (nil_ints _) (nil_ints _)), by simp⟩ (by simp) (by simp)) fun r ⟨e', h1, h2, h3, h4, h5⟩ => ?_
        obtain ⟨z, σ1⟩ := r
        simp only at h1 h2 h3 h4
        subst h1
        simp (config := { maxSteps := 2000000 }) -implicitDefEqProofs (disch := (first | omega | rfl | assumption | (simp only [rsD]; first | omega | assumption))) only [Nat.reduceAdd, Nat.reduceMul, Nat.reduceLT, Int.reduceToNat, Int.reduceAdd, Int.reduceSub, Int.reduceMul, rsU, rsC]
        refine Ok_some.2 ⟨e', σ1, rfl, by rw [h3]; simp, fun b hb => ?_, ?_, ?_, h2⟩
        · rw [h4 b (by omega) (by simp [SA.bk])]; ((try simp only [rsD] at *); simp -implicitDefEqProofs (disch := (first | omega | rfl | assumption | (simp only [rsD]; first | omega | assumption))) only [s_bs, s_bn, s_kn, bump_blk])
        · rw [h4 _ (by omega) (by simp [SA.bk])]; ((try simp only [rsD] at *); simp -implicitDefEqProofs (disch := (first | omega | rfl | assumption | (simp only [rsD]; first | omega | assumption))) only [s_bs, s_bn, s_kn, bump_blk])
        · rw [h4 _ (by omega) (by simp [SA.bk])]; ((try simp only [rsD] at *); simp -implicitDefEqProofs (disch := (first | omega | rfl | assumption | (simp only [rsD]; first | omega | assumption))) only [s_bs, s_bn, s_kn, bump_blk])
    rintro _ ⟨e0, σ1, rfl, n1, o1, x0, x1, B⟩
    simp (config := { maxSteps := 2000000 }) -implicitDefEqProofs (disch := (first | omega | rfl | assumption | (simp only [rsD]; first | omega | assumption))) only [x1, Nat.reduceAdd, Nat.reduceMul, Nat.reduceLT, Int.reduceToNat, Int.reduceAdd, Int.reduceSub, Int.reduceMul, rsU, rsC]
    refine Ok.step (main σ1 e0 n1 o1 x0 x1 B) ?_
    rintro _ ⟨e1, σ2, rfl, B, n2, o2, y0, y1⟩
    simp (config := { maxSteps := 2000000 }) -implicitDefEqProofs (disch := (first | omega | rfl | assumption | (simp only [rsD]; first | omega | assumption))) only [y0, y1, Nat.reduceAdd, Nat.reduceMul, Nat.reduceLT, Int.reduceToNat, Int.reduceAdd, Int.reduceSub, Int.reduceMul, rsU, rsC]
    refine Ok.step (sequal_i i2 j2 fF.r fG.r) fun r g => ?_
    subst g
    simp (config := { maxSteps := 2000000 }) -implicitDefEqProofs (disch := (first | omega | rfl | assumption | (simp only [rsD]; first | omega | assumption))) only [Nat.reduceAdd, Nat.reduceMul, Nat.reduceLT, Int.reduceToNat, Int.reduceAdd, Int.reduceSub, Int.reduceMul, rsU, rsC]
    refine Ok.step (Q := fun r => ∃ e σ1, r = ([.sl e (dsize F G ++ dmid F G G.nodes.length ++ dlist 4 F.roots G.roots).length], σ1) ∧ σ.next + 2 ≤ σ1.next ∧ (∀ b, b < σ.next → σ1.blk b = σ.blk b) ∧ σ1.blk σ.next = some (.cells true T_canon_Form [.sl a1 F.nodes.length, .sl b1 F.roots.length, .sl c1 F.weak.length]) ∧ σ1.blk (σ.next + 1) = some (.cells true T_canon_Form [.sl a2 G.nodes.length, .sl b2 G.roots.length, .sl c2 G.weak.length]) ∧ BldO (σ.next + 2) σ1 T_diff_Change 13 CV.row e (dsize F G ++ dmid F G G.nodes.length ++ dlist 4 F.roots G.roots)) ?_ ?_
    · by_cases c0 : F.roots = G.roots
      · have p0 := decide_eq_true c0
        have d0 : dlist 4 F.roots G.roots = [] := by unfold dlist; rw [if_neg (fun h => h c0)]
        simp (config := { maxSteps := 2000000 }) -implicitDefEqProofs (disch := (first | omega | rfl | assumption | (simp only [rsD]; first | omega | assumption))) only [p0, Nat.reduceAdd, Nat.reduceMul, Nat.reduceLT, Int.reduceToNat, Int.reduceAdd, Int.reduceSub, Int.reduceMul, rsU, rsC]
        rw [d0, List.append_nil]
        exact Ok_some.2 ⟨e1, σ2, rfl, n2, o2, y0, y1, B⟩
      · have p0 := decide_eq_false c0
        have d0 : dlist 4 F.roots G.roots = [⟨4, 0, 0, 0, 0, NV.zero, G.roots⟩] := by unfold dlist; rw [if_pos c0]
        rw [d0]
        simp (config := { maxSteps := 2000000 }) -implicitDefEqProofs (disch := (first | omega | rfl | assumption | (simp only [rsD]; first | omega | assumption))) only [p0, y1, Nat.reduceAdd, Nat.reduceMul, Nat.reduceLT, Int.reduceToNat, Int.reduceAdd, Int.reduceSub, Int.reduceMul, rsU, rsC]
        refine Ok.step (of_tail (kind := 4) j2 fG.r B n2) fun r ⟨a', g1, g2⟩ => ?_
        obtain ⟨z, σ3⟩ := r
        simp only at g1 g2
        subst g1
        simp (config := { maxSteps := 2000000 }) -implicitDefEqProofs (disch := (first | omega | rfl | assumption | (simp only [rsD]; first | omega | assumption))) only [Nat.reduceAdd, Nat.reduceMul, Nat.reduceLT, Int.reduceToNat, Int.reduceAdd, Int.reduceSub, Int.reduceMul, rsU, rsC]
        refine Ok.step g2 fun r ⟨e', h1, h2, h3, h4⟩ => ?_
        obtain ⟨z, σ4⟩ := r
        simp only at h1 h2 h3 h4
        subst h1
        simp (config := { maxSteps := 2000000 }) -implicitDefEqProofs (disch := (first | omega | rfl | assumption | (simp only [rsD]; first | omega | assumption))) only [Nat.reduceAdd, Nat.reduceMul, Nat.reduceLT, Int.reduceToNat, Int.reduceAdd, Int.reduceSub, Int.reduceMul, rsU, rsC]
        exact Ok_some.2 ⟨e', σ4, by simp [Nat.add_assoc], by omega, fun b hb => (h4 b (by omega)).trans (o2 b hb), (h4 _ (by omega)).trans y0, (h4 _ (by omega)).trans y1, h2⟩
    rintro _ ⟨e2, σ3, rfl, n3, o3, z0, z1, B⟩
    simp (config := { maxSteps := 2000000 }) -implicitDefEqProofs (disch := (first | omega | rfl | assumption | (simp only [rsD]; first | omega | assumption))) only [z0, z1, Nat.reduceAdd, Nat.reduceMul, Nat.reduceLT, Int.reduceToNat, Int.reduceAdd, Int.reduceSub, Int.reduceMul, rsU, rsC]
    refine Ok.step (sequal_i i3 j3 fF.w fG.w) fun r g => ?_
    subst g
    simp (config := { maxSteps := 2000000 }) -implicitDefEqProofs (disch := (first | omega | rfl | assumption | (simp only [rsD]; first | omega | assumption))) only [Nat.reduceAdd, Nat.reduceMul, Nat.reduceLT, Int.reduceToNat, Int.reduceAdd, Int.reduceSub, Int.reduceMul, rsU, rsC]
    refine Ok.step (Q := fun r => ∃ e σ1, r = ([.sl e (dsize F G ++ dmid F G G.nodes.length ++ dlist 4 F.roots G.roots ++ dlist 5 F.weak G.weak).length], σ1) ∧ σ.next + 2 ≤ σ1.next ∧ (∀ b, b < σ.next → σ1.blk b = σ.blk b) ∧ σ1.blk σ.next = some (.cells true T_canon_Form [.sl a1 F.nodes.length, .sl b1 F.roots.length, .sl c1 F.weak.length]) ∧ σ1.blk (σ.next + 1) = some (.cells true T_canon_Form [.sl a2 G.nodes.length, .sl b2 G.roots.length, .sl c2 G.weak.length]) ∧ BldO (σ.next + 2) σ1 T_diff_Change 13 CV.row e (dsize F G ++ dmid F G G.nodes.length ++ dlist 4 F.roots G.roots ++ dlist 5 F.weak G.weak)) ?_ ?_
    · by_cases c0 : F.weak = G.weak
      · have p0 := decide_eq_true c0
        have d0 : dlist 5 F.weak G.weak = [] := by unfold dlist; rw [if_neg (fun h => h c0)]
        simp (config := { maxSteps := 2000000 }) -implicitDefEqProofs (disch := (first | omega | rfl | assumption | (simp only [rsD]; first | omega | assumption))) only [p0, Nat.reduceAdd, Nat.reduceMul, Nat.reduceLT, Int.reduceToNat, Int.reduceAdd, Int.reduceSub, Int.reduceMul, rsU, rsC]
        rw [d0, List.append_nil]
        exact Ok_some.2 ⟨e2, σ3, rfl, n3, o3, z0, z1, B⟩
      · have p0 := decide_eq_false c0
        have d0 : dlist 5 F.weak G.weak = [⟨5, 0, 0, 0, 0, NV.zero, G.weak⟩] := by unfold dlist; rw [if_pos c0]
        rw [d0]
        simp (config := { maxSteps := 2000000 }) -implicitDefEqProofs (disch := (first | omega | rfl | assumption | (simp only [rsD]; first | omega | assumption))) only [p0, z1, Nat.reduceAdd, Nat.reduceMul, Nat.reduceLT, Int.reduceToNat, Int.reduceAdd, Int.reduceSub, Int.reduceMul, rsU, rsC]
        refine Ok.step (of_tail (kind := 5) j3 fG.w B n3) fun r ⟨a', g1, g2⟩ => ?_
        obtain ⟨z, σ4⟩ := r
        simp only at g1 g2
        subst g1
        simp (config := { maxSteps := 2000000 }) -implicitDefEqProofs (disch := (first | omega | rfl | assumption | (simp only [rsD]; first | omega | assumption))) only [Nat.reduceAdd, Nat.reduceMul, Nat.reduceLT, Int.reduceToNat, Int.reduceAdd, Int.reduceSub, Int.reduceMul, rsU, rsC]
        refine Ok.step g2 fun r ⟨e', h1, h2, h3, h4⟩ => ?_
        obtain ⟨z, σ5⟩ := r
        simp only at h1 h2 h3 h4
        subst h1
        simp (config := { maxSteps := 2000000 }) -implicitDefEqProofs (disch := (first | omega | rfl | assumption | (simp only [rsD]; first | omega | assumption))) only [Nat.reduceAdd, Nat.reduceMul, Nat.reduceLT, Int.reduceToNat, Int.reduceAdd, Int.reduceSub, Int.reduceMul, rsU, rsC]
        exact Ok_some.2 ⟨e', σ5, by simp [Nat.add_assoc], by omega, fun b hb => (h4 b (by omega)).trans (o3 b hb), (h4 _ (by omega)).trans z0, (h4 _ (by omega)).trans z1, h2⟩
    rintro _ ⟨e3, σ4, rfl, n4, o4, w0, w1, B⟩
    simp (config := { maxSteps := 2000000 }) -implicitDefEqProofs (disch := (first | omega | rfl | assumption | (simp only [rsD]; first | omega | assumption))) only [Nat.reduceAdd, Nat.reduceMul, Nat.reduceLT, Int.reduceToNat, Int.reduceAdd, Int.reduceSub, Int.reduceMul, rsU, rsC]
    exact Ok_some.2 (rest σ4 e3 _ fl1 n4 o4 B)
  refine fin.mono ?_
  rintro ⟨v, σ'⟩ ⟨h1, h2⟩
  exact ⟨Row.of CV.len h1 rfl, h2⟩
end Go.Abs.Try
