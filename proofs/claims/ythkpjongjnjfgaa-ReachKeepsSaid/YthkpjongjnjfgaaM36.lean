/-
  Graphs: where one stands, what is asked of it. No conditions.
-/
import Derived.Test.YthkpjongjnjfgaaR36
set_option linter.unusedVariables false
set_option linter.unusedSimpArgs false
set_option linter.constructorNameAsVariable false
set_option linter.unusedSimpArgs false
set_option linter.unusedVariables false
set_option linter.unusedSectionVars false
set_option maxHeartbeats 1000000
namespace Go.Abs.Try
open Go Go.Abs
variable {O : Type}
theorem s_mp {x : Option Nat} : AV.asMp (.mp x) = some x := rfl
theorem s_lookS {i : Nat} {v z : AV} : lookV (some (i, v)) z = v := rfl
theorem s_lookN {z : AV} : lookV none z = z := rfl
def entV (v : Nat -> AV) (i : Nat) : AV × AV := (.i .i64 ((i : Int) + 1), v i)
theorem findM_hit (v : Nat -> AV) : ∀ (l : List Nat) {i : Nat}, i ∈ l -> findM .i64 ((i : Int) + 1) (l.map (entV v)) = some (some (l.idxOf i, v i))
  | j :: l, i, h => by
    simp only [List.map_cons, entV, findM, if_true]
    by_cases c : j = i
    · subst c
      simp
    · have q0 : ((i : Int) + 1 == (j : Int) + 1) = false := s_eqF (by omega)
      rw [q0, cond_false, show (j :: l).idxOf i = l.idxOf i + 1 by rw [List.idxOf_cons, beq_eq_false_iff_ne.2 c]; rfl]
      have hi : i ∈ l := by
        rcases List.mem_cons.1 h with e | h
        · exact absurd e.symm c
        · exact h
      have := findM_hit v l hi
      rw [this]; rfl
theorem findM_miss (v : Nat -> AV) {id : Int} : ∀ (l : List Nat), (∀ i ∈ l, (i : Int) + 1 ≠ id) -> findM .i64 id (l.map (entV v)) = some none
  | [], _ => rfl
  | j :: l, h => by
    simp only [List.map_cons, entV, findM, if_true]
    have q0 : (id == (j : Int) + 1) = false := s_eqF (fun e => h j (by simp) e.symm)
    have := findM_miss v l fun i hi => h i (by simp [hi])
    rw [q0, cond_false, this]; rfl
def esG (D : List DN) (N : Nat -> Nat) : List (AV × AV) := (liveL D).map (entV fun i => .p (some (.n (N i + 2), 0)))
theorem mem_liveL {D : List DN} {i : Nat} : i ∈ liveL D ↔ ∃ x, D[i]? = some x /\ x.gone = false := by
  unfold liveL
  rw [List.mem_filter, List.mem_range]
  constructor
  · rintro ⟨h1, h2⟩
    rw [List.getElem?_eq_getElem h1] at h2
    exact ⟨_, List.getElem?_eq_getElem h1, by simpa using h2⟩
  · rintro ⟨x, h1, h2⟩
    exact ⟨(List.getElem?_eq_some_iff.1 h1).1, by rw [h1]; simp [h2]⟩
theorem liveL_nodup (D : List DN) : (liveL D).Nodup := List.nodup_range.filter _
def nodeC (x : DN) (n : Nat) : List AV := [.i .i64 x.h.p, .i .i64 x.h.r, .i .i64 x.h.site, .i .i64 x.h.age, .b x.h.large, .sl (.loc (.n n) 0 1) x.P.length, .sl (.loc (.n (n + 1)) 0 1) x.R.length]
structure GAt (J : AH O) (gb mb : Nat) (D : List DN) (N : Nat -> Nat) : Prop where
  g : J.blk gb = some (.cells true T_graph_Graph [.mp (some mb), .i .i64 (D.length : Int)])
  m : ∃ st c, J.blk mb = some (.map (esG D N) st c) /\ st.length = (liveL D).length
  nd : ∀ i x, D[i]? = some x -> x.gone = false -> J.blk (N i + 2) = some (.cells true T_graph_node (nodeC x (N i))) /\ J.blk (N i) = some (.cells true T_int (x.P.map (.i .i64))) /\ J.blk (N i + 1) = some (.cells true T_uint64 (x.R.map (.i .u64)))
  o : mb < gb
  gl : gb < J.next
  lo : ∀ i, i < D.length -> gb < N i /\ N i + 3 <= J.next
  up : ∀ i j, i < j -> j < D.length -> N i + 3 <= N j
def Free (gb mb : Nat) (D : List DN) (N : Nat -> Nat) (b : Nat) : Prop := b ≠ gb /\ b ≠ mb /\ ∀ i, i < D.length -> b < N i ∨ N i + 3 <= b
structure Gfr (gb mb : Nat) (D : List DN) (N : Nat -> Nat) (J J' : AH O) : Prop where
  next : J.next <= J'.next
  blk : ∀ b, b < J.next -> Free gb mb D N b -> J'.blk b = J.blk b
theorem Gfr.refl (gb mb : Nat) (D : List DN) (N : Nat -> Nat) (J : AH O) : Gfr gb mb D N J J := ⟨Nat.le_refl _, fun _ _ _ => rfl⟩
theorem GAt.of {J J' : AH O} {gb mb : Nat} {D : List DN} {N : Nat -> Nat} (h : GAt J gb mb D N) (hn : J.next <= J'.next) (hb : ∀ b, b < J.next -> ¬ Free gb mb D N b -> J'.blk b = J.blk b) : GAt J' gb mb D N := by
  obtain ⟨g, ⟨st, c, m, ml⟩, nd, o, gl, lo, up⟩ := h
  refine ⟨(hb gb gl fun f => f.1 rfl).trans g, ⟨st, c, (hb mb (by omega) fun f => f.2.1 rfl).trans m, ml⟩, fun i x hx hg => ?_, o, by omega, fun i hi => ⟨(lo i hi).1, by have := (lo i hi).2; omega⟩, up⟩
  have hi := (List.getElem?_eq_some_iff.1 hx).1
  have l := lo i hi
  obtain ⟨a, b, c⟩ := nd i x hx hg
  exact ⟨(hb _ (by omega) fun f => by have := f.2.2 i hi; omega).trans a, (hb _ (by omega) fun f => by have := f.2.2 i hi; omega).trans b, (hb _ (by omega) fun f => by have := f.2.2 i hi; omega).trans c⟩
theorem GAt.ext {J J' : AH O} {gb mb : Nat} {D : List DN} {N : Nat -> Nat} (h : GAt J gb mb D N) (e : Ext J J') : GAt J' gb mb D N := h.of e.next fun b hb _ => e.blk b hb
section at_
variable {J : AH O} {gb mb : Nat} {D : List DN} {N : Nat -> Nat}
theorem GAt.ents (h : GAt J gb mb D N) : entsOf J (.mp (some mb)) = some (esG D N) := by
  obtain ⟨st, c, m, _⟩ := h.m
  simp only [entsOf, m]
theorem GAt.hit (h : GAt J gb mb D N) {i : Nat} {x : DN} (hx : D[i]? = some x) (hg : x.gone = false) : findM .i64 ((i : Int) + 1) (esG D N) = some (some ((liveL D).idxOf i, .p (some (.n (N i + 2), 0)))) := findM_hit _ _ (mem_liveL.2 ⟨x, hx, hg⟩)
theorem esG_miss {id : Int} (hl : liveAt D id = none) : findM .i64 id (esG D N) = some none := findM_miss _ _ fun i hi e => by
  obtain ⟨x, hx, hg⟩ := mem_liveL.1 hi
  rw [<- e, liveAt_of hx hg] at hl
  cases hl
theorem gis_ok (h : GAt J gb mb D N) {id : Int} : graph_Graph__Is [.p (some (.n gb, 0)), .i .i64 id] J = some (.b (liveAt D id).isSome, J) := by
  have hg := h.g
  have he := h.ents
  cases hl : liveAt D id with
  | none =>
    have f := esG_miss (N := N) hl
    simp (maxSteps := 2000000) -implicitDefEqProofs (disch := (first | omega | rfl | assumption | (simp only [rsD]; first | omega | assumption))) only [graph_Graph__Is, graph_Graph__Is_c, hg, s_mp, he, f, s_lookN, Nat.reduceAdd, Nat.reduceMul, Nat.reduceLT, Int.reduceToNat, Int.reduceAdd, Int.reduceSub, Int.reduceMul, rsU, rsC]
    rfl
  | some x =>
    obtain ⟨i, rfl, hx, hgn, hi⟩ := liveAt_some hl
    have f := h.hit hx hgn
    simp (maxSteps := 2000000) -implicitDefEqProofs (disch := (first | omega | rfl | assumption | (simp only [rsD]; first | omega | assumption))) only [graph_Graph__Is, graph_Graph__Is_c, hg, s_mp, he, f, s_lookS, Nat.reduceAdd, Nat.reduceMul, Nat.reduceLT, Int.reduceToNat, Int.reduceAdd, Int.reduceSub, Int.reduceMul, rsU, rsC]
    rfl
theorem gptr_ok (h : GAt J gb mb D N) {id i : Int} : graph_Graph__Pointer [.p (some (.n gb, 0)), .i .i64 id, .i .i64 i] J = some (.tup [.i .i64 (ptrD D id i).1, .i .i64 (ptrD D id i).2], J) := by
  have hg := h.g
  have he := h.ents
  have t0 : (false == false) = true := rfl
  have t1 : (true == false) = false := rfl
  have is_ := gis_ok h (id := id)
  unfold ptrD
  cases hl : liveAt D id with
  | none =>
    rw [hl] at is_
    simp (maxSteps := 2000000) -implicitDefEqProofs (disch := (first | omega | rfl | assumption | (simp only [rsD]; first | omega | assumption))) only [graph_Graph__Pointer, graph_Graph__Pointer_c, is_, Option.isSome_none, Nat.reduceAdd, Nat.reduceMul, Nat.reduceLT, Int.reduceToNat, Int.reduceAdd, Int.reduceSub, Int.reduceMul, rsU, rsC]
  | some x =>
    rw [hl] at is_
    obtain ⟨k, rfl, hx, hgn, hk⟩ := liveAt_some hl
    have f := h.hit hx hgn
    obtain ⟨n1, n2, n3⟩ := h.nd k x hx hgn
    unfold nodeC at n1
    by_cases c0 : i < 0
    · have d0 := decide_eq_true c0
      simp (maxSteps := 2000000) -implicitDefEqProofs (disch := (first | omega | rfl | assumption | (simp only [rsD]; first | omega | assumption))) only [graph_Graph__Pointer, graph_Graph__Pointer_c, is_, Option.isSome_some, d0, t1, Nat.reduceAdd, Nat.reduceMul, Nat.reduceLT, Int.reduceToNat, Int.reduceAdd, Int.reduceSub, Int.reduceMul, rsU, rsC]
      rw [if_neg (by omega)]
    · have d0 := decide_eq_false c0
      by_cases c1 : i < (x.P.length : Int)
      · have d1 : decide (i >= (x.P.length : Int)) = false := decide_eq_false (by omega)
        obtain ⟨j, rfl⟩ : ∃ j : Nat, i = j := ⟨i.toNat, by omega⟩
        obtain ⟨y, hy⟩ : ∃ y, x.P[j]? = some y := ⟨_, List.getElem?_eq_getElem (by omega)⟩
        have gy : (x.P.map (AV.i .i64))[j]? = some (.i .i64 y) := by rw [List.getElem?_map, hy]; rfl
        simp (maxSteps := 2000000) -implicitDefEqProofs (disch := (first | omega | rfl | assumption | (simp only [rsD]; first | omega | assumption))) only [graph_Graph__Pointer, graph_Graph__Pointer_c, is_, Option.isSome_some, d0, t0, hg, s_mp, he, f, s_lookS, n1, d1, n2, gy, Nat.reduceAdd, Nat.reduceMul, Nat.reduceLT, Int.reduceToNat, Int.reduceAdd, Int.reduceSub, Int.reduceMul, rsU, rsC]
        rw [if_pos ⟨by omega, c1⟩]
        simp [List.getD_eq_getElem?_getD, hy]
      · have d1 : decide (i >= (x.P.length : Int)) = true := decide_eq_true (by omega)
        simp (maxSteps := 2000000) -implicitDefEqProofs (disch := (first | omega | rfl | assumption | (simp only [rsD]; first | omega | assumption))) only [graph_Graph__Pointer, graph_Graph__Pointer_c, is_, Option.isSome_some, d0, t0, hg, s_mp, he, f, s_lookS, n1, d1, Nat.reduceAdd, Nat.reduceMul, Nat.reduceLT, Int.reduceToNat, Int.reduceAdd, Int.reduceSub, Int.reduceMul, rsU, rsC]
        rw [if_neg (by omega)]
theorem graw_ok (h : GAt J gb mb D N) {id i : Int} : graph_Graph__Raw [.p (some (.n gb, 0)), .i .i64 id, .i .i64 i] J = some (.tup [.i .u64 (rawD D id i).1, .i .i64 (rawD D id i).2], J) := by
  have hg := h.g
  have he := h.ents
  have t0 : (false == false) = true := rfl
  have t1 : (true == false) = false := rfl
  have is_ := gis_ok h (id := id)
  unfold rawD
  cases hl : liveAt D id with
  | none =>
    rw [hl] at is_
    simp (maxSteps := 2000000) -implicitDefEqProofs (disch := (first | omega | rfl | assumption | (simp only [rsD]; first | omega | assumption))) only [graph_Graph__Raw, graph_Graph__Raw_c, is_, Option.isSome_none, Nat.reduceAdd, Nat.reduceMul, Nat.reduceLT, Int.reduceToNat, Int.reduceAdd, Int.reduceSub, Int.reduceMul, rsU, rsC]
  | some x =>
    rw [hl] at is_
    obtain ⟨k, rfl, hx, hgn, hk⟩ := liveAt_some hl
    have f := h.hit hx hgn
    obtain ⟨n1, n2, n3⟩ := h.nd k x hx hgn
    unfold nodeC at n1
    by_cases c0 : i < 0
    · have d0 := decide_eq_true c0
      simp (maxSteps := 2000000) -implicitDefEqProofs (disch := (first | omega | rfl | assumption | (simp only [rsD]; first | omega | assumption))) only [graph_Graph__Raw, graph_Graph__Raw_c, is_, Option.isSome_some, d0, t1, Nat.reduceAdd, Nat.reduceMul, Nat.reduceLT, Int.reduceToNat, Int.reduceAdd, Int.reduceSub, Int.reduceMul, rsU, rsC]
      rw [if_neg (by omega)]
    · have d0 := decide_eq_false c0
      by_cases c1 : i < (x.R.length : Int)
      · have d1 : decide (i >= (x.R.length : Int)) = false := decide_eq_false (by omega)
        obtain ⟨j, rfl⟩ : ∃ j : Nat, i = j := ⟨i.toNat, by omega⟩
        obtain ⟨y, hy⟩ : ∃ y, x.R[j]? = some y := ⟨_, List.getElem?_eq_getElem (by omega)⟩
        have gy : (x.R.map (AV.i .u64))[j]? = some (.i .u64 y) := by rw [List.getElem?_map, hy]; rfl
        simp (maxSteps := 2000000) -implicitDefEqProofs (disch := (first | omega | rfl | assumption | (simp only [rsD]; first | omega | assumption))) only [graph_Graph__Raw, graph_Graph__Raw_c, is_, Option.isSome_some, d0, t0, hg, s_mp, he, f, s_lookS, n1, d1, n3, gy, Nat.reduceAdd, Nat.reduceMul, Nat.reduceLT, Int.reduceToNat, Int.reduceAdd, Int.reduceSub, Int.reduceMul, rsU, rsC]
        rw [if_pos ⟨by omega, c1⟩]
        simp [List.getD_eq_getElem?_getD, hy]
      · have d1 : decide (i >= (x.R.length : Int)) = true := decide_eq_true (by omega)
        simp (maxSteps := 2000000) -implicitDefEqProofs (disch := (first | omega | rfl | assumption | (simp only [rsD]; first | omega | assumption))) only [graph_Graph__Raw, graph_Graph__Raw_c, is_, Option.isSome_some, d0, t0, hg, s_mp, he, f, s_lookS, n1, d1, Nat.reduceAdd, Nat.reduceMul, Nat.reduceLT, Int.reduceToNat, Int.reduceAdd, Int.reduceSub, Int.reduceMul, rsU, rsC]
        rw [if_neg (by omega)]
theorem GAt.setNode (h : GAt J gb mb D N) {i : Nat} {x y : DN} (hx : D[i]? = some x) (hg : x.gone = false) (hy : y.gone = false) {J' : AH O} (hn : J'.next = J.next)
    (k1 : J'.blk (N i + 2) = some (.cells true T_graph_node (nodeC y (N i)))) (k2 : J'.blk (N i) = some (.cells true T_int (y.P.map (.i .i64)))) (k3 : J'.blk (N i + 1) = some (.cells true T_uint64 (y.R.map (.i .u64))))
    (ho : ∀ b, b < N i ∨ N i + 3 <= b -> J'.blk b = J.blk b) : GAt J' gb mb (D.set i y) N /\ Gfr gb mb D N J J' := by
  have hi := (List.getElem?_eq_some_iff.1 hx).1
  have li := h.lo i hi
  have hoo := h.o
  have el : liveL (D.set i y) = liveL D := by
    unfold liveL
    rw [List.length_set]
    refine List.filter_congr fun k hk => ?_
    rw [List.getElem?_set]
    by_cases c : i = k
    · subst c; rw [if_pos rfl, if_pos hi, hx]; simp [hg, hy]
    · rw [if_neg c]
  refine ⟨⟨?_, ?_, fun k z hz hgz => ?_, h.o, by have := h.gl; omega, fun k hk => by rw [hn]; exact h.lo k (by simpa using hk), fun k j hkj hj => h.up k j hkj (by simpa using hj)⟩, ⟨by omega, fun b hb f => ho b (f.2.2 i hi)⟩⟩
  · rw [ho gb (by omega), List.length_set]; exact h.g
  · obtain ⟨st, c, m, ml⟩ := h.m
    refine ⟨st, c, ?_, by rw [el]; exact ml⟩
    rw [ho mb (by omega), m]
    unfold esG; rw [el]
  · rw [List.getElem?_set] at hz
    by_cases c : i = k
    · subst c; rw [if_pos rfl, if_pos hi] at hz; cases hz; exact ⟨k1, k2, k3⟩
    · rw [if_neg c] at hz
      have hk := (List.getElem?_eq_some_iff.1 hz).1
      obtain ⟨a, b, d⟩ := h.nd k z hz hgz
      have ap : N k + 3 <= N i ∨ N i + 3 <= N k := by
        rcases Nat.lt_or_gt_of_ne c with c | c
        · exact .inr (h.up i k c hk)
        · exact .inl (h.up k i c hi)
      exact ⟨(ho _ (by omega)).trans a, (ho _ (by omega)).trans b, (ho _ (by omega)).trans d⟩
end at_
end Go.Abs.Try
namespace Go.Abs.Try
open Go Go.Abs
variable {O : Type}
section at_
variable {J : AH O} {gb mb : Nat} {D : List DN} {N : Nat -> Nat}
def GTo (gb mb : Nat) (D : List DN) (N : Nat -> Nat) (J : AH O) (v : AV) (D' : List DN) (r : AV × AH O) : Prop := r.1 = v /\ ∃ N', GAt r.2 gb mb D' N' /\ Gfr gb mb D N J r.2
theorem glink_ok (h : GAt J gb mb D N) {id i to : Int} : Ok (graph_Graph__Link [.p (some (.n gb, 0)), .i .i64 id, .i .i64 i, .i .i64 to] J) (GTo gb mb D N J (.i .i64 (linkD D id i to).2) (linkD D id i to).1) := by
  have hg := h.g
  have he := h.ents
  have t0 : (true == true) = true := rfl
  have t1 : (false == true) = false := rfl
  have z0 : ((0 : Int) != 0) = false := rfl
  have z4 : ((4 : Int) != 0) = true := rfl
  have z32 : ((32 : Int) != 0) = true := rfl
  have P1 := gptr_ok h (id := id) (i := i)
  have I1 := gis_ok h (id := to)
  unfold linkD
  unfold ptrD at P1
  cases hl : liveAt D id with
  | none =>
    rw [hl] at P1
    simp only at P1
    simp (maxSteps := 2000000) -implicitDefEqProofs (disch := (first | omega | rfl | assumption | (simp only [rsD]; first | omega | assumption))) only [graph_Graph__Link, graph_Graph__Link_c, P1, z4, Nat.reduceAdd, Nat.reduceMul, Nat.reduceLT, Int.reduceToNat, Int.reduceAdd, Int.reduceSub, Int.reduceMul, rsU, rsC]
    exact Ok_some.2 ⟨rfl, N, h, Gfr.refl _ _ _ _ _⟩
  | some x =>
    rw [hl] at P1
    simp only at P1
    obtain ⟨k, rfl, hx, hgn, hk⟩ := liveAt_some hl
    have f := h.hit hx hgn
    obtain ⟨n1, n2, n3⟩ := h.nd k x hx hgn
    have n1' := n1
    unfold nodeC at n1
    by_cases c : 0 <= i /\ i < (x.P.length : Int)
    · rw [if_pos c] at P1
      simp only at P1
      simp only [if_pos c]
      obtain ⟨j, rfl⟩ : ∃ j : Nat, i = j := ⟨i.toNat, by omega⟩
      have b5 : Nat.ble (j + 1) (x.P.map (AV.i .i64)).length = true := Nat.ble_eq_true_of_le (by simp; omega)
      have s5 : splice (x.P.map (AV.i .i64)) j [.i .i64 to] = (x.P.set j to).map (AV.i .i64) := by rw [splice_set (by simp; omega), List.map_set]
      obtain ⟨hcase⟩ : Nonempty ((to = 0) ∨ (to ≠ 0 /\ ∃ y, liveAt D to = some y) ∨ (to ≠ 0 /\ liveAt D to = none)) := ⟨by
        by_cases c2 : to = 0
        · exact .inl c2
        · cases h2 : liveAt D to with
          | none => exact .inr (.inr ⟨c2, rfl⟩)
          | some y => exact .inr (.inl ⟨c2, y, rfl⟩)⟩
      rcases hcase with c2 | ⟨c2, y, h2⟩ | ⟨c2, h2⟩
      rotate_left 2
      · have q0 : (to != 0) = true := by simp [c2]
        rw [h2] at I1
        simp (maxSteps := 2000000) -implicitDefEqProofs (disch := (first | omega | rfl | assumption | (simp only [rsD]; first | omega | assumption))) only [graph_Graph__Link, graph_Graph__Link_c, P1, z0, q0, t0, I1, Option.isSome_none, Nat.reduceAdd, Nat.reduceMul, Nat.reduceLT, Int.reduceToNat, Int.reduceAdd, Int.reduceSub, Int.reduceMul, rsU, rsC]
        rw [if_pos ⟨c2, h2⟩]
        exact Ok_some.2 ⟨rfl, N, h, Gfr.refl _ _ _ _ _⟩
      all_goals
        rw [if_neg (by simp [c2, *])]
        first
        | (have q0 : (to != 0) = false := by simp [c2]
           simp (maxSteps := 2000000) -implicitDefEqProofs (disch := (first | omega | rfl | assumption | (simp only [rsD]; first | omega | assumption))) only [graph_Graph__Link, graph_Graph__Link_c, P1, z0, q0, t1, hg, s_mp, he, f, s_lookS, n1, n2, b5, s5, Nat.reduceAdd, Nat.reduceMul, Nat.reduceLT, Int.reduceToNat, Int.reduceAdd, Int.reduceSub, Int.reduceMul, rsU, rsC])
        | (have q0 : (to != 0) = true := by simp [c2]
           rw [h2] at I1
           simp (maxSteps := 2000000) -implicitDefEqProofs (disch := (first | omega | rfl | assumption | (simp only [rsD]; first | omega | assumption))) only [graph_Graph__Link, graph_Graph__Link_c, P1, z0, q0, t0, I1, Option.isSome_some, hg, s_mp, he, f, s_lookS, n1, n2, b5, s5, Nat.reduceAdd, Nat.reduceMul, Nat.reduceLT, Int.reduceToNat, Int.reduceAdd, Int.reduceSub, Int.reduceMul, rsU, rsC])
        have S := h.setNode (y := { x with P := x.P.set j to }) hx hgn hgn (J' := J.put (N k) (.cells true T_int ((x.P.set j to).map (AV.i .i64)))) rfl (by rw [s_bn (by omega), n1']; simp [nodeC]) s_bs (by rw [s_bn (by omega)]; exact n3) fun b hb => s_bn (by omega)
        refine Ok_some.2 ⟨rfl, N, ?_, S.2⟩
        rw [show ((k : Int) + 1 - 1).toNat = k by omega]
        exact S.1
    · rw [if_neg c] at P1
      simp only at P1
      simp (maxSteps := 2000000) -implicitDefEqProofs (disch := (first | omega | rfl | assumption | (simp only [rsD]; first | omega | assumption))) only [graph_Graph__Link, graph_Graph__Link_c, P1, z32, Nat.reduceAdd, Nat.reduceMul, Nat.reduceLT, Int.reduceToNat, Int.reduceAdd, Int.reduceSub, Int.reduceMul, rsU, rsC]
      simp only [if_neg c]
      exact Ok_some.2 ⟨rfl, N, h, Gfr.refl _ _ _ _ _⟩
theorem gwrite_ok (h : GAt J gb mb D N) {id i w : Int} : Ok (graph_Graph__Write [.p (some (.n gb, 0)), .i .i64 id, .i .i64 i, .i .u64 w] J) (GTo gb mb D N J (.i .i64 (writeD D id i w).2) (writeD D id i w).1) := by
  have hg := h.g
  have he := h.ents
  have z0 : ((0 : Int) != 0) = false := rfl
  have z4 : ((4 : Int) != 0) = true := rfl
  have z32 : ((32 : Int) != 0) = true := rfl
  have P1 := graw_ok h (id := id) (i := i)
  unfold writeD
  unfold rawD at P1
  cases hl : liveAt D id with
  | none =>
    rw [hl] at P1
    simp only at P1
    simp (maxSteps := 2000000) -implicitDefEqProofs (disch := (first | omega | rfl | assumption | (simp only [rsD]; first | omega | assumption))) only [graph_Graph__Write, graph_Graph__Write_c, P1, z4, Nat.reduceAdd, Nat.reduceMul, Nat.reduceLT, Int.reduceToNat, Int.reduceAdd, Int.reduceSub, Int.reduceMul, rsU, rsC]
    exact Ok_some.2 ⟨rfl, N, h, Gfr.refl _ _ _ _ _⟩
  | some x =>
    rw [hl] at P1
    simp only at P1
    obtain ⟨k, rfl, hx, hgn, hk⟩ := liveAt_some hl
    have f := h.hit hx hgn
    obtain ⟨n1, n2, n3⟩ := h.nd k x hx hgn
    have n1' := n1
    unfold nodeC at n1
    by_cases c : 0 <= i /\ i < (x.R.length : Int)
    · rw [if_pos c] at P1
      simp only at P1
      simp only [if_pos c]
      obtain ⟨j, rfl⟩ : ∃ j : Nat, i = j := ⟨i.toNat, by omega⟩
      have b5 : Nat.ble (j + 1) (x.R.map (AV.i .u64)).length = true := Nat.ble_eq_true_of_le (by simp; omega)
      have s5 : splice (x.R.map (AV.i .u64)) j [.i .u64 w] = (x.R.set j w).map (AV.i .u64) := by rw [splice_set (by simp; omega), List.map_set]
      simp (maxSteps := 2000000) -implicitDefEqProofs (disch := (first | omega | rfl | assumption | (simp only [rsD]; first | omega | assumption))) only [graph_Graph__Write, graph_Graph__Write_c, P1, z0, hg, s_mp, he, f, s_lookS, n1, n3, b5, s5, Nat.reduceAdd, Nat.reduceMul, Nat.reduceLT, Int.reduceToNat, Int.reduceAdd, Int.reduceSub, Int.reduceMul, rsU, rsC]
      have S := h.setNode (y := { x with R := x.R.set j w }) hx hgn hgn (J' := J.put (N k + 1) (.cells true T_uint64 ((x.R.set j w).map (AV.i .u64)))) rfl (by rw [s_bn (by omega), n1']; simp [nodeC]) (by rw [s_bn (by omega)]; exact n2) s_bs fun b hb => s_bn (by omega)
      refine Ok_some.2 ⟨rfl, N, ?_, S.2⟩
      rw [show ((k : Int) + 1 - 1).toNat = k by omega]
      exact S.1
    · rw [if_neg c] at P1
      simp only at P1
      simp (maxSteps := 2000000) -implicitDefEqProofs (disch := (first | omega | rfl | assumption | (simp only [rsD]; first | omega | assumption))) only [graph_Graph__Write, graph_Graph__Write_c, P1, z32, Nat.reduceAdd, Nat.reduceMul, Nat.reduceLT, Int.reduceToNat, Int.reduceAdd, Int.reduceSub, Int.reduceMul, rsU, rsC]
      simp only [if_neg c]
      exact Ok_some.2 ⟨rfl, N, h, Gfr.refl _ _ _ _ _⟩
theorem ggrow_ok (h : GAt J gb mb D N) (hw : ∀ x ∈ D, 0 <= x.h.age /\ x.h.age <= 7) {id : Int} : Ok (graph_Graph__Grow [.p (some (.n gb, 0)), .i .i64 id] J) (GTo gb mb D N J (.i .i64 (growD D id).2) (growD D id).1) := by
  have hg := h.g
  have he := h.ents
  have is_ := gis_ok h (id := id)
  unfold growD
  cases hl : liveAt D id with
  | none =>
    rw [hl] at is_
    simp (maxSteps := 2000000) -implicitDefEqProofs (disch := (first | omega | rfl | assumption | (simp only [rsD]; first | omega | assumption))) only [graph_Graph__Grow, graph_Graph__Grow_c, is_, Option.isSome_none, Nat.reduceAdd, Nat.reduceMul, Nat.reduceLT, Int.reduceToNat, Int.reduceAdd, Int.reduceSub, Int.reduceMul, rsU, rsC]
    exact Ok_some.2 ⟨rfl, N, h, Gfr.refl _ _ _ _ _⟩
  | some x =>
    rw [hl] at is_
    obtain ⟨k, rfl, hx, hgn, hk⟩ := liveAt_some hl
    have f := h.hit hx hgn
    obtain ⟨n1, n2, n3⟩ := h.nd k x hx hgn
    have n1' := n1
    unfold nodeC at n1
    have ha := hw x (List.mem_of_getElem? hx)
    have e1 : (if (7 : Int) < x.h.age + 1 then 7 else x.h.age + 1) = (olderV x.h).age := by
      simp only [olderV]
      by_cases c : x.h.age < 7
      · rw [if_pos c, if_neg (by omega)]
      · rw [if_neg c, if_pos (by omega)]; omega
    simp (maxSteps := 2000000) -implicitDefEqProofs (disch := (first | omega | rfl | assumption | (simp only [rsD]; first | omega | assumption))) only [graph_Graph__Grow, graph_Graph__Grow_c, is_, Option.isSome_some, hg, s_mp, he, f, s_lookS, n1, e1, Nat.reduceAdd, Nat.reduceMul, Nat.reduceLT, Int.reduceToNat, Int.reduceAdd, Int.reduceSub, Int.reduceMul, rsU, rsC]
    have S := h.setNode (y := { x with h := olderV x.h }) hx hgn hgn (J' := J.put (N k + 2) (.cells true T_graph_node (nodeC { x with h := olderV x.h } (N k)))) rfl s_bs (by rw [s_bn (by omega)]; exact n2) (by rw [s_bn (by omega)]; exact n3) fun b hb => s_bn (by omega)
    refine Ok_some.2 ⟨rfl, N, ?_, S.2⟩
    rw [show ((k : Int) + 1 - 1).toNat = k by omega]
    exact S.1
def headV (D : List DN) (id : Int) : AV := match liveAt D id with | none => .tup [.agg [.i .i64 0, .i .i64 0, .i .i64 0, .i .i64 0, .b false], .i .i64 4] | some x => .tup [.agg x.h.cs, .i .i64 0]
theorem ghead_ok (h : GAt J gb mb D N) {id : Int} : Ok (graph_Graph__Header [.p (some (.n gb, 0)), .i .i64 id] J) fun r => r.1 = headV D id /\ Ext J r.2 := by
  unfold headV
  have hb := h.gl
  have h' := h.ext (J' := (J.bump 1).put J.next (.cells true 53 [.i .i64 0, .i .i64 0, .i .i64 0, .i .i64 0, .b false])) (ext_of (by simp only [put_next, bump_next, kill_next]; omega) (fun b hb => by simp -implicitDefEqProofs (disch := (first | omega | rfl | assumption | (simp only [rsD]; first | omega | assumption))) only [s_bn, s_kn, bump_blk, s_ext]))
  have hg := h'.g
  have he := h'.ents
  have is_ := gis_ok h' (id := id)
  cases hl : liveAt D id with
  | none =>
    rw [hl] at is_
    simp (maxSteps := 2000000) -implicitDefEqProofs (disch := (first | omega | rfl | assumption | (simp only [rsD]; first | omega | assumption))) only [graph_Graph__Header, graph_Graph__Header_c, is_, Option.isSome_none, Nat.reduceAdd, Nat.reduceMul, Nat.reduceLT, Int.reduceToNat, Int.reduceAdd, Int.reduceSub, Int.reduceMul, rsU, rsC]
    exact Ok_some.2 ⟨rfl, (ext_of (by simp only [put_next, bump_next, kill_next]; omega) (fun b hb => by simp -implicitDefEqProofs (disch := (first | omega | rfl | assumption | (simp only [rsD]; first | omega | assumption))) only [s_bn, s_kn, bump_blk, s_ext]))⟩
  | some x =>
    rw [hl] at is_
    obtain ⟨k, rfl, hx, hgn, hk⟩ := liveAt_some hl
    have f := h.hit hx hgn
    obtain ⟨n1, n2, n3⟩ := h'.nd k x hx hgn
    unfold nodeC at n1
    simp (maxSteps := 2000000) -implicitDefEqProofs (disch := (first | omega | rfl | assumption | (simp only [rsD]; first | omega | assumption))) only [graph_Graph__Header, graph_Graph__Header_c, is_, Option.isSome_some, hg, s_mp, he, f, s_lookS, n1, Nat.reduceAdd, Nat.reduceMul, Nat.reduceLT, Int.reduceToNat, Int.reduceAdd, Int.reduceSub, Int.reduceMul, rsU, rsC]
    exact Ok_some.2 ⟨rfl, (ext_of (by simp only [put_next, bump_next, kill_next]; omega) (fun b hb => by simp -implicitDefEqProofs (disch := (first | omega | rfl | assumption | (simp only [rsD]; first | omega | assumption))) only [s_bn, s_kn, bump_blk, s_ext]))⟩
theorem gedges_ok (h : GAt J gb mb D N) (hs : Small36 D) {id : Int} : Ok (graph_Graph__Edges [.p (some (.n gb, 0)), .i .i64 id] J) fun r => ∃ a', r.1 = .sl a' (edgesD D id).length /\ NI J r.2 a' (edgesD D id) := by
  have hg := h.g
  have he := h.ents
  have is_ := gis_ok h (id := id)
  unfold edgesD
  cases hl : liveAt D id with
  | none =>
    rw [hl] at is_
    simp (maxSteps := 2000000) -implicitDefEqProofs (disch := (first | omega | rfl | assumption | (simp only [rsD]; first | omega | assumption))) only [graph_Graph__Edges, graph_Graph__Edges_c, is_, Option.isSome_none, Nat.reduceAdd, Nat.reduceMul, Nat.reduceLT, Int.reduceToNat, Int.reduceAdd, Int.reduceSub, Int.reduceMul, rsU, rsC]
    exact Ok_some.2 ⟨.nil, rfl, NI.nil J⟩
  | some x =>
    rw [hl] at is_
    obtain ⟨i, rfl, hx, hgn, hk⟩ := liveAt_some hl
    have f := h.hit hx hgn
    obtain ⟨n1, n2, n3⟩ := h.nd i x hx hgn
    unfold nodeC at n1
    obtain ⟨sp, sr⟩ := hs.p x (List.mem_of_getElem? hx)
    have li := (h.lo i hk).2
    simp (maxSteps := 2000000) -implicitDefEqProofs (disch := (first | omega | rfl | assumption | (simp only [rsD]; first | omega | assumption))) only [graph_Graph__Edges, graph_Graph__Edges_c, is_, Option.isSome_some, hg, s_mp, he, f, s_lookS, n1, Nat.reduceAdd, Nat.reduceMul, Nat.reduceLT, Int.reduceToNat, Int.reduceAdd, Int.reduceSub, Int.reduceMul, rsU, rsC]
    refine Ok.step (Ok.count x.P.length (fun k s => ∃ a' J', s = ([.sl a' ((x.P.take k).filter nz).length, .i .i64 (k : Int)], J') /\ NI J J' a' ((x.P.take k).filter nz)) (Q := fun r => ∃ a' J', r = ([.sl a' (x.P.filter nz).length], J') /\ NI J J' a' (x.P.filter nz)) ?_ ?_ ?_) ?_
    · rintro k s hk2 ⟨a', J', rfl, M⟩
      obtain ⟨v, hv⟩ : ∃ v, x.P[k]? = some v := ⟨_, List.getElem?_eq_getElem hk2⟩
      have gv : (x.P.map (AV.i .i64))[k]? = some (.i .i64 v) := by rw [List.getElem?_map, hv]; rfl
      have n2' := (M.e.blk (N i) (by omega)).trans n2
      have dk := decide_eq_true (show (k : Int) < (x.P.length : Int) by omega)
      have lf : ((x.P.take k).filter nz).length <= 5000 := by have := List.length_filter_le nz (x.P.take k); simp at this; omega
      by_cases c : v = 0
      · have q0 : (v != 0) = false := by simp [c]
        simp (maxSteps := 2000000) -implicitDefEqProofs (disch := (first | omega | rfl | assumption | (simp only [rsD]; first | omega | assumption))) only [graph_Graph__Edges_L1, dk, n2', gv, q0, Nat.reduceAdd, Nat.reduceMul, Nat.reduceLT, Int.reduceToNat, Int.reduceAdd, Int.reduceSub, Int.reduceMul, rsU, rsC]
        refine Ok_some.2 ⟨a', J', ?_, ?_⟩
        · rw [take_snoc hv]; simp [nz, c]
        · rw [take_snoc hv, List.filter_append]; simpa [nz, c] using M
      · have q0 : (v != 0) = true := by simp [c]
        simp (maxSteps := 2000000) -implicitDefEqProofs (disch := (first | omega | rfl | assumption | (simp only [rsD]; first | omega | assumption))) only [graph_Graph__Edges_L1, dk, n2', gv, q0, Nat.reduceAdd, Nat.reduceMul, Nat.reduceLT, Int.reduceToNat, Int.reduceAdd, Int.reduceSub, Int.reduceMul, rsU, rsC]
        have E : Ext J' ((J'.bump 2).put J'.next (.cells true 3 [.i .i64 v])) := (ext_of (by simp only [put_next, bump_next, kill_next]; omega) (fun b hb => by simp -implicitDefEqProofs (disch := (first | omega | rfl | assumption | (simp only [rsD]; first | omega | assumption))) only [s_bn, s_kn, bump_blk, s_ext]))
        refine Ok.step (M.push (nid := J'.next + 1) (v := v) E (by omega) (by show _ < J'.next + 2; omega)) fun q ⟨a2, q1, q2, q3⟩ => ?_
        obtain ⟨q, J2⟩ := q
        simp only at q1 q2
        subst q1
        simp (maxSteps := 2000000) -implicitDefEqProofs (disch := (first | omega | rfl | assumption | (simp only [rsD]; first | omega | assumption))) only [Nat.reduceAdd, Nat.reduceMul, Nat.reduceLT, Int.reduceToNat, Int.reduceAdd, Int.reduceSub, Int.reduceMul, rsU, rsC]
        have ef : (x.P.take (k + 1)).filter nz = (x.P.take k).filter nz ++ [v] := by rw [take_snoc hv, List.filter_append]; simp [nz, c]
        refine Ok_some.2 ⟨a2, J2, ?_, ?_⟩
        · rw [ef]; rfl
        · rw [ef]; exact q2
    · rintro s ⟨a', J', rfl, M⟩
      have dk := decide_eq_false (show ¬ (x.P.length : Int) < (x.P.length : Int) by omega)
      simp (maxSteps := 2000000) -implicitDefEqProofs (disch := (first | omega | rfl | assumption | (simp only [rsD]; first | omega | assumption))) only [graph_Graph__Edges_L1, dk, Nat.reduceAdd, Nat.reduceMul, Nat.reduceLT, Int.reduceToNat, Int.reduceAdd, Int.reduceSub, Int.reduceMul, rsU, rsC]
      rw [List.take_length] at M
      exact Ok_some.2 ⟨a', J', rfl, M⟩
    · exact ⟨.nil, J, rfl, NI.nil J⟩
    · rintro _ ⟨a', J', rfl, M⟩
      simp (maxSteps := 2000000) -implicitDefEqProofs (disch := (first | omega | rfl | assumption | (simp only [rsD]; first | omega | assumption))) only [Nat.reduceAdd, Nat.reduceMul, Nat.reduceLT, Int.reduceToNat, Int.reduceAdd, Int.reduceSub, Int.reduceMul, rsU, rsC]
      exact Ok_some.2 ⟨a', rfl, M⟩
theorem keysM_es (v : Nat -> AV) : ∀ l : List Nat, keysM (l.map (entV v)) = some (l.map fun i : Nat => (i : Int) + 1)
  | [] => rfl
  | i :: l => by simp only [List.map_cons, entV, keysM]; rw [keysM_es v l]; rfl
theorem nodupB_of : ∀ {l : List Int}, l.Nodup -> nodupB l = true
  | [], _ => rfl
  | x :: l, h => by
    obtain ⟨h1, h2⟩ := List.nodup_cons.1 h
    simp only [nodupB, Bool.and_eq_true, Bool.not_eq_true']
    exact ⟨by simpa using h1, nodupB_of h2⟩
theorem ids_sorted (D : List DN) : (idsD D).Pairwise (· < ·) := by
  unfold idsD
  rw [List.pairwise_map]
  have : (liveL D).Pairwise (· < ·) := List.pairwise_lt_range.filter _
  exact this.imp fun h => by omega
theorem liveL_le (D : List DN) : (liveL D).length <= D.length := Nat.le_trans (List.length_filter_le _ _) (by simp)
theorem gids_ok (h : GAt J gb mb D N) (hs : Small36 D) : Ok (graph_Graph__Ids [.p (some (.n gb, 0))] J) fun r => ∃ a', r.1 = .sl a' (idsD D).length /\ NI J r.2 a' (idsD D) := by
  have hg := h.g
  have he := h.ents
  have hn := hs.n
  have hk : keysM (esG D N) = some (idsD D) := keysM_es _ _
  have hl : (idsD D).length <= D.length := by
    unfold idsD
    rw [List.length_map]; exact liveL_le D
  have hnd : nodupB (idsD D) = true := nodupB_of ((ids_sorted D).imp fun h => by omega)
  have hr : (idsD D).all (fun k => decide (-9223372036854775808 <= k) && decide (k <= 9223372036854775807)) = true := by
    rw [List.all_eq_true]
    intro k hk
    unfold idsD at hk
    obtain ⟨i, hi, rfl⟩ := List.mem_map.1 hk
    obtain ⟨x, hx, _⟩ := mem_liveL.1 hi
    have := (List.getElem?_eq_some_iff.1 hx).1
    simp only [Bool.and_eq_true, decide_eq_true_eq]
    omega
  have hso : (idsD D).mergeSort (fun x y => decide (x <= y)) = idsD D := List.mergeSort_of_pairwise ((ids_sorted D).imp fun h => by simp; omega)
  have hb : Nat.ble (idsD D).length 1000000 = true := Nat.ble_eq_true_of_le (by omega)
  simp only [graph_Graph__Ids, AH.ld, hg, List.getElem?_cons_zero, Option.bind_some, he, hk, hb, hnd, hr, Bool.and_true, Bool.true_and, cond_true, hso]
  cases hz : Nat.beq (idsD D).length 0 with
  | true =>
    have e0 : idsD D = [] := List.eq_nil_of_length_eq_zero (Nat.eq_of_beq_eq_true hz)
    simp only [cond_true, e0]
    exact Ok_some.2 ⟨.nil, rfl, NI.nil J⟩
  | false =>
    simp only [cond_false]
    exact Ok_some.2 ⟨_, rfl, ⟨OwnS.new (by simp) s_bs (by show J.next < J.next + 1; omega), (ext_of (by simp only [put_next, bump_next, kill_next]; omega) (fun b hb => by simp -implicitDefEqProofs (disch := (first | omega | rfl | assumption | (simp only [rsD]; first | omega | assumption))) only [s_bn, s_kn, bump_blk, s_ext])), by simp [SA.bk]⟩⟩
end at_
end Go.Abs.Try
namespace Go.Abs.Try
open Go Go.Abs
variable {O : Type}
theorem gnew_ok (J : AH O) (N : Nat -> Nat) : Ok (graph_New [] J) fun r => r.1 = .p (some (.n (J.next + 1), 0)) /\ GAt r.2 (J.next + 1) J.next [] N /\ Ext J r.2 := by
  simp (maxSteps := 2000000) -implicitDefEqProofs (disch := (first | omega | rfl | assumption | (simp only [rsD]; first | omega | assumption))) only [graph_New, graph_New_c, Nat.reduceAdd, Nat.reduceMul, Nat.reduceLT, Int.reduceToNat, Int.reduceAdd, Int.reduceSub, Int.reduceMul, rsU, rsC]
  refine Ok_some.2 ⟨rfl, ⟨s_bs, ⟨[], 0, by ((try simp only [rsD] at *); simp -implicitDefEqProofs (disch := (first | omega | rfl | assumption | (simp only [rsD]; first | omega | assumption))) only [s_bs, s_bn, s_kn, bump_blk]); rfl, rfl⟩, fun i x hx => by simp at hx, by omega, by show _ < J.next + 2; omega, fun i hi => by simp at hi, fun i j _ hj => by simp at hj⟩, (ext_of (by simp only [put_next, bump_next, kill_next]; omega) (fun b hb => by simp -implicitDefEqProofs (disch := (first | omega | rfl | assumption | (simp only [rsD]; first | omega | assumption))) only [s_bn, s_kn, bump_blk, s_ext]))⟩
theorem liveL_snoc {D : List DN} {x : DN} (hx : x.gone = false) : liveL (D ++ [x]) = liveL D ++ [D.length] := by
  unfold liveL
  rw [List.length_append, List.length_singleton, List.range_succ, List.filter_append]
  congr 1
  · refine List.filter_congr fun i hi => ?_
    rw [List.getElem?_append_left (by simpa using hi)]
  · simp [hx]
theorem updB_none {J : AH O} {b : Nat} {es : List (AV × AV)} {st : List Nat} {c : Nat} {k v : AV} (h : J.blk b = some (.map es st c)) : updB J b none es k v = .map (es ++ [(k, v)]) (st ++ [c]) (c + 1) := by
  simp [updB, stampsOf, h, updM]
theorem gadd_ok {J : AH O} {gb mb : Nat} {D : List DN} {N : Nat -> Nat} (h : GAt J gb mb D N) (hn : D.length <= 1000) (hv : HV) : Ok (graph_Graph__Add [.p (some (.n gb, 0)), .agg hv.cs] J) (GTo gb mb D N J (.tup [.i .i64 (addD D hv).2.1, .i .i64 (addD D hv).2.2]) (addD D hv).1) := by
  obtain ⟨p, r, s, g, l⟩ := hv
  have hgl := h.gl
  have ho := h.o
  simp only [HV.cs]
  simp (maxSteps := 2000000) -implicitDefEqProofs (disch := (first | omega | rfl | assumption | (simp only [rsD]; first | omega | assumption))) only [graph_Graph__Add, graph_Graph__Add_c, Nat.reduceAdd, Nat.reduceMul, Nat.reduceLT, Int.reduceToNat, Int.reduceAdd, Int.reduceSub, Int.reduceMul, rsU, rsC]
  refine Ok.step (check_ok _ p r s g l) fun q ⟨g1, g2⟩ => ?_
  obtain ⟨q, J1⟩ := q
  simp only at g1 g2
  subst g1
  have nx := g2.next
  simp only [rsD] at nx
  have E1 : Ext J J1 := (ext_of (by (have x0 := (g2).next); (try simp only [rsD] at *); omega) (fun b hb => by (have x0 := (g2).next); (try simp only [rsD] at *); simp -implicitDefEqProofs (disch := (first | omega | rfl | assumption | (simp only [rsD]; first | omega | assumption))) only [s_bn, s_kn, bump_blk, s_ext (g2)]))
  have hb : J1.blk J.next = some (.cells true 53 [.i .i64 p, .i .i64 r, .i .i64 s, .i .i64 g, .b l]) := (g2.blk _ (by simp)).trans s_bs
  have h1 := h.ext E1
  have hg := h1.g
  obtain ⟨st, c, hm, hml⟩ := h1.m
  by_cases ch : chkOf p r s g = 0
  · have q0 : ((0 : Int) != 0) = false := rfl
    rw [ch]
    have ad : addD D ⟨p, r, s, g, l⟩ = (D ++ [⟨⟨p, r, s, g, l⟩, List.replicate p.toNat 0, List.replicate r.toNat 0, false⟩], (D.length : Int) + 1, 0) := by
      unfold addD
      simp only [ch, if_true]
    rw [ad]
    obtain ⟨hp', hr'⟩ : (0 <= p /\ p <= 4095) /\ (0 <= r /\ r <= 4095) := by
      unfold chkOf at ch
      split at ch
      · cases ch
      · omega
    have miss : findM .i64 ((D.length : Int) + 1) (esG D N) = some none := findM_miss _ _ fun i hi e => by
      obtain ⟨x, hx, _⟩ := mem_liveL.1 hi
      have := (List.getElem?_eq_some_iff.1 hx).1
      omega
    have en : ∀ J' : AH O, J'.blk mb = some (.map (esG D N) st c) -> entsOf J' (.mp (some mb)) = some (esG D N) := fun J' e => by simp only [entsOf, e]
    have en1 := en (((((J1.put gb (.cells true T_graph_Graph [.mp (some mb), .i .i64 ((D.length : Int) + 1)])).bump 3).put J1.next (.cells true 3 (List.replicate p.toNat [AV.i .i64 0]).flatten)).put (J1.next + 1) (.cells true 54 (List.replicate r.toNat [AV.i .u64 0]).flatten)).put (J1.next + 1 + 1) (.cells true 116 [.i .i64 p, .i .i64 r, .i .i64 s, .i .i64 g, .b l, .sl (.loc (.n J1.next) 0 1) p.toNat, .sl (.loc (.n (J1.next + 1)) 0 1) r.toNat])) (by ((try simp only [rsD] at *); simp -implicitDefEqProofs (disch := (first | omega | rfl | assumption | (simp only [rsD]; first | omega | assumption))) only [s_bs, s_bn, s_kn, bump_blk]); exact hm)
    simp (maxSteps := 2000000) -implicitDefEqProofs (disch := (first | omega | rfl | assumption | (simp only [rsD]; first | omega | assumption))) only [q0, hb, hg, s_mp, put_next, en1, miss, Nat.reduceAdd, Nat.reduceMul, Nat.reduceLT, Int.reduceToNat, Int.reduceAdd, Int.reduceSub, Int.reduceMul, rsU, rsC]
    rw [updB_none (st := st) (c := c) (by ((try simp only [rsD] at *); simp -implicitDefEqProofs (disch := (first | omega | rfl | assumption | (simp only [rsD]; first | omega | assumption))) only [s_bs, s_bn, s_kn, bump_blk]); exact hm)]
    refine Ok_some.2 ⟨rfl, fun i => if i = D.length then J1.next else N i, ?_, ⟨by simp only [rsD]; omega, fun b hb' f => ?_⟩⟩
    · have lv := liveL_snoc (D := D) (x := ⟨⟨p, r, s, g, l⟩, List.replicate p.toNat 0, List.replicate r.toNat 0, false⟩) rfl
      refine ⟨?_, ⟨st ++ [c], c + 1, ?_, ?_⟩, fun i x hx hgn => ?_, ho, by simp only [rsD]; omega, fun i hi => ?_, fun i j hij hj => ?_⟩
      · ((try simp only [rsD] at *); simp -implicitDefEqProofs (disch := (first | omega | rfl | assumption | (simp only [rsD]; first | omega | assumption))) only [s_bs, s_bn, s_kn, bump_blk]); simp
      · rw [s_bs]
        congr 2
        unfold esG
        rw [lv, List.map_append]
        congr 1
        · refine List.map_congr_left fun i hi => ?_
          obtain ⟨x, hx, _⟩ := mem_liveL.1 hi
          have := (List.getElem?_eq_some_iff.1 hx).1
          simp only [entV]; rw [if_neg (by omega)]
        · simp [entV]
      · rw [lv]; simp [hml]
      · by_cases ci : i = D.length
        · subst ci
          rw [List.getElem?_append_right (Nat.le_refl _)] at hx
          simp at hx
          subst hx
          simp only [if_true]
          refine ⟨?_, ?_, ?_⟩
          · simp only [nodeC, List.length_replicate]; ((try simp only [rsD] at *); simp -implicitDefEqProofs (disch := (first | omega | rfl | assumption | (simp only [rsD]; first | omega | assumption))) only [s_bs, s_bn, s_kn, bump_blk])
          · rw [<- fl1]; ((try simp only [rsD] at *); simp -implicitDefEqProofs (disch := (first | omega | rfl | assumption | (simp only [rsD]; first | omega | assumption))) only [s_bs, s_bn, s_kn, bump_blk])
          · rw [<- fl1]; ((try simp only [rsD] at *); simp -implicitDefEqProofs (disch := (first | omega | rfl | assumption | (simp only [rsD]; first | omega | assumption))) only [s_bs, s_bn, s_kn, bump_blk])
        · have hi : i < D.length := by have := (List.getElem?_eq_some_iff.1 hx).1; simp at this; omega
          rw [List.getElem?_append_left hi] at hx
          simp only [if_neg ci]
          obtain ⟨a, b, d⟩ := h1.nd i x hx hgn
          have li := h1.lo i hi
          refine ⟨?_, ?_, ?_⟩
          · rw [<- a]; ((try simp only [rsD] at *); simp -implicitDefEqProofs (disch := (first | omega | rfl | assumption | (simp only [rsD]; first | omega | assumption))) only [s_bs, s_bn, s_kn, bump_blk])
          · rw [<- b]; ((try simp only [rsD] at *); simp -implicitDefEqProofs (disch := (first | omega | rfl | assumption | (simp only [rsD]; first | omega | assumption))) only [s_bs, s_bn, s_kn, bump_blk])
          · rw [<- d]; ((try simp only [rsD] at *); simp -implicitDefEqProofs (disch := (first | omega | rfl | assumption | (simp only [rsD]; first | omega | assumption))) only [s_bs, s_bn, s_kn, bump_blk])
      · simp only [List.length_append, List.length_singleton] at hi
        simp only [rsD]
        by_cases ci : i = D.length
        · rw [if_pos ci]; omega
        · rw [if_neg ci]; have := h1.lo i (by omega); omega
      · simp only [List.length_append, List.length_singleton] at hj
        by_cases cj : j = D.length
        · rw [if_pos cj, if_neg (by omega)]; exact (h1.lo i (by omega)).2
        · rw [if_neg cj, if_neg (by omega)]; exact h1.up i j hij (by omega)
    · obtain ⟨f1, f2, _⟩ := f
      show _ = J.blk b
      rw [<- E1.blk b hb']
      ((try simp only [rsD] at *); simp -implicitDefEqProofs (disch := (first | omega | rfl | assumption | (simp only [rsD]; first | omega | assumption))) only [s_bs, s_bn, s_kn, bump_blk])
  · have q0 : (chkOf p r s g != 0) = true := by simp [ch]
    have ad : addD D ⟨p, r, s, g, l⟩ = (D, 0, chkOf p r s g) := by
      unfold addD
      rw [if_neg ch]
    simp (maxSteps := 2000000) -implicitDefEqProofs (disch := (first | omega | rfl | assumption | (simp only [rsD]; first | omega | assumption))) only [q0, Nat.reduceAdd, Nat.reduceMul, Nat.reduceLT, Int.reduceToNat, Int.reduceAdd, Int.reduceSub, Int.reduceMul, rsU, rsC]
    rw [ad]
    exact Ok_some.2 ⟨rfl, N, h1, ⟨E1.next, fun b hb' _ => E1.blk b hb'⟩⟩
end Go.Abs.Try
namespace Go.Abs.Try
open Go Go.Abs
variable {O : Type}
theorem fold_all {S : Type} {f : Nat -> List Nat -> S -> Option S} {n : Nat} (F : List Nat -> S) (hs : ∀ i dn, i < n -> i ∉ dn -> (∀ j ∈ dn, j < n) -> f i dn (F dn) = some (F (dn ++ [i]))) :
    ∀ (q dn : List Nat), (dn ++ q).Nodup -> (∀ j ∈ dn ++ q, j < n) -> foldO f q dn (F dn) = some (F (dn ++ q))
  | [], dn, _, _ => by simp [foldO]
  | i :: q, dn, h1, h2 => by
    simp only [foldO]
    have hd := List.nodup_append.1 h1
    rw [hs i dn (h2 i (by simp)) (fun hm => hd.2.2 i hm i (by simp) rfl) fun j hj => h2 j (by simp [hj])]
    simp only [Option.bind_some]
    have := fold_all F hs q (dn ++ [i]) (by simpa using h1) (by simpa using h2)
    rw [this]; simp
theorem Ok_any {S R : Type} {f : Nat -> List Nat -> S -> Option S} {n : Nat} {s : S} {K : S -> Option R} {Q : R -> Prop} (F : List Nat -> S) (h0 : s = F []) (hs : ∀ i dn, i < n -> i ∉ dn -> (∀ j ∈ dn, j < n) -> f i dn (F dn) = some (F (dn ++ [i])))
    (hp : ∀ p q : List Nat, p.Perm q -> F p = F q) (hK : Ok (K (F (List.range n))) Q) : Ok ((foldAny f n s).bind K) Q := by
  have : foldAny f n s = some (F (List.range n)) := foldAny_of fun p hpm => by
    have := fold_all F hs p [] (by simpa using hpm.nodup_iff.2 List.nodup_range) (fun j hj => by simpa using (hpm.mem_iff.1 (by simpa using hj)))
    rw [h0, this, List.nil_append, hp p _ hpm]
  rw [this]; exact hK
theorem Ok_eq {A : Type} {m : Option A} {v : A} (h : Ok m fun r => r = v) : m = some v := by
  obtain ⟨r, h1, rfl⟩ := h; exact h1
def zCells (id : Int) (x : DN) : Blk O := .cells true T_int ((x.P.map (zN id)).map (.i .i64))
def dropH (J : AH O) (D : List DN) (N : Nat -> Nat) (id : Int) (p : Nat -> Bool) : AH O :=
  ⟨fun b => match (List.range D.length).find? (fun i => p i && Nat.beq (N i) b) with | some i => (match D[i]? with | some x => some (zCells id x) | none => none) | none => J.blk b, J.next⟩
section drop
variable {J : AH O} {D : List DN} {N : Nat -> Nat} {id : Int} {p : Nat -> Bool}
theorem dropH_hit (hN : ∀ i j, i < D.length -> j < D.length -> N i = N j -> i = j) {i : Nat} {x : DN} (hx : D[i]? = some x) (hp : p i = true) : (dropH J D N id p).blk (N i) = some (zCells id x) := by
  have hi := (List.getElem?_eq_some_iff.1 hx).1
  simp only [dropH]
  cases hf : (List.range D.length).find? (fun k => p k && Nat.beq (N k) (N i)) with
  | none =>
    have := List.find?_eq_none.1 hf i (List.mem_range.2 hi)
    simp [hp] at this
  | some k =>
    have h1 := List.find?_some hf
    have h2 := List.mem_range.1 (List.mem_of_find?_eq_some hf)
    simp only [Bool.and_eq_true] at h1
    have := hN k i h2 hi (Nat.eq_of_beq_eq_true h1.2)
    subst this
    simp only [hx]
theorem dropH_miss {b : Nat} (h : ∀ i, i < D.length -> p i = true -> N i ≠ b) : (dropH J D N id p).blk b = J.blk b := by
  simp only [dropH]
  cases hf : (List.range D.length).find? (fun k => p k && Nat.beq (N k) b) with
  | none => rfl
  | some k =>
    have h1 := List.find?_some hf
    have h2 := List.mem_range.1 (List.mem_of_find?_eq_some hf)
    simp only [Bool.and_eq_true] at h1
    exact absurd (Nat.eq_of_beq_eq_true h1.2) (h k h2 h1.1)
theorem dropH_step (hN : ∀ i j, i < D.length -> j < D.length -> N i = N j -> i = j) {i : Nat} {x : DN} (hx : D[i]? = some x) : (dropH J D N id p).put (N i) (zCells id x) = dropH J D N id (fun k => p k || Nat.beq k i) := by
  have hi := (List.getElem?_eq_some_iff.1 hx).1
  have key : ∀ b, ((dropH J D N id p).put (N i) (zCells id x)).blk b = (dropH J D N id (fun k => p k || Nat.beq k i)).blk b := fun b => by
    by_cases c : b = N i
    · subst c
      rw [s_bs, dropH_hit hN hx (by simp)]
    · rw [s_bn c]
      simp only [dropH]
      have e : (fun k => p k && Nat.beq (N k) b) = fun k => (p k || Nat.beq k i) && Nat.beq (N k) b := by
        funext k
        by_cases ck : k = i
        · subst ck
          have : Nat.beq (N k) b = false := s_nf (fun e => c e.symm)
          simp [this]
        · simp [s_nf ck]
      rw [e]
  show (⟨_, _⟩ : AH O) = ⟨_, _⟩
  exact congrArg (fun f => (⟨f, J.next⟩ : AH O)) (funext key)
end drop
theorem dropH_none {J : AH O} {D : List DN} {N : Nat -> Nat} {id : Int} : dropH J D N id (fun _ => false) = J := by
  have key : ∀ b, (dropH J D N id (fun _ => false)).blk b = J.blk b := fun b => dropH_miss fun _ _ h => by cases h
  exact congrArg (fun f => (⟨f, J.next⟩ : AH O)) (funext key)
theorem AH.put_comm {J : AH O} {b c : Nat} {x y : Blk O} (h : b ≠ c) : (J.put b x).put c y = (J.put c y).put b x := by
  have key : ∀ q, ((J.put b x).put c y).blk q = ((J.put c y).put b x).blk q := fun q => by
    by_cases h1 : q = b
    · subst h1; rw [s_bn h, s_bs, s_bs]
    · by_cases h2 : q = c
      · subst h2; rw [s_bs, s_bn h1, s_bs]
      · rw [s_bn h2, s_bn h1, s_bn h1, s_bn h2]
  exact congrArg (fun f => (⟨f, J.next⟩ : AH O)) (funext key)
theorem gdrop_inner {J : AH O} {x : DN} {n : Nat} {id : Int} (h1 : J.blk (n + 2) = some (.cells true T_graph_node (nodeC x n))) (h2 : J.blk n = some (.cells true T_int (x.P.map (.i .i64)))) (hl : x.P.length <= 5000) :
    loopF (S := List AV × AH O) (T := List AV × AH O) (graph_Graph__Drop_L1 (.loc (.n n) 0 1, x.P.length) id (some (.n (n + 2), 0))) ([.i .i64 0], J) = some ([], J.put n (zCells id x)) := by
  refine Ok_eq (Ok.count x.P.length (fun j s => s = ([.i .i64 (j : Int)], J.put n (.cells true T_int ((preF (zN id) j x.P).map (.i .i64))))) ?_ ?_ ?_)
  · rintro j s hj rfl
    obtain ⟨v, hv⟩ : ∃ v, x.P[j]? = some v := ⟨_, List.getElem?_eq_getElem hj⟩
    have gv : ((preF (zN id) j x.P).map (AV.i .i64))[j]? = some (.i .i64 v) := by rw [List.getElem?_map, preF_ge (Nat.le_refl _), hv]; rfl
    have st := preF_step (f := zN id) hv
    have dj := decide_eq_true (show (j : Int) < (x.P.length : Int) by omega)
    unfold nodeC at h1
    by_cases c : v = id
    · have q0 : (v == id) = true := s_eqT c
      have b5 : Nat.ble (j + 1) ((preF (zN id) j x.P).map (AV.i .i64)).length = true := Nat.ble_eq_true_of_le (by simp [preF_len]; omega)
      have s5 : splice ((preF (zN id) j x.P).map (AV.i .i64)) j [.i .i64 0] = (preF (zN id) (j + 1) x.P).map (AV.i .i64) := by
        rw [splice_set (by simp [preF_len]; omega), <- st]
        simp [zN, c]
      simp (maxSteps := 2000000) -implicitDefEqProofs (disch := (first | omega | rfl | assumption | (simp only [rsD]; first | omega | assumption))) only [graph_Graph__Drop_L1, dj, h1, gv, q0, b5, s5, s_pp, Nat.reduceAdd, Nat.reduceMul, Nat.reduceLT, Int.reduceToNat, Int.reduceAdd, Int.reduceSub, Int.reduceMul, rsU, rsC]
      exact Ok_some.2 rfl
    · have q0 : (v == id) = false := s_eqF c
      simp (maxSteps := 2000000) -implicitDefEqProofs (disch := (first | omega | rfl | assumption | (simp only [rsD]; first | omega | assumption))) only [graph_Graph__Drop_L1, dj, h1, gv, q0, Nat.reduceAdd, Nat.reduceMul, Nat.reduceLT, Int.reduceToNat, Int.reduceAdd, Int.reduceSub, Int.reduceMul, rsU, rsC]
      refine Ok_some.2 ?_
      have e : (preF (zN id) j x.P).set j (zN id v) = preF (zN id) j x.P := by
        rw [show zN id v = v by simp [zN, c]]
        exact set_same (by rw [preF_ge (Nat.le_refl _)]; exact hv)
      show ([AV.i .i64 _], _) = ([AV.i .i64 _], _)
      rw [<- st, e]; rfl
  · rintro s rfl
    simp (maxSteps := 2000000) -implicitDefEqProofs (disch := (first | omega | rfl | assumption | (simp only [rsD]; first | omega | assumption))) only [graph_Graph__Drop_L1, Nat.reduceAdd, Nat.reduceMul, Nat.reduceLT, Int.reduceToNat, Int.reduceAdd, Int.reduceSub, Int.reduceMul, rsU, rsC]
    refine Ok_some.2 ?_
    simp only [zCells]
    rw [preF_all]
  · rw [preF_zero, AH.put_self h2]; rfl
theorem delB_some {J : AH O} {b : Nat} {es : List (AV × AV)} {st : List Nat} {c i : Nat} {v : AV} (h : J.blk b = some (.map es st c)) : delB J b (some (i, v)) es = .map (es.eraseIdx i) (st.eraseIdx i) c := by
  simp [delB, stampsOf, h, delM]
theorem liveL_gone {D : List DN} {k : Nat} {x : DN} (hx : D[k]? = some x) : liveL (D.set k { x with gone := true }) = (liveL D).erase k := by
  have hk := (List.getElem?_eq_some_iff.1 hx).1
  rw [(liveL_nodup D).erase_eq_filter]
  unfold liveL
  rw [List.length_set, List.filter_filter]
  refine List.filter_congr fun i hi => ?_
  rw [List.getElem?_set]
  by_cases c : k = i
  · subst c; rw [if_pos rfl, if_pos hk]; simp
  · rw [if_neg c]
    have : (i != k) = true := by simpa using fun e => c e.symm
    rw [this, Bool.and_comm]; simp
theorem esG_erase {D : List DN} {N : Nat -> Nat} {k : Nat} {x : DN} (hx : D[k]? = some x) (hg : x.gone = false) : (esG D N).eraseIdx ((liveL D).idxOf k) = esG (D.set k { x with gone := true }) N := by
  unfold esG
  rw [liveL_gone hx, <- map_erase]
  congr 1
  exact (List.erase_eq_eraseIdx_of_idxOf rfl).symm
theorem gdropN_ok {J : AH O} {gb mb : Nat} {D : List DN} {N : Nat -> Nat} (h : GAt J gb mb D N) (hs : Small36 D) {id : Int} : Ok (graph_Graph__Drop [.p (some (.n gb, 0)), .i .i64 id] J) fun r => r.1 = .i .i64 (dropD D id).2 /\ GAt r.2 gb mb (dropD D id).1 N /\ Gfr gb mb D N J r.2 := by
  have hg := h.g
  have he := h.ents
  have is_ := gis_ok h (id := id)
  have hgl := h.gl
  have ho := h.o
  unfold dropD
  cases hl : liveAt D id with
  | none =>
    rw [hl] at is_
    simp (maxSteps := 2000000) -implicitDefEqProofs (disch := (first | omega | rfl | assumption | (simp only [rsD]; first | omega | assumption))) only [graph_Graph__Drop, graph_Graph__Drop_c, is_, Option.isSome_none, Nat.reduceAdd, Nat.reduceMul, Nat.reduceLT, Int.reduceToNat, Int.reduceAdd, Int.reduceSub, Int.reduceMul, rsU, rsC]
    exact Ok_some.2 ⟨rfl, h, Gfr.refl _ _ _ _ _⟩
  | some x =>
    rw [hl] at is_
    obtain ⟨k, rfl, hx, hgn, hk⟩ := liveAt_some hl
    have f := h.hit hx hgn
    obtain ⟨st, c, hm, hml⟩ := h.m
    obtain ⟨D', hD⟩ : ∃ D', D' = D.set k { x with gone := true } := ⟨_, rfl⟩
    have lD : D'.length = D.length := by rw [hD, List.length_set]
    obtain ⟨st', hst⟩ : ∃ st', st' = st.eraseIdx ((liveL D).idxOf k) := ⟨_, rfl⟩
    have dB : delB J mb (some ((liveL D).idxOf k, .p (some (.n (N k + 2), 0)))) (esG D N) = .map (esG D' N) st' c := by
      rw [delB_some hm, esG_erase hx hgn, hD, hst]
    have hmem : k ∈ liveL D := mem_liveL.2 ⟨x, hx, hgn⟩
    have l' : st'.length = (liveL D').length := by
      rw [hst, hD, liveL_gone hx, List.length_eraseIdx, if_pos (by rw [hml]; exact List.idxOf_lt_length_iff.2 hmem), hml, List.length_erase_of_mem hmem]
    have rM : rangeM ((J.put mb (.map (esG D' N) st' c)).bump 1) (.mp (some mb)) = some (mb, st', c) := by simp [rangeM]
    have iO : itOf (((J.put mb (.map (esG D' N) st' c)).bump 1).put J.next (.iter mb [] st' c)) (.p (some (.n J.next, 0))) = some (J.next, mb, st', c) := by simp [itOf]
    have b16 : (((J.put mb (.map (esG D' N) st' c)).bump 1).put J.next (.iter mb [] st' c)).blk mb = some (.map (esG D' N) st' c) := by ((try simp only [rsD] at *); simp -implicitDefEqProofs (disch := (first | omega | rfl | assumption | (simp only [rsD]; first | omega | assumption))) only [s_bs, s_bn, s_kn, bump_blk])
    have iK : itOK (((J.put mb (.map (esG D' N) st' c)).bump 1).put J.next (.iter mb [] st' c)) J.next mb [] st' c = some () := by
      simp only [itOK, s_bs, b16]
      simp
    have hN : ∀ i j, i < D'.length -> j < D'.length -> N i = N j -> i = j := fun i j hi hj e => by
      rcases Nat.lt_trichotomy i j with q | q | q
      · have := h.up i j q (by omega); omega
      · exact q
      · have := h.up j i q (by omega); omega
    simp (maxSteps := 2000000) -implicitDefEqProofs (disch := (first | omega | rfl | assumption | (simp only [rsD]; first | omega | assumption))) only [graph_Graph__Drop, graph_Graph__Drop_c, is_, Option.isSome_some, hg, s_mp, he, f, dB, rM, iO, iK, put_next, bump_next, Nat.reduceAdd, Nat.reduceMul, Nat.reduceLT, Int.reduceToNat, Int.reduceAdd, Int.reduceSub, Int.reduceMul, rsU, rsC]
    generalize hJ : AH.put ((J.put mb (.map (esG D' N) st' c)).bump 1) J.next _ = J6 at *
    have n6 : J6.next = J.next + 1 := by rw [<- hJ]; rfl
    have i6 : J6.blk J.next = some (.iter mb [] st' c) := by rw [<- hJ]; exact s_bs
    have m6 : J6.blk mb = some (.map (esG D' N) st' c) := b16
    have o6 : ∀ b, b ≠ mb -> b ≠ J.next -> J6.blk b = J.blk b := fun b h1 h2 => by rw [<- hJ]; ((try simp only [rsD] at *); simp -implicitDefEqProofs (disch := (first | omega | rfl | assumption | (simp only [rsD]; first | omega | assumption))) only [s_bs, s_bn, s_kn, bump_blk])
    clear hJ b16
    have hlo : ∀ i, i < D'.length -> gb < N i /\ N i + 3 <= J.next := fun i hi => h.lo i (by omega)
    have hup : ∀ i j, i < D'.length -> j < D'.length -> i ≠ j -> N i + 3 <= N j ∨ N j + 3 <= N i := fun i j hi hj hne => by
      rcases Nat.lt_or_gt_of_ne hne with q | q
      · exact .inl (h.up i j q (by omega))
      · exact .inr (h.up j i q (by omega))
    have nd' : ∀ i y, D'[i]? = some y -> y.gone = false -> J6.blk (N i + 2) = some (.cells true T_graph_node (nodeC y (N i))) /\ J6.blk (N i) = some (.cells true T_int (y.P.map (.i .i64))) /\ J6.blk (N i + 1) = some (.cells true T_uint64 (y.R.map (.i .u64))) := fun i y hy hyg => by
      have hi := (List.getElem?_eq_some_iff.1 hy).1
      have li := hlo i hi
      have hy' : D[i]? = some y := by
        rw [hD, List.getElem?_set] at hy
        by_cases cc : k = i
        · subst cc; rw [if_pos rfl, if_pos hk] at hy; cases hy; cases hyg
        · rwa [if_neg cc] at hy
      obtain ⟨a1, a2, a3⟩ := h.nd i y hy' hyg
      exact ⟨(o6 _ (by omega) (by omega)).trans a1, (o6 _ (by omega) (by omega)).trans a2, (o6 _ (by omega) (by omega)).trans a3⟩
    refine Ok_any (fun dn => ([], dropH J6 D' N ((k : Int) + 1) (fun i => dn.any fun j => (liveL D')[j]? == some i))) ?_ ?_ ?_ ?_
    · congr 1
      exact dropH_none.symm
    · intro i dn hi hdn hlt
      obtain ⟨q, hq⟩ : ∃ q, (liveL D')[i]? = some q := ⟨_, List.getElem?_eq_getElem (by omega)⟩
      obtain ⟨y, hy, hyg⟩ := mem_liveL.1 (List.mem_of_getElem? hq)
      have hqi := (List.getElem?_eq_some_iff.1 hy).1
      obtain ⟨P, hP⟩ : ∃ P : Nat -> Bool, P = fun i => dn.any fun j => (liveL D')[j]? == some i := ⟨_, rfl⟩
      have hPq : P q = false := by
        rw [hP]
        simp only [List.any_eq_false]
        intro j hj e
        have e2 : (liveL D')[j]? = some q := by simpa using e
        have hjl := (List.getElem?_eq_some_iff.1 e2).1
        have hil := (List.getElem?_eq_some_iff.1 hq).1
        have := nodup_inj (liveL_nodup D') hjl hil (by rw [(List.getElem?_eq_some_iff.1 e2).2, (List.getElem?_eq_some_iff.1 hq).2])
        exact hdn (this ▸ hj)
      have miss : ∀ b, (∀ i, i < D'.length -> N i ≠ b) -> (dropH J6 D' N ((k : Int) + 1) P).blk b = J6.blk b := fun b hb => dropH_miss fun i hi _ => hb i hi
      have lq := hlo q hqi
      obtain ⟨a1, a2, a3⟩ := nd' q y hy hyg
      have bi : (dropH J6 D' N ((k : Int) + 1) P).blk J.next = some (.iter mb [] st' c) := (miss _ fun i hi => by have := hlo i hi; omega).trans i6
      have bm : (dropH J6 D' N ((k : Int) + 1) P).blk mb = some (.map (esG D' N) st' c) := (miss _ fun i hi => by have := hlo i hi; omega).trans m6
      have b2 : (dropH J6 D' N ((k : Int) + 1) P).blk (N q + 2) = some (.cells true T_graph_node (nodeC y (N q))) := (miss _ fun i hi e => by
        by_cases cq : i = q
        · subst cq; omega
        · have := hup i q hi hqi cq; omega).trans a1
      have b0 : (dropH J6 D' N ((k : Int) + 1) P).blk (N q) = some (.cells true T_int (y.P.map (.i .i64))) := (dropH_miss fun i hi hpi e => by
        have := hN i q hi hqi e
        subst this; rw [hPq] at hpi; cases hpi).trans a2
      have fin : (dropH J6 D' N ((k : Int) + 1) P).put (N q) (zCells ((k : Int) + 1) y) = dropH J6 D' N ((k : Int) + 1) (fun t => (dn ++ [i]).any fun j => (liveL D')[j]? == some t) := by
        rw [dropH_step hN hy]
        congr 1
        funext t
        rw [hP, List.any_append]
        simp only [List.any_cons, List.any_nil, Bool.or_false, hq]
        congr 1
        by_cases ct : t = q
        · subst ct; simp
        · rw [s_nf ct]; simp; exact fun e => ct e.symm
      dsimp only
      rw [<- hP, <- fin]
      generalize dropH J6 D' N ((k : Int) + 1) P = H at *
      have h2 : (H.put J.next (.iter mb (dn ++ [i]) st' c)).blk (N q + 2) = some (.cells true T_graph_node (nodeC y (N q))) := (s_bn (by omega)).trans b2
      have h0 : (H.put J.next (.iter mb (dn ++ [i]) st' c)).blk (N q) = some (.cells true T_int (y.P.map (.i .i64))) := (s_bn (by omega)).trans b0
      have lp := gdrop_inner (id := (k : Int) + 1) h2 h0 (by
        rw [hD] at hy
        rcases List.mem_or_eq_of_mem_set (List.mem_of_getElem? hy) with hm | hm
        · exact (hs.p y hm).1
        · subst hm; exact (hs.p x (List.mem_of_getElem? hx)).1)
      have eA : entA (H.put J.next (.iter mb (dn ++ [i]) st' c)) (.p (some (.n J.next, 0))) = some (.i .i64 ((q : Int) + 1), .p (some (.n (N q + 2), 0))) := by
        have hmb : (H.put J.next (.iter mb (dn ++ [i]) st' c)).blk mb = some (.map (esG D' N) st' c) := (s_bn (by omega)).trans bm
        simp only [entA, s_bs, hmb]
        simp [esG, hq, entV]
      have oK : itOK ((H.put J.next (.iter mb (dn ++ [i]) st' c)).put (N q) (zCells ((k : Int) + 1) y)) J.next mb (dn ++ [i]) st' c = some () := by
        have h3 : ((H.put J.next (.iter mb (dn ++ [i]) st' c)).put (N q) (zCells ((k : Int) + 1) y)).blk J.next = some (.iter mb (dn ++ [i]) st' c) := (s_bn (by omega)).trans s_bs
        have h4 : ((H.put J.next (.iter mb (dn ++ [i]) st' c)).put (N q) (zCells ((k : Int) + 1) y)).blk mb = some (.map (esG D' N) st' c) := (s_bn (by omega)).trans ((s_bn (by omega)).trans bm)
        simp only [itOK, h3, h4]
        simp
      unfold nodeC at h2
      simp (maxSteps := 2000000) -implicitDefEqProofs (disch := (first | omega | rfl | assumption | (simp only [rsD]; first | omega | assumption))) only [eA, h2, lp, oK, Nat.reduceAdd, Nat.reduceMul, Nat.reduceLT, Int.reduceToNat, Int.reduceAdd, Int.reduceSub, Int.reduceMul, rsU, rsC]
      rw [AH.put_comm (show J.next ≠ N q by omega), AH.put_put, AH.put_self ((s_bn (by omega)).trans bi)]
    · intro p q hpq
      congr 2
      funext i
      exact hpq.any_eq
    · rw [show ((k : Int) + 1 - 1).toNat = k by omega, <- hD]
      obtain ⟨P, hPd⟩ : ∃ P : Nat -> Bool, P = fun i => (List.range st'.length).any fun j => (liveL D')[j]? == some i := ⟨_, rfl⟩
      have hP : ∀ i, (∃ y, D'[i]? = some y /\ y.gone = false) -> P i = true := fun i hi => by
        rw [hPd]
        obtain ⟨j, hj⟩ := List.getElem?_of_mem (mem_liveL.2 hi)
        refine List.any_eq_true.2 ⟨j, List.mem_range.2 (by rw [l']; exact (List.getElem?_eq_some_iff.1 hj).1), by simp [hj]⟩
      rw [<- hPd]
      have miss : ∀ b, (∀ i, i < D'.length -> N i ≠ b) -> (dropH J6 D' N ((k : Int) + 1) P).blk b = J6.blk b := fun b hb => dropH_miss fun i hi _ => hb i hi
      have lz : liveL (D'.map (zeroD ((k : Int) + 1))) = liveL D' := by
        unfold liveL
        rw [List.length_map]
        refine List.filter_congr fun i hi => ?_
        rw [List.getElem?_map]
        cases D'[i]? <;> rfl
      refine Ok_some.2 ⟨rfl, ⟨?_, ⟨st', c, ?_, by rw [lz]; exact l'⟩, fun i z hz hzg => ?_, ho, ?_, fun i hi => ?_, fun i j hij hj => h.up i j hij (by rw [List.length_map] at hj; omega)⟩, ⟨?_, fun b hb fr => ?_⟩⟩
      · rw [s_kn (by omega), miss _ fun i hi => by have := hlo i hi; omega, o6 _ (by omega) (by omega), List.length_map, lD]; exact hg
      · rw [s_kn (by omega), miss _ fun i hi => by have := hlo i hi; omega, m6]
        unfold esG; rw [lz]
      · rw [List.getElem?_map] at hz
        obtain ⟨y, hy, rfl⟩ := Option.map_eq_some_iff.1 hz
        have hyg : y.gone = false := hzg
        have hi := (List.getElem?_eq_some_iff.1 hy).1
        have li := hlo i hi
        obtain ⟨a1, a2, a3⟩ := nd' i y hy hyg
        have other : ∀ b, (b = N i + 2 ∨ b = N i + 1) -> ∀ j, j < D'.length -> N j ≠ b := fun b hb j hj e => by
          by_cases cq : j = i
          · subst cq; omega
          · have := hup j i hj hi cq; omega
        refine ⟨?_, ?_, ?_⟩
        · rw [s_kn (by omega), miss _ (other _ (.inl rfl)), a1]; simp [nodeC, zeroD]
        · rw [s_kn (by omega), dropH_hit hN hy (hP i ⟨y, hy, hyg⟩)]; rfl
        · rw [s_kn (by omega), miss _ (other _ (.inr rfl)), a3]; rfl
      · show gb < J6.next; omega
      · show _ /\ _ <= J6.next
        have := hlo i (by rw [List.length_map] at hi; exact hi)
        omega
      · show J.next <= J6.next; omega
      · show _ = J.blk b
        obtain ⟨f1, f2, f3⟩ := fr
        rw [s_kn (by omega), miss _ fun i hi e => by have := f3 i (by omega); omega, o6 _ f2 (by omega)]
theorem gdrop_ok {J : AH O} {gb mb : Nat} {D : List DN} {N : Nat -> Nat} (h : GAt J gb mb D N) (hs : Small36 D) {id : Int} : Ok (graph_Graph__Drop [.p (some (.n gb, 0)), .i .i64 id] J) (GTo gb mb D N J (.i .i64 (dropD D id).2) (dropD D id).1) := (gdropN_ok h hs).mono fun _ ⟨a, b, c⟩ => ⟨a, N, b, c⟩
end Go.Abs.Try
