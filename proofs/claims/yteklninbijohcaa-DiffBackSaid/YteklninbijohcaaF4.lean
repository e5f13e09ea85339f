/-
  What is unlike in two forms. No conditions.
-/
import Derived.Test.YteklninbijohcaaF3
set_option linter.unusedVariables false
set_option linter.unusedSimpArgs false
set_option linter.constructorNameAsVariable false
set_option linter.unusedSimpArgs false
set_option linter.unusedVariables false
set_option linter.unusedSectionVars false
set_option maxHeartbeats 1000000
namespace Go.Abs.Try
open Go Go.Abs
variable {O : Type}

structure CV where
  kind : Int
  at_ : Int
  slot : Int
  to : Int
  word : Int
  whole : NV
  list : List Int
def NV.zero : NV := ⟨⟨0, 0, 0, 0, false⟩, [], []⟩
def CV.row (c : CV) : List TV := [.lf (.i .i64 c.kind), .lf (.i .i64 c.at_), .lf (.i .i64 c.slot), .lf (.i .i64 c.to), .lf (.i .u64 c.word)] ++ (c.whole.row ++ [ints .i64 c.list])
theorem CV.len (c : CV) : c.row.length = 13 := rfl
def CV.cells (c : CV) (a b d : SA) : List AV := [.i .i64 c.kind, .i .i64 c.at_, .i .i64 c.slot, .i .i64 c.to, .i .u64 c.word, .i .i64 c.whole.h.p, .i .i64 c.whole.h.r, .i .i64 c.whole.h.site, .i .i64 c.whole.h.age, .b c.whole.h.large, .sl a c.whole.P.length, .sl b c.whole.R.length, .sl d c.list.length]
theorem CV.un {c : CV} {us : List AV} (h : ImL c.row us) : ∃ a b d, us = c.cells a b d ∧ Ints .i64 a c.whole.P ∧ Ints .u64 b c.whole.R ∧ Ints .i64 d c.list := by
  unfold CV.row at h
  cases h with
  | cons h0 h => cases h with
  | cons h1 h => cases h with
  | cons h2 h => cases h with
  | cons h3 h => cases h with
  | @cons _ _ _ vs h4 h =>
    have hw := h.take 7
    have hl := h.drop 7
    have e1 : (c.whole.row ++ [ints .i64 c.list]).take 7 = c.whole.row := by simp [NV.row, HV.cs]
    have e2 : (c.whole.row ++ [ints .i64 c.list]).drop 7 = [ints .i64 c.list] := by simp [NV.row, HV.cs]
    simp only [List.append_eq, List.nil_append] at hw hl
    rw [e1] at hw
    rw [e2] at hl
    obtain ⟨a, b, q1, ia, ib⟩ := NV.un hw
    cases hq : vs.drop 7 with
    | nil => rw [hq] at hl; cases hl
    | cons z zs =>
      rw [hq] at hl
      cases hl with
      | cons hz hc =>
        cases hc
        obtain ⟨d, rfl, id⟩ := ints_un hz
        refine ⟨a, b, d, ?_, ia, ib, id⟩
        rw [h0.leaf, h1.leaf, h2.leaf, h3.leaf, h4.leaf, ← List.take_append_drop 7 vs, q1, hq]
        rfl
theorem CV.mk_ {c : CV} {a b d : SA} (ha : Ints .i64 a c.whole.P) (hb : Ints .u64 b c.whole.R) (hd : Ints .i64 d c.list) : ImL c.row (c.cells a b d) :=
  .cons (.lf rfl) (.cons (.lf rfl) (.cons (.lf rfl) (.cons (.lf rfl) (.cons (.lf rfl) ((NV.mk_ ha hb).app (.cons (ints_mk hd) .nil))))))
theorem ints_deep (k : IntKind) (l : List Int) (d : Nat) : (ints k l).deep (d + 1) := by
  unfold ints TV.deep
  intro t ht
  obtain ⟨x, _, hx⟩ := List.mem_flatMap.1 ht
  simp [int1] at hx
  subst hx
  unfold TV.deep; trivial
theorem lf_deep (v : AV) (d : Nat) : (TV.lf v).deep d := by unfold TV.deep; trivial
theorem NV.deep (x : NV) (d : Nat) : ∀ t ∈ x.row, t.deep (d + 1) := by
  intro t ht
  simp only [NV.row, HV.cs, List.map_cons, List.map_nil, List.cons_append, List.nil_append, List.mem_cons, List.not_mem_nil, or_false] at ht
  rcases ht with rfl | rfl | rfl | rfl | rfl | rfl | rfl
  all_goals first | exact lf_deep _ _ | exact ints_deep _ _ _
theorem CV.deep (c : CV) (d : Nat) : ∀ t ∈ c.row, t.deep (d + 1) := by
  intro t ht
  simp only [CV.row, List.mem_append, List.mem_cons, List.not_mem_nil, or_false] at ht
  rcases ht with (rfl | rfl | rfl | rfl | rfl) | ht | rfl
  all_goals first | exact lf_deep _ _ | exact NV.deep c.whole d t ht | exact ints_deep _ _ _
theorem rows_deep {α : Type} {row : α → List TV} {el k n d : Nat} {l : List α} (h : ∀ x, ∀ t ∈ row x, t.deep d) : (TV.sl el k n (l.flatMap row)).deep (d + 1) := by
  unfold TV.deep
  intro t ht
  obtain ⟨x, _, hx⟩ := List.mem_flatMap.1 ht
  exact h x t hx
abbrev Chgs (a : SA) (l : List CV) : Prop := Row CV.row 13 a l

/-! ### Two nodes -/
def ch2 (n : Int) (i : Nat) (to : Int) : CV := ⟨2, n, i, to, 0, NV.zero, []⟩
def ch3 (n : Int) (i : Nat) (w : Int) : CV := ⟨3, n, i, 0, w, NV.zero, []⟩
def unlike (mk : Nat → Int → CV) (xs ys : List Int) (n : Nat) : List CV := (List.range n).flatMap fun i => if xs[i]? = ys[i]? then [] else [mk i (ys.getD i 0)]
theorem unlike_succ (mk : Nat → Int → CV) (xs ys : List Int) (n : Nat) : unlike mk xs ys (n + 1) = unlike mk xs ys n ++ (if xs[n]? = ys[n]? then [] else [mk n (ys.getD n 0)]) := by
  simp [unlike, List.range_succ, List.flatMap_append]
theorem unlike_len (mk : Nat → Int → CV) (xs ys : List Int) : ∀ n : Nat, (unlike mk xs ys n).length ≤ n
  | 0 => by simp [unlike]
  | n + 1 => by
    rw [unlike_succ, List.length_append]
    have := unlike_len mk xs ys n
    split <;> simp <;> omega
def dnodes (n : Int) (x y : NV) : List CV :=
  if x.h ≠ y.h ∨ x.P.length ≠ y.P.length ∨ x.R.length ≠ y.R.length then [⟨1, n, 0, 0, 0, y, []⟩]
  else unlike (ch2 n) x.P y.P y.P.length ++ unlike (ch3 n) x.R y.R y.R.length
/-- between two rounds -/
structure NdI (σ0 : AH O) (base : Nat) (l : List CV) (k : Nat) (s : List AV × AH O) : Prop where
  it : ∃ e σ', s = ([.sl e l.length, .i .i64 (k : Int)], σ') ∧ BldO base σ' T_diff_Change 13 CV.row e l ∧ σ0.next ≤ σ'.next ∧ ∀ b, b < base → σ'.blk b = σ0.blk b
theorem nodes_l1 {σ σ1 : AH O} {n : Int} {x y : NV} {a c b' d' : SA} {e1 e2 : Nat} (hx : x.few) (hy : y.few) (ha : Ints .i64 a x.P) (hc : Ints .i64 c y.P) (hlen : x.P.length = y.P.length) {k0 k1 : SA}
    (b0 : σ1.blk σ.next = some (.cells true e1 (x.cells a k0))) (hn : σ.next + 2 ≤ σ1.next) :
    Ok (loopF (S := List AV × AH O) (T := List AV × AH O) (diff_nodes_L1 (c, y.P.length) σ n) ([.sl .nil 0, .i .i64 0], σ1)) fun r => ∃ e σ', r = ([.sl e (unlike (ch2 n) x.P y.P y.P.length).length], σ') ∧ BldO (σ.next + 2) σ' T_diff_Change 13 CV.row e (unlike (ch2 n) x.P y.P y.P.length) ∧ σ1.next ≤ σ'.next ∧ ∀ b, b < σ.next + 2 → σ'.blk b = σ1.blk b := by
  refine Ok.count y.P.length (fun k s => NdI σ1 (σ.next + 2) (unlike (ch2 n) x.P y.P k) k s) ?_ ?_ ⟨.nil, σ1, rfl, BldO.nil _ _ _ CV.len, Nat.le_refl _, fun _ _ => rfl⟩
  · rintro k s hk ⟨e, σ2, rfl, B, hn2, ho⟩
    obtain ⟨u, hu⟩ : ∃ u, x.P[k]? = some u := ⟨_, List.getElem?_eq_getElem (by omega)⟩
    obtain ⟨w, hw⟩ : ∃ w, y.P[k]? = some w := ⟨_, List.getElem?_eq_getElem hk⟩
    obtain ⟨p1, o1, rfl, l1⟩ := ha.at hu
    obtain ⟨p2, o2, rfl, l2⟩ := hc.at hw
    have c0 := (ho σ.next (by omega)).trans b0
    have hl := unlike_len (ch2 n) x.P y.P k
    have hfew := hy.p
    unfold NV.cells at c0
    by_cases q : u = w
    · have q1 := s_eqT q
      simp (config := { maxSteps := 2000000 }) -implicitDefEqProofs (disch := (first | omega | rfl | assumption | (simp only [rsD]; first | omega | assumption))) only [diff_nodes_L1, c0, l1, l2, q1, Nat.reduceAdd, Nat.reduceMul, Nat.reduceLT, Int.reduceToNat, Int.reduceAdd, Int.reduceSub, Int.reduceMul, rsU, rsC]
      refine Ok_some.2 ⟨e, σ2, ?_, ?_, hn2, ho⟩
      · rw [unlike_succ, hu, hw, q]; simp
      · rw [unlike_succ, hu, hw, q]; simpa using B
    · have q1 := s_eqF q
      simp (config := { maxSteps := 2000000 }) -implicitDefEqProofs (disch := (first | omega | rfl | assumption | (simp only [rsD]; first | omega | assumption))) only [diff_nodes_L1, c0, l1, l2, q1, Nat.reduceAdd, Nat.reduceMul, Nat.reduceLT, Int.reduceToNat, Int.reduceAdd, Int.reduceSub, Int.reduceMul, rsU, rsC]
      refine Ok.step (B.app1 (x := ch2 n k w) (σ2 := σ2) (by omega) (New.im (CV.mk_ (c := ch2 n k w) (a := .nil) (b := .nil) (d := .nil) (Row.nil (int1_len _)) (Row.nil (int1_len _)) (Row.nil (int1_len _))) (Ext.refl _)) (ext_of (by (try simp only [rsD] at *); omega) (fun b hb => by (try simp only [rsD] at *); simp -implicitDefEqProofs (disch := (first | omega | rfl | assumption | (simp only [rsD]; first | omega | assumption))) only [s_bn, s_kn, bump_blk])) (by omega) (by simp)) fun r ⟨e', g1, g2, g3, g4, g5⟩ => ?_
      obtain ⟨z, σ3⟩ := r
      simp only at g1 g2 g3 g4
      subst g1
      have hbk := B.bk
      simp (config := { maxSteps := 2000000 }) -implicitDefEqProofs (disch := (first | omega | rfl | assumption | (simp only [rsD]; first | omega | assumption))) only [Nat.reduceAdd, Nat.reduceMul, Nat.reduceLT, Int.reduceToNat, Int.reduceAdd, Int.reduceSub, Int.reduceMul, rsU, rsC]
      have eu : unlike (ch2 n) x.P y.P (k + 1) = unlike (ch2 n) x.P y.P k ++ [ch2 n k w] := by
        rw [unlike_succ, hu, hw, if_neg (by simpa using q)]; simp [hw]
      refine Ok_some.2 ⟨e', σ3, ?_, ?_, by rw [g3]; simp; omega, fun b hb => ?_⟩
      · rw [eu]; simp
      · rw [eu]; exact g2
      · rw [g4 b (by omega) (fun hm => by have := hbk b hm; omega), ← ho b hb]; ((try simp only [rsD] at *); simp -implicitDefEqProofs (disch := (first | omega | rfl | assumption | (simp only [rsD]; first | omega | assumption))) only [s_bs, s_bn, s_kn, bump_blk])
  · rintro s ⟨e, σ2, rfl, B, hn2, ho⟩
    simp (config := { maxSteps := 2000000 }) -implicitDefEqProofs (disch := (first | omega | rfl | assumption | (simp only [rsD]; first | omega | assumption))) only [diff_nodes_L1, Nat.reduceAdd, Nat.reduceMul, Nat.reduceLT, Int.reduceToNat, Int.reduceAdd, Int.reduceSub, Int.reduceMul, rsU, rsC]
    exact Ok_some.2 ⟨e, σ2, rfl, B, hn2, ho⟩
end Go.Abs.Try
