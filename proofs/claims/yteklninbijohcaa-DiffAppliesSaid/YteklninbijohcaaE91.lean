/-
  The differences, as the document does it: the inner loops. No conditions.
-/
import Derived.Test.YteklninbijohcaaE90
set_option linter.unusedVariables false
set_option linter.unusedSimpArgs false
set_option linter.constructorNameAsVariable false
set_option linter.unusedSimpArgs false
set_option linter.unusedVariables false
set_option linter.unusedSectionVars false
set_option maxHeartbeats 2000000
set_option maxRecDepth 100000
namespace Go.Abs.Try
open Go Go.Abs
variable {O : Type}

/-- within a node: the slice that is built, the two nodes' boxes at m -/
structure Inn (s0 : AH O) (base m : Nat) (X Y : List AV) (l : List CV) (e : SA) (σ' : AH O) : Prop where
  b : BldO base σ' T_haymowref47_Change 13 CV.row e l
  n : m + 2 ≤ σ'.next
  o : m ∉ SA.bk e ∧ m + 1 ∉ SA.bk e
  x : σ'.blk m = some (.cells true T_haymowref40_Node X)
  y : σ'.blk (m + 1) = some (.cells true T_haymowref40_Node Y)
  f : ∀ b, b < base → σ'.blk b = s0.blk b
theorem Inn.push {s0 σ' σ3 : AH O} {base m : Nat} {X Y : List AV} {l : List CV} {e : SA} (h : Inn s0 base m X Y l e σ') (hb : base ≤ m) (hn : σ'.next ≤ σ3.next) (hf : ∀ b, b < σ'.next → σ3.blk b = σ'.blk b) {c : CV} {new : List AV} (hi : ImL c.row new) {nid : Nat} (h1 : σ'.next ≤ nid) (h2 : nid < σ3.next) :
    Ok (σ3.appSl nid T_haymowref47_Change 13 e l.length 1 new) fun r => ∃ e', r.1 = .sl e' (l.length + 1) ∧ Inn s0 base m X Y (l ++ [c]) e' r.2 := by
  have hm := h.n
  refine (h.b.app' (m := [c]) (by omega) hn (fun b _ hlt => hf b hlt) ⟨[], OwL.im (by simpa using hi), by simp⟩ h1 h2).mono ?_
  rintro ⟨z, σ4⟩ ⟨e', g1, g2, g3, g4, g5⟩
  simp only at g1 g2 g3 g4
  refine ⟨e', g1, g2, by show m + 2 ≤ σ4.next; omega, ⟨fun hh => ?_, fun hh => ?_⟩, ?_, ?_, fun b hbb => ?_⟩
  · rcases g5 _ hh with e | e
    · omega
    · exact h.o.1 e
  · rcases g5 _ hh with e | e
    · omega
    · exact h.o.2 e
  · show σ4.blk m = _; rw [g4 m (by omega) h.o.1, hf m (by omega)]; exact h.x
  · show σ4.blk (m + 1) = _; rw [g4 (m + 1) (by omega) h.o.2, hf (m + 1) (by omega)]; exact h.y
  · show σ4.blk b = _; rw [g4 b (by omega) (fun hm' => by have := (h.b.bk b hm').1; omega), hf b (by omega)]; exact h.f b hbb
theorem rof_l2 {s0 σ1 : AH O} {r24 : List AV × AH O} {base k : Nat} {x y : NV} {a b c d : SA} (hx : x.few) (hy : y.few) (ha : Ints .i64 a x.P) (hc : Ints .i64 c y.P) (hlen : x.P.length = y.P.length) {pre : List CV} (hpre : pre.length ≤ 20000000001) (hk : k ≤ 100000) (hb : base ≤ r24.2.next) {e0 : SA}
    (I0 : Inn s0 base r24.2.next (x.cells a b) (y.cells c d) pre e0 σ1) :
    Ok (loopF (S := List AV × AH O) (T := List AV × AH O) (haymowref47_Of_L2 r24 (k : Int)) ([.sl e0 pre.length, .i .i64 0], σ1)) fun r => ∃ e σ', r = ([.sl e (pre ++ unlike (ch2 ((k : Int) + 1)) x.P y.P y.P.length).length], σ') ∧ Inn s0 base r24.2.next (x.cells a b) (y.cells c d) (pre ++ unlike (ch2 ((k : Int) + 1)) x.P y.P y.P.length) e σ' := by
  refine Ok.count y.P.length (fun j s => ∃ e σ', s = ([.sl e (pre ++ unlike (ch2 ((k : Int) + 1)) x.P y.P j).length, .i .i64 (j : Int)], σ') ∧ Inn s0 base r24.2.next (x.cells a b) (y.cells c d) (pre ++ unlike (ch2 ((k : Int) + 1)) x.P y.P j) e σ') ?_ ?_ ⟨e0, σ1, by simp [unlike], by simpa [unlike] using I0⟩
  · rintro j s hj ⟨e, σ2, rfl, I⟩
    obtain ⟨u, hu⟩ : ∃ u, x.P[j]? = some u := ⟨_, List.getElem?_eq_getElem (by omega)⟩
    obtain ⟨w, hw⟩ : ∃ w, y.P[j]? = some w := ⟨_, List.getElem?_eq_getElem hj⟩
    obtain ⟨p1, o1, rfl, l1⟩ := ha.at hu
    obtain ⟨p2, o2, rfl, l2⟩ := hc.at hw
    have x0 := I.x
    have y0 := I.y
    have hm := I.n
    have hl := unlike_len (ch2 ((k : Int) + 1)) x.P y.P j
    have hfew := hy.p
    have hle : (pre ++ unlike (ch2 ((k : Int) + 1)) x.P y.P j).length ≤ 20000200001 := by rw [List.length_append]; omega
    unfold NV.cells at x0 y0
    by_cases q : u = w
    · have q1 := s_eqT q
      simp (config := { maxSteps := 2000000 }) -implicitDefEqProofs (disch := (first | omega | rfl | assumption | (simp only [rsD]; first | omega | assumption))) only [haymowref47_Of_L2, x0, y0, l1, l2, q1, Nat.reduceAdd, Nat.reduceMul, Nat.reduceLT, Int.reduceToNat, Int.reduceAdd, Int.reduceSub, Int.reduceMul, rsU, rsC]
      refine Ok_some.2 ⟨e, σ2, ?_, ?_⟩
      · rw [unlike_succ, hu, hw, q]; simp
      · rw [unlike_succ, hu, hw, q]; simpa using I
    · have q1 := s_eqF q
      simp (config := { maxSteps := 2000000 }) -implicitDefEqProofs (disch := (first | omega | rfl | assumption | (simp only [rsD]; first | omega | assumption))) only [haymowref47_Of_L2, x0, y0, l1, l2, q1, Nat.reduceAdd, Nat.reduceMul, Nat.reduceLT, Int.reduceToNat, Int.reduceAdd, Int.reduceSub, Int.reduceMul, rsU, rsC]
      refine Ok.step (I.push hb (by simp <;> omega) (fun z hz => by ((try simp only [rsD] at *); simp -implicitDefEqProofs (disch := (first | omega | rfl | assumption | (simp only [rsD]; first | omega | assumption))) only [s_bs, s_bn, s_kn, bump_blk])) (c := ch2 ((k : Int) + 1) j w) (CV.mk_ (c := ch2 ((k : Int) + 1) j w) (a := .nil) (b := .nil) (d := .nil) (Row.nil (int1_len _)) (Row.nil (int1_len _)) (Row.nil (int1_len _))) (by omega) (by simp)) fun r ⟨e', g1, g2⟩ => ?_
      obtain ⟨z, σ3⟩ := r
      simp only at g1 g2
      subst g1
      simp (config := { maxSteps := 2000000 }) -implicitDefEqProofs (disch := (first | omega | rfl | assumption | (simp only [rsD]; first | omega | assumption))) only [Nat.reduceAdd, Nat.reduceMul, Nat.reduceLT, Int.reduceToNat, Int.reduceAdd, Int.reduceSub, Int.reduceMul, rsU, rsC]
      have eu : pre ++ unlike (ch2 ((k : Int) + 1)) x.P y.P (j + 1) = (pre ++ unlike (ch2 ((k : Int) + 1)) x.P y.P j) ++ [ch2 ((k : Int) + 1) j w] := by
        rw [unlike_succ, hu, hw, if_neg (by simpa using q)]; simp [hw]
      refine Ok_some.2 ⟨e', σ3, ?_, ?_⟩
      · rw [eu]; simp [Nat.add_assoc]
      · rw [eu]; exact g2
  · rintro s ⟨e, σ2, rfl, I⟩
    have x0 := I.x
    have y0 := I.y
    unfold NV.cells at x0 y0
    simp (config := { maxSteps := 2000000 }) -implicitDefEqProofs (disch := (first | omega | rfl | assumption | (simp only [rsD]; first | omega | assumption))) only [haymowref47_Of_L2, x0, y0, Nat.reduceAdd, Nat.reduceMul, Nat.reduceLT, Int.reduceToNat, Int.reduceAdd, Int.reduceSub, Int.reduceMul, rsU, rsC]
    exact Ok_some.2 ⟨e, σ2, rfl, I⟩
theorem rof_l3 {s0 σ1 : AH O} {r24 : List AV × AH O} {base k : Nat} {x y : NV} {a b c d : SA} (hx : x.few) (hy : y.few) (ha : Ints .u64 b x.R) (hc : Ints .u64 d y.R) (hlen : x.R.length = y.R.length) {pre : List CV} (hpre : pre.length ≤ 20000200001) (hk : k ≤ 100000) (hb : base ≤ r24.2.next) {e0 : SA}
    (I0 : Inn s0 base r24.2.next (x.cells a b) (y.cells c d) pre e0 σ1) :
    Ok (loopF (S := List AV × AH O) (T := List AV × AH O) (haymowref47_Of_L3 r24 (k : Int)) ([.sl e0 pre.length, .i .i64 0], σ1)) fun r => ∃ e σ', r = ([.sl e (pre ++ unlike (ch3 ((k : Int) + 1)) x.R y.R y.R.length).length], σ') ∧ Inn s0 base r24.2.next (x.cells a b) (y.cells c d) (pre ++ unlike (ch3 ((k : Int) + 1)) x.R y.R y.R.length) e σ' := by
  refine Ok.count y.R.length (fun j s => ∃ e σ', s = ([.sl e (pre ++ unlike (ch3 ((k : Int) + 1)) x.R y.R j).length, .i .i64 (j : Int)], σ') ∧ Inn s0 base r24.2.next (x.cells a b) (y.cells c d) (pre ++ unlike (ch3 ((k : Int) + 1)) x.R y.R j) e σ') ?_ ?_ ⟨e0, σ1, by simp [unlike], by simpa [unlike] using I0⟩
  · rintro j s hj ⟨e, σ2, rfl, I⟩
    obtain ⟨u, hu⟩ : ∃ u, x.R[j]? = some u := ⟨_, List.getElem?_eq_getElem (by omega)⟩
    obtain ⟨w, hw⟩ : ∃ w, y.R[j]? = some w := ⟨_, List.getElem?_eq_getElem hj⟩
    obtain ⟨p1, o1, rfl, l1⟩ := ha.at hu
    obtain ⟨p2, o2, rfl, l2⟩ := hc.at hw
    have x0 := I.x
    have y0 := I.y
    have hm := I.n
    have hl := unlike_len (ch3 ((k : Int) + 1)) x.R y.R j
    have hfew := hy.r
    have hle : (pre ++ unlike (ch3 ((k : Int) + 1)) x.R y.R j).length ≤ 20000400001 := by rw [List.length_append]; omega
    unfold NV.cells at x0 y0
    by_cases q : u = w
    · have q1 := s_eqT q
      simp (config := { maxSteps := 2000000 }) -implicitDefEqProofs (disch := (first | omega | rfl | assumption | (simp only [rsD]; first | omega | assumption))) only [haymowref47_Of_L3, x0, y0, l1, l2, q1, Nat.reduceAdd, Nat.reduceMul, Nat.reduceLT, Int.reduceToNat, Int.reduceAdd, Int.reduceSub, Int.reduceMul, rsU, rsC]
      refine Ok_some.2 ⟨e, σ2, ?_, ?_⟩
      · rw [unlike_succ, hu, hw, q]; simp
      · rw [unlike_succ, hu, hw, q]; simpa using I
    · have q1 := s_eqF q
      simp (config := { maxSteps := 2000000 }) -implicitDefEqProofs (disch := (first | omega | rfl | assumption | (simp only [rsD]; first | omega | assumption))) only [haymowref47_Of_L3, x0, y0, l1, l2, q1, Nat.reduceAdd, Nat.reduceMul, Nat.reduceLT, Int.reduceToNat, Int.reduceAdd, Int.reduceSub, Int.reduceMul, rsU, rsC]
      refine Ok.step (I.push hb (by simp <;> omega) (fun z hz => by ((try simp only [rsD] at *); simp -implicitDefEqProofs (disch := (first | omega | rfl | assumption | (simp only [rsD]; first | omega | assumption))) only [s_bs, s_bn, s_kn, bump_blk])) (c := ch3 ((k : Int) + 1) j w) (CV.mk_ (c := ch3 ((k : Int) + 1) j w) (a := .nil) (b := .nil) (d := .nil) (Row.nil (int1_len _)) (Row.nil (int1_len _)) (Row.nil (int1_len _))) (by omega) (by simp)) fun r ⟨e', g1, g2⟩ => ?_
      obtain ⟨z, σ3⟩ := r
      simp only at g1 g2
      subst g1
      simp (config := { maxSteps := 2000000 }) -implicitDefEqProofs (disch := (first | omega | rfl | assumption | (simp only [rsD]; first | omega | assumption))) only [Nat.reduceAdd, Nat.reduceMul, Nat.reduceLT, Int.reduceToNat, Int.reduceAdd, Int.reduceSub, Int.reduceMul, rsU, rsC]
      have eu : pre ++ unlike (ch3 ((k : Int) + 1)) x.R y.R (j + 1) = (pre ++ unlike (ch3 ((k : Int) + 1)) x.R y.R j) ++ [ch3 ((k : Int) + 1) j w] := by
        rw [unlike_succ, hu, hw, if_neg (by simpa using q)]; simp [hw]
      refine Ok_some.2 ⟨e', σ3, ?_, ?_⟩
      · rw [eu]; simp [Nat.add_assoc]
      · rw [eu]; exact g2
  · rintro s ⟨e, σ2, rfl, I⟩
    have x0 := I.x
    have y0 := I.y
    unfold NV.cells at x0 y0
    simp (config := { maxSteps := 2000000 }) -implicitDefEqProofs (disch := (first | omega | rfl | assumption | (simp only [rsD]; first | omega | assumption))) only [haymowref47_Of_L3, x0, y0, Nat.reduceAdd, Nat.reduceMul, Nat.reduceLT, Int.reduceToNat, Int.reduceAdd, Int.reduceSub, Int.reduceMul, rsU, rsC]
    exact Ok_some.2 ⟨e, σ2, rfl, I⟩
end Go.Abs.Try
set_option linter.unusedSimpArgs false
set_option linter.unusedVariables false
set_option linter.unusedSectionVars false
set_option maxHeartbeats 4000000
set_option maxRecDepth 100000
namespace Go.Abs.Try
open Go Go.Abs
variable {O : Type}

/-- between two nodes -/
structure RofI (σ : AH O) (A B : List AV) (l : List CV) (e : SA) (σ' : AH O) : Prop where
  b : BldO (σ.next + 2) σ' T_haymowref47_Change 13 CV.row e l
  n : σ.next + 2 ≤ σ'.next
  x : σ'.blk σ.next = some (.cells true T_haymowref40_Form A)
  y : σ'.blk (σ.next + 1) = some (.cells true T_haymowref40_Form B)
  f : ∀ b, b < σ.next → σ'.blk b = σ.blk b
theorem RofI.push {σ σ' σ3 : AH O} {A B : List AV} {l : List CV} {e : SA} (h : RofI σ A B l e σ') (hn : σ'.next ≤ σ3.next) (hf : ∀ b, b < σ'.next → σ3.blk b = σ'.blk b) {c : CV} {new : List AV} (hi : ImL c.row new) {nid : Nat} (h1 : σ'.next ≤ nid) (h2 : nid < σ3.next) :
    Ok (σ3.appSl nid T_haymowref47_Change 13 e l.length 1 new) fun r => ∃ e', r.1 = .sl e' (l.length + 1) ∧ RofI σ A B (l ++ [c]) e' r.2 := by
  have hm := h.n
  refine (h.b.push hm hn (fun b _ hlt => hf b hlt) hi h1 h2).mono ?_
  rintro ⟨z, σ4⟩ ⟨e', g1, g2, g3, g4⟩
  simp only at g1 g2 g3 g4
  refine ⟨e', g1, g2, by show σ.next + 2 ≤ σ4.next; omega, ?_, ?_, fun b hb => ?_⟩
  · show σ4.blk σ.next = _; rw [g4 _ (by omega), hf _ (by omega)]; exact h.x
  · show σ4.blk (σ.next + 1) = _; rw [g4 _ (by omega), hf _ (by omega)]; exact h.y
  · show σ4.blk b = _; rw [g4 _ (by omega), hf _ (by omega)]; exact h.f b hb
theorem rof_l1 {σ σ1 : AH O} {F G : FV} {a b c a2 b2 c2 : SA} (fF : F.few) (fG : G.few) (iF : Nodes a F.nodes) (iG : Nodes a2 G.nodes) {e0 : SA} {pre : List CV} (hpre : pre.length ≤ 1)
    (I0 : RofI σ [.sl a F.nodes.length, .sl b F.roots.length, .sl c F.weak.length] [.sl a2 G.nodes.length, .sl b2 G.roots.length, .sl c2 G.weak.length] pre e0 σ1) :
    Ok (loopF (S := List AV × AH O) (T := List AV × AH O) (haymowref47_Of_L1 σ) ([.sl e0 pre.length, .i .i64 0], σ1)) fun r => ∃ e σ', r = ([.sl e (pre ++ dmid F G G.nodes.length).length], σ') ∧ RofI σ [.sl a F.nodes.length, .sl b F.roots.length, .sl c F.weak.length] [.sl a2 G.nodes.length, .sl b2 G.roots.length, .sl c2 G.weak.length] (pre ++ dmid F G G.nodes.length) e σ' := by
  have fn := fG.n
  have fn2 := fF.n
  refine Ok.count G.nodes.length (fun k s => ∃ e σ', s = ([.sl e (pre ++ dmid F G k).length, .i .i64 (k : Int)], σ') ∧ RofI σ [.sl a F.nodes.length, .sl b F.roots.length, .sl c F.weak.length] [.sl a2 G.nodes.length, .sl b2 G.roots.length, .sl c2 G.weak.length] (pre ++ dmid F G k) e σ') ?_ ?_ ⟨e0, σ1, by simp [dmid], by simpa [dmid] using I0⟩
  · rintro k s hk ⟨e, σ2, rfl, I⟩
    obtain ⟨y, hy⟩ : ∃ y, G.nodes[k]? = some y := ⟨_, List.getElem?_eq_getElem hk⟩
    obtain ⟨p2, o2, u2, v2, rfl, ju, jv, l2⟩ := iG.node hy
    have fy := fG.x y (List.mem_of_getElem? hy)
    have c0 := I.x
    have c1 := I.y
    have hn := I.n
    have hml := dmid_len F G fG k
    have hlen : (pre ++ dmid F G k).length ≤ 20000000001 := by
      rw [List.length_append]
      have : k * 200000 ≤ 100000 * 200000 := Nat.mul_le_mul_right _ (by omega)
      omega
    have hD : dmid F G (k + 1) = dmid F G k ++ dnodes ((k : Int) + 1) (F.nodes.getD k NV.zero) y := by rw [dmid_succ, show G.nodes.getD k NV.zero = y by rw [List.getD_eq_getElem?_getD, hy]; rfl]
    obtain ⟨x, p, q, hDx, fx, iu, iv, hj⟩ : ∃ (x : NV) (p q : SA), F.nodes.getD k NV.zero = x ∧ x.few ∧ Ints .i64 p x.P ∧ Ints .u64 q x.R ∧ ((k < F.nodes.length ∧ ∃ b' o', a = .loc b' o' 7 ∧ ∀ (O : Type) (σ : AH O),
        σ.ld b' (o' + k * 7) = some (.i .i64 x.h.p) ∧ σ.ld b' (o' + k * 7 + 1) = some (.i .i64 x.h.r) ∧ σ.ld b' (o' + k * 7 + 2) = some (.i .i64 x.h.site) ∧ σ.ld b' (o' + k * 7 + 3) = some (.i .i64 x.h.age) ∧ σ.ld b' (o' + k * 7 + 4) = some (.b x.h.large) ∧ σ.ld b' (o' + k * 7 + 5) = some (.sl p x.P.length) ∧ σ.ld b' (o' + k * 7 + 6) = some (.sl q x.R.length)) ∨
        (¬ k < F.nodes.length ∧ x = NV.zero ∧ p = .nil ∧ q = .nil)) := by
      by_cases hkF : k < F.nodes.length
      · obtain ⟨x, hx⟩ : ∃ x, F.nodes[k]? = some x := ⟨_, List.getElem?_eq_getElem hkF⟩
        obtain ⟨b', o', p, q, e, hp, hq, l1⟩ := iF.node hx
        exact ⟨x, p, q, by rw [List.getD_eq_getElem?_getD, hx]; rfl, fF.x x (List.mem_of_getElem? hx), hp, hq, .inl ⟨hkF, b', o', e, l1⟩⟩
      · exact ⟨NV.zero, .nil, .nil, by rw [List.getD_eq_getElem?_getD, List.getElem?_eq_none (by omega)]; rfl, zero_few, nil_ints _, nil_ints _, .inr ⟨hkF, rfl, rfl, rfl⟩⟩
    rw [hDx] at hD
    simp (config := { maxSteps := 2000000 }) -implicitDefEqProofs (disch := (first | omega | rfl | assumption | (simp only [rsD]; first | omega | assumption))) only [haymowref47_Of_L1, c0, c1, l2, Nat.reduceAdd, Nat.reduceMul, Nat.reduceLT, Int.reduceToNat, Int.reduceAdd, Int.reduceSub, Int.reduceMul, rsU, rsC]
    refine Ok.step (Q := fun r => ∃ s', r = ([], s') ∧ s'.next = σ2.next + 2 ∧ s'.blk σ2.next = some (.cells true T_haymowref40_Node (x.cells p q)) ∧ s'.blk (σ2.next + 1) = some (.cells true T_haymowref40_Node (y.cells u2 v2)) ∧ ∀ z, z < σ2.next → s'.blk z = σ2.blk z) ?_ ?_
    · rcases hj with ⟨hkF, b', o', rfl, l1⟩ | ⟨hkF, rfl, rfl, rfl⟩
      · have d := decide_eq_true (show (k : Int) < (F.nodes.length : Int) by omega)
        simp (config := { maxSteps := 2000000 }) -implicitDefEqProofs (disch := (first | omega | rfl | assumption | (simp only [rsD]; first | omega | assumption))) only [d, l1, Nat.reduceAdd, Nat.reduceMul, Nat.reduceLT, Int.reduceToNat, Int.reduceAdd, Int.reduceSub, Int.reduceMul, rsU, rsC]
        exact Ok_some.2 ⟨_, rfl, rfl, (by ((try simp only [rsD] at *); simp -implicitDefEqProofs (disch := (first | omega | rfl | assumption | (simp only [rsD]; first | omega | assumption))) only [s_bs, s_bn, s_kn, bump_blk]) <;> rfl), (by ((try simp only [rsD] at *); simp -implicitDefEqProofs (disch := (first | omega | rfl | assumption | (simp only [rsD]; first | omega | assumption))) only [s_bs, s_bn, s_kn, bump_blk]) <;> rfl), fun z hz => by ((try simp only [rsD] at *); simp -implicitDefEqProofs (disch := (first | omega | rfl | assumption | (simp only [rsD]; first | omega | assumption))) only [s_bs, s_bn, s_kn, bump_blk])⟩
      · have d := decide_eq_false (show ¬ (k : Int) < (F.nodes.length : Int) by omega)
        simp (config := { maxSteps := 2000000 }) -implicitDefEqProofs (disch := (first | omega | rfl | assumption | (simp only [rsD]; first | omega | assumption))) only [d, Nat.reduceAdd, Nat.reduceMul, Nat.reduceLT, Int.reduceToNat, Int.reduceAdd, Int.reduceSub, Int.reduceMul, rsU, rsC]
        exact Ok_some.2 ⟨_, rfl, rfl, (by ((try simp only [rsD] at *); simp -implicitDefEqProofs (disch := (first | omega | rfl | assumption | (simp only [rsD]; first | omega | assumption))) only [s_bs, s_bn, s_kn, bump_blk]) <;> rfl), (by ((try simp only [rsD] at *); simp -implicitDefEqProofs (disch := (first | omega | rfl | assumption | (simp only [rsD]; first | omega | assumption))) only [s_bs, s_bn, s_kn, bump_blk]) <;> rfl), fun z hz => by ((try simp only [rsD] at *); simp -implicitDefEqProofs (disch := (first | omega | rfl | assumption | (simp only [rsD]; first | omega | assumption))) only [s_bs, s_bn, s_kn, bump_blk])⟩
    · rintro _ ⟨s', rfl, n', x0, y0, f'⟩
      have hq := hv_eq x.h y.h
      have bf : (false == false) = true := rfl
      have tf : (true == false) = false := rfl
      have lt := I.b.bk
      have x0' := x0
      have y0' := y0
      unfold NV.cells at x0' y0'
      have last : x.h ≠ y.h ∨ x.P.length ≠ y.P.length ∨ x.R.length ≠ y.R.length → pre ++ dmid F G (k + 1) = (pre ++ dmid F G k) ++ [⟨1, (k : Int) + 1, 0, 0, 0, y, []⟩] := fun h => by
        rw [hD]; unfold dnodes; rw [if_pos h, List.append_assoc]
      have imY : ImL (CV.row ⟨1, (k : Int) + 1, 0, 0, 0, y, []⟩) [.i .i64 1, .i .i64 ((k : Int) + 1), .i .i64 0, .i .i64 0, .i .u64 0, .i .i64 y.h.p, .i .i64 y.h.r, .i .i64 y.h.site, .i .i64 y.h.age, .b y.h.large, .sl u2 y.P.length, .sl v2 y.R.length, .sl .nil 0] :=
        CV.mk_ (c := ⟨1, (k : Int) + 1, 0, 0, 0, y, []⟩) ju jv (nil_ints _)
      have pu := I.push (σ3 := (s'.bump 2).put s'.next (.cells true T_haymowref47_Change [.i .i64 1, .i .i64 ((k : Int) + 1), .i .i64 0, .i .i64 0, .i .u64 0, .i .i64 y.h.p, .i .i64 y.h.r, .i .i64 y.h.site, .i .i64 y.h.age, .b y.h.large, .sl u2 y.P.length, .sl v2 y.R.length, .sl .nil 0])) (by simp only [rsD]; omega) (fun z hz => by rw [s_bn (by omega)]; exact f' z hz) imY (nid := s'.next + 1) (by omega) (by simp)
      by_cases e0 : x.h = y.h
      · rw [decide_eq_true e0] at hq
        by_cases e1 : x.P.length = y.P.length
        · have p1 := s_eqT (show (x.P.length : Int) = y.P.length by omega)
          by_cases e2 : x.R.length = y.R.length
          · have p2 := s_eqT (show (x.R.length : Int) = y.R.length by omega)
            simp (config := { maxSteps := 2000000 }) -implicitDefEqProofs (disch := (first | omega | rfl | assumption | (simp only [rsD]; first | omega | assumption))) only [x0', y0', hq, bf, tf, p1, p2, Nat.reduceAdd, Nat.reduceMul, Nat.reduceLT, Int.reduceToNat, Int.reduceAdd, Int.reduceSub, Int.reduceMul, rsU, rsC]
            have In0 : Inn σ2 (σ.next + 2) σ2.next (x.cells p q) (y.cells u2 v2) (pre ++ dmid F G k) e s' :=
              ⟨I.b.keep (by omega) (fun z _ hz => f' z hz), by omega, ⟨fun h => by have := (lt _ h).2; omega, fun h => by have := (lt _ h).2; omega⟩, x0, y0, fun z hz => f' z (by omega)⟩
            refine Ok.step (rof_l2 (r24 := ([.sl e (pre ++ dmid F G k).length, .i .i64 (k : Int)], σ2)) fx fy iu ju e1 hlen (by omega) hn In0) ?_
            rintro _ ⟨e', σ3, rfl, In1⟩
            have l1' := unlike_len (ch2 ((k : Int) + 1)) x.P y.P y.P.length
            have fp := fy.p
            simp (config := { maxSteps := 2000000 }) -implicitDefEqProofs (disch := (first | omega | rfl | assumption | (simp only [rsD]; first | omega | assumption))) only [Nat.reduceAdd, Nat.reduceMul, Nat.reduceLT, Int.reduceToNat, Int.reduceAdd, Int.reduceSub, Int.reduceMul, rsU, rsC]
            refine Ok.step (rof_l3 (r24 := ([.sl e (pre ++ dmid F G k).length, .i .i64 (k : Int)], σ2)) fx fy iv jv e2 (by rw [List.length_append]; omega) (by omega) hn In1) ?_
            rintro _ ⟨e'', σ4, rfl, In2⟩
            simp (config := { maxSteps := 2000000 }) -implicitDefEqProofs (disch := (first | omega | rfl | assumption | (simp only [rsD]; first | omega | assumption))) only [Nat.reduceAdd, Nat.reduceMul, Nat.reduceLT, Int.reduceToNat, Int.reduceAdd, Int.reduceSub, Int.reduceMul, rsU, rsC]
            have eq : pre ++ dmid F G (k + 1) = pre ++ dmid F G k ++ unlike (ch2 ((k : Int) + 1)) x.P y.P y.P.length ++ unlike (ch3 ((k : Int) + 1)) x.R y.R y.R.length := by
              rw [hD]; unfold dnodes
              rw [if_neg (fun h => by rcases h with h | h | h <;> contradiction)]
              simp only [List.append_assoc]
            rw [eq]
            have m4 := In2.n
            exact Ok_some.2 ⟨e'', σ4, rfl, In2.b, by simp only at m4; omega, (In2.f _ (by omega)).trans c0, (In2.f _ (by omega)).trans c1, fun z hz => (In2.f _ (by omega)).trans (I.f z hz)⟩
          · have p2 := s_eqF (show ¬ (x.R.length : Int) = y.R.length by omega)
            simp (config := { maxSteps := 2000000 }) -implicitDefEqProofs (disch := (first | omega | rfl | assumption | (simp only [rsD]; first | omega | assumption))) only [x0', y0', hq, bf, tf, p1, p2, Nat.reduceAdd, Nat.reduceMul, Nat.reduceLT, Int.reduceToNat, Int.reduceAdd, Int.reduceSub, Int.reduceMul, rsU, rsC]
            refine Ok.step pu fun r ⟨e', g1, g2⟩ => ?_
            obtain ⟨z, σ3⟩ := r
            simp only at g1 g2
            subst g1
            simp (config := { maxSteps := 2000000 }) -implicitDefEqProofs (disch := (first | omega | rfl | assumption | (simp only [rsD]; first | omega | assumption))) only [Nat.reduceAdd, Nat.reduceMul, Nat.reduceLT, Int.reduceToNat, Int.reduceAdd, Int.reduceSub, Int.reduceMul, rsU, rsC]
            rw [last (.inr (.inr e2))]
            exact Ok_some.2 ⟨e', σ3, by simp [Nat.add_assoc], g2⟩
        · have p1 := s_eqF (show ¬ (x.P.length : Int) = y.P.length by omega)
          simp (config := { maxSteps := 2000000 }) -implicitDefEqProofs (disch := (first | omega | rfl | assumption | (simp only [rsD]; first | omega | assumption))) only [x0', y0', hq, bf, tf, p1, Nat.reduceAdd, Nat.reduceMul, Nat.reduceLT, Int.reduceToNat, Int.reduceAdd, Int.reduceSub, Int.reduceMul, rsU, rsC]
          refine Ok.step pu fun r ⟨e', g1, g2⟩ => ?_
          obtain ⟨z, σ3⟩ := r
          simp only at g1 g2
          subst g1
          simp (config := { maxSteps := 2000000 }) -implicitDefEqProofs (disch := (first | omega | rfl | assumption | (simp only [rsD]; first | omega | assumption))) only [Nat.reduceAdd, Nat.reduceMul, Nat.reduceLT, Int.reduceToNat, Int.reduceAdd, Int.reduceSub, Int.reduceMul, rsU, rsC]
          rw [last (.inr (.inl e1))]
          exact Ok_some.2 ⟨e', σ3, by simp [Nat.add_assoc], g2⟩
      · rw [decide_eq_false e0] at hq
        simp (config := { maxSteps := 2000000 }) -implicitDefEqProofs (disch := (first | omega | rfl | assumption | (simp only [rsD]; first | omega | assumption))) only [x0', y0', hq, bf, tf, Nat.reduceAdd, Nat.reduceMul, Nat.reduceLT, Int.reduceToNat, Int.reduceAdd, Int.reduceSub, Int.reduceMul, rsU, rsC]
        refine Ok.step pu fun r ⟨e', g1, g2⟩ => ?_
        obtain ⟨z, σ3⟩ := r
        simp only at g1 g2
        subst g1
        simp (config := { maxSteps := 2000000 }) -implicitDefEqProofs (disch := (first | omega | rfl | assumption | (simp only [rsD]; first | omega | assumption))) only [Nat.reduceAdd, Nat.reduceMul, Nat.reduceLT, Int.reduceToNat, Int.reduceAdd, Int.reduceSub, Int.reduceMul, rsU, rsC]
        rw [last (.inl e0)]
        exact Ok_some.2 ⟨e', σ3, by simp [Nat.add_assoc], g2⟩
  · rintro s ⟨e, σ2, rfl, I⟩
    have c1 := I.y
    simp (config := { maxSteps := 2000000 }) -implicitDefEqProofs (disch := (first | omega | rfl | assumption | (simp only [rsD]; first | omega | assumption))) only [haymowref47_Of_L1, c1, Nat.reduceAdd, Nat.reduceMul, Nat.reduceLT, Int.reduceToNat, Int.reduceAdd, Int.reduceSub, Int.reduceMul, rsU, rsC]
    exact Ok_some.2 ⟨e, σ2, rfl, I⟩
end Go.Abs.Try
set_option linter.unusedSimpArgs false
set_option linter.unusedVariables false
set_option linter.unusedSectionVars false
set_option maxHeartbeats 4000000
set_option maxRecDepth 100000
namespace Go.Abs.Try
open Go Go.Abs
variable {O : Type}

theorem rof_ok {σ : AH O} {F G : FV} {v w : AV} (hF : F.At v) (hG : G.At w) (fF : F.few) (fG : G.few) : Ok (haymowref47_Of [v, w] σ) fun r => (∃ e, r.1 = .sl e (dOf F G).length ∧ Chgs e (dOf F G)) ∧ Ext σ r.2 := by
  have fin : Ok (haymowref47_Of [v, w] σ) fun r => Im (.sl T_haymowref47_Change 13 (dOf F G).length ((dOf F G).flatMap CV.row)) r.1 ∧ Ext σ r.2 := by
    refine frz_sl (rows_deep fun x => CV.deep x 5) ?_
    obtain ⟨a1, b1, c1, rfl, i1, i2, i3⟩ := hF.it
    obtain ⟨a2, b2, c2, rfl, j1, j2, j3⟩ := hG.it
    have fn := fF.n
    have gn := fG.n
    have fl1 : (dsize F G ++ dmid F G G.nodes.length).length ≤ 20000000001 := by
      rw [List.length_append]
      have h1 := dsize_len F G
      have h2 := dmid_len F G fG G.nodes.length
      have : G.nodes.length * 200000 ≤ 100000 * 200000 := Nat.mul_le_mul_right _ (by omega)
      omega
    have dl4 := dlist_len 4 F.roots G.roots
    have fl2 : (dsize F G ++ dmid F G G.nodes.length ++ dlist 4 F.roots G.roots).length ≤ 20000000002 := by rw [List.length_append]; omega
    simp (config := { maxSteps := 2000000 }) -implicitDefEqProofs (disch := (first | omega | rfl | assumption | (simp only [rsD]; first | omega | assumption))) only [haymowref47_Of_c, Nat.reduceAdd, Nat.reduceMul, Nat.reduceLT, Int.reduceToNat, Int.reduceAdd, Int.reduceSub, Int.reduceMul, rsU, rsC]
    refine Ok.step (Q := fun r => ∃ e σ', r = ([.sl e (dsize F G).length], σ') ∧ RofI σ [.sl a1 F.nodes.length, .sl b1 F.roots.length, .sl c1 F.weak.length] [.sl a2 G.nodes.length, .sl b2 G.roots.length, .sl c2 G.weak.length] (dsize F G) e σ') ?_ ?_
    · generalize hs : AH.put (AH.put (AH.bump σ 2) _ _) _ _ = s1
      have I : RofI σ [.sl a1 F.nodes.length, .sl b1 F.roots.length, .sl c1 F.weak.length] [.sl a2 G.nodes.length, .sl b2 G.roots.length, .sl c2 G.weak.length] [] .nil s1 :=
        ⟨BldO.nil _ _ _ CV.len, by rw [← hs]; simp, by rw [← hs]; ((try simp only [rsD] at *); simp -implicitDefEqProofs (disch := (first | omega | rfl | assumption | (simp only [rsD]; first | omega | assumption))) only [s_bs, s_bn, s_kn, bump_blk]), by rw [← hs]; ((try simp only [rsD] at *); simp -implicitDefEqProofs (disch := (first | omega | rfl | assumption | (simp only [rsD]; first | omega | assumption))) only [s_bs, s_bn, s_kn, bump_blk]), fun b hb => by rw [← hs]; ((try simp only [rsD] at *); simp -implicitDefEqProofs (disch := (first | omega | rfl | assumption | (simp only [rsD]; first | omega | assumption))) only [s_bs, s_bn, s_kn, bump_blk])⟩
      have n1 : s1.next = σ.next + 2 := by rw [← hs]; rfl
      clear hs
      by_cases c0 : F.nodes.length = G.nodes.length
      · have p0 := s_eqT (show (F.nodes.length : Int) = G.nodes.length by omega)
        have d0 : dsize F G = [] := by unfold dsize; rw [if_neg (fun h => h c0)]
        simp (config := { maxSteps := 2000000 }) -implicitDefEqProofs (disch := (first | omega | rfl | assumption | (simp only [rsD]; first | omega | assumption))) only [p0, Nat.reduceAdd, Nat.reduceMul, Nat.reduceLT, Int.reduceToNat, Int.reduceAdd, Int.reduceSub, Int.reduceMul, rsU, rsC]
        rw [d0]
        exact Ok_some.2 ⟨.nil, s1, rfl, I⟩
      · have p0 := s_eqF (show ¬ (F.nodes.length : Int) = G.nodes.length by omega)
        have d0 : dsize F G = [⟨0, 0, 0, G.nodes.length, 0, NV.zero, []⟩] := by unfold dsize; rw [if_pos c0]
        rw [d0]
        have x1 := I.y
        simp (config := { maxSteps := 2000000 }) -implicitDefEqProofs (disch := (first | omega | rfl | assumption | (simp only [rsD]; first | omega | assumption))) only [p0, x1, Nat.reduceAdd, Nat.reduceMul, Nat.reduceLT, Int.reduceToNat, Int.reduceAdd, Int.reduceSub, Int.reduceMul, rsU, rsC]
        refine Ok.step (I.push (σ3 := (s1.bump 2).put (σ.next + 2) (.cells true T_haymowref47_Change [.i .i64 0, .i .i64 0, .i .i64 0, .i .i64 G.nodes.length, .i .u64 0, .i .i64 0, .i .i64 0, .i .i64 0, .i .i64 0, .b false, .sl .nil 0, .sl .nil 0, .sl .nil 0])) (by simp) (fun z hz => s_bn (by omega)) (c := ⟨0, 0, 0, G.nodes.length, 0, NV.zero, []⟩) (CV.mk_ (c := ⟨0, 0, 0, G.nodes.length, 0, NV.zero, []⟩) (a := .nil) (b := .nil) (d := .nil) (nil_ints _) (nil_ints _) (nil_ints _)) (nid := σ.next + 2 + 1) (by omega) (by simp only [rsD]; omega)) fun r ⟨e', g1, g2⟩ => ?_
        obtain ⟨z, σ3⟩ := r
        simp only at g1 g2
        subst g1
        simp (config := { maxSteps := 2000000 }) -implicitDefEqProofs (disch := (first | omega | rfl | assumption | (simp only [rsD]; first | omega | assumption))) only [Nat.reduceAdd, Nat.reduceMul, Nat.reduceLT, Int.reduceToNat, Int.reduceAdd, Int.reduceSub, Int.reduceMul, rsU, rsC]
        exact Ok_some.2 ⟨e', σ3, rfl, g2⟩
    rintro _ ⟨e0, σ1, rfl, I⟩
    have x1 := I.y
    simp (config := { maxSteps := 2000000 }) -implicitDefEqProofs (disch := (first | omega | rfl | assumption | (simp only [rsD]; first | omega | assumption))) only [x1, Nat.reduceAdd, Nat.reduceMul, Nat.reduceLT, Int.reduceToNat, Int.reduceAdd, Int.reduceSub, Int.reduceMul, rsU, rsC]
    refine Ok.step (rof_l1 fF fG i1 j1 (dsize_len F G) I) ?_
    rintro _ ⟨e1, σ2, rfl, I⟩
    have y0 := I.x
    have y1 := I.y
    simp (config := { maxSteps := 2000000 }) -implicitDefEqProofs (disch := (first | omega | rfl | assumption | (simp only [rsD]; first | omega | assumption))) only [y0, y1, Nat.reduceAdd, Nat.reduceMul, Nat.reduceLT, Int.reduceToNat, Int.reduceAdd, Int.reduceSub, Int.reduceMul, rsU, rsC]
    refine Ok.step (same47 i2 j2 fF.r fG.r) fun r g => ?_
    subst g
    simp (config := { maxSteps := 2000000 }) -implicitDefEqProofs (disch := (first | omega | rfl | assumption | (simp only [rsD]; first | omega | assumption))) only [Nat.reduceAdd, Nat.reduceMul, Nat.reduceLT, Int.reduceToNat, Int.reduceAdd, Int.reduceSub, Int.reduceMul, rsU, rsC]
    refine Ok.step (Q := fun r => ∃ e σ', r = ([.sl e (dsize F G ++ dmid F G G.nodes.length ++ dlist 4 F.roots G.roots).length], σ') ∧ RofI σ [.sl a1 F.nodes.length, .sl b1 F.roots.length, .sl c1 F.weak.length] [.sl a2 G.nodes.length, .sl b2 G.roots.length, .sl c2 G.weak.length] (dsize F G ++ dmid F G G.nodes.length ++ dlist 4 F.roots G.roots) e σ') ?_ ?_
    · by_cases c0 : F.roots = G.roots
      · have p0 := decide_eq_true c0
        have d0 : dlist 4 F.roots G.roots = [] := by unfold dlist; rw [if_neg (fun h => h c0)]
        simp (config := { maxSteps := 2000000 }) -implicitDefEqProofs (disch := (first | omega | rfl | assumption | (simp only [rsD]; first | omega | assumption))) only [p0, Nat.reduceAdd, Nat.reduceMul, Nat.reduceLT, Int.reduceToNat, Int.reduceAdd, Int.reduceSub, Int.reduceMul, rsU, rsC]
        rw [d0, List.append_nil]
        exact Ok_some.2 ⟨e1, σ2, rfl, I⟩
      · have p0 := decide_eq_false c0
        have d0 : dlist 4 F.roots G.roots = [⟨4, 0, 0, 0, 0, NV.zero, G.roots⟩] := by unfold dlist; rw [if_pos c0]
        rw [d0]
        simp (config := { maxSteps := 2000000 }) -implicitDefEqProofs (disch := (first | omega | rfl | assumption | (simp only [rsD]; first | omega | assumption))) only [p0, y1, Nat.reduceAdd, Nat.reduceMul, Nat.reduceLT, Int.reduceToNat, Int.reduceAdd, Int.reduceSub, Int.reduceMul, rsU, rsC]
        refine Ok.step (I.push (σ3 := (σ2.bump 2).put σ2.next (.cells true T_haymowref47_Change [.i .i64 4, .i .i64 0, .i .i64 0, .i .i64 0, .i .u64 0, .i .i64 0, .i .i64 0, .i .i64 0, .i .i64 0, .b false, .sl .nil 0, .sl .nil 0, .sl b2 G.roots.length])) (by simp) (fun z hz => s_bn (by omega)) (c := ⟨4, 0, 0, 0, 0, NV.zero, G.roots⟩) (CV.mk_ (c := ⟨4, 0, 0, 0, 0, NV.zero, G.roots⟩) (a := .nil) (b := .nil) (d := b2) (nil_ints _) (nil_ints _) j2) (nid := σ2.next + 1) (by omega) (by simp)) fun r ⟨e', g1, g2⟩ => ?_
        obtain ⟨z, σ3⟩ := r
        simp only at g1 g2
        subst g1
        simp (config := { maxSteps := 2000000 }) -implicitDefEqProofs (disch := (first | omega | rfl | assumption | (simp only [rsD]; first | omega | assumption))) only [Nat.reduceAdd, Nat.reduceMul, Nat.reduceLT, Int.reduceToNat, Int.reduceAdd, Int.reduceSub, Int.reduceMul, rsU, rsC]
        exact Ok_some.2 ⟨e', σ3, by simp [Nat.add_assoc], g2⟩
    rintro _ ⟨e2, σ3, rfl, I⟩
    have z0 := I.x
    have z1 := I.y
    simp (config := { maxSteps := 2000000 }) -implicitDefEqProofs (disch := (first | omega | rfl | assumption | (simp only [rsD]; first | omega | assumption))) only [z0, z1, Nat.reduceAdd, Nat.reduceMul, Nat.reduceLT, Int.reduceToNat, Int.reduceAdd, Int.reduceSub, Int.reduceMul, rsU, rsC]
    refine Ok.step (same47 i3 j3 fF.w fG.w) fun r g => ?_
    subst g
    simp (config := { maxSteps := 2000000 }) -implicitDefEqProofs (disch := (first | omega | rfl | assumption | (simp only [rsD]; first | omega | assumption))) only [Nat.reduceAdd, Nat.reduceMul, Nat.reduceLT, Int.reduceToNat, Int.reduceAdd, Int.reduceSub, Int.reduceMul, rsU, rsC]
    refine Ok.step (Q := fun r => ∃ e σ', r = ([.sl e (dsize F G ++ dmid F G G.nodes.length ++ dlist 4 F.roots G.roots ++ dlist 5 F.weak G.weak).length], σ') ∧ RofI σ [.sl a1 F.nodes.length, .sl b1 F.roots.length, .sl c1 F.weak.length] [.sl a2 G.nodes.length, .sl b2 G.roots.length, .sl c2 G.weak.length] (dsize F G ++ dmid F G G.nodes.length ++ dlist 4 F.roots G.roots ++ dlist 5 F.weak G.weak) e σ') ?_ ?_
    · by_cases c0 : F.weak = G.weak
      · have p0 := decide_eq_true c0
        have d0 : dlist 5 F.weak G.weak = [] := by unfold dlist; rw [if_neg (fun h => h c0)]
        simp (config := { maxSteps := 2000000 }) -implicitDefEqProofs (disch := (first | omega | rfl | assumption | (simp only [rsD]; first | omega | assumption))) only [p0, Nat.reduceAdd, Nat.reduceMul, Nat.reduceLT, Int.reduceToNat, Int.reduceAdd, Int.reduceSub, Int.reduceMul, rsU, rsC]
        rw [d0, List.append_nil]
        exact Ok_some.2 ⟨e2, σ3, rfl, I⟩
      · have p0 := decide_eq_false c0
        have d0 : dlist 5 F.weak G.weak = [⟨5, 0, 0, 0, 0, NV.zero, G.weak⟩] := by unfold dlist; rw [if_pos c0]
        rw [d0]
        simp (config := { maxSteps := 2000000 }) -implicitDefEqProofs (disch := (first | omega | rfl | assumption | (simp only [rsD]; first | omega | assumption))) only [p0, z1, Nat.reduceAdd, Nat.reduceMul, Nat.reduceLT, Int.reduceToNat, Int.reduceAdd, Int.reduceSub, Int.reduceMul, rsU, rsC]
        refine Ok.step (I.push (σ3 := (σ3.bump 2).put σ3.next (.cells true T_haymowref47_Change [.i .i64 5, .i .i64 0, .i .i64 0, .i .i64 0, .i .u64 0, .i .i64 0, .i .i64 0, .i .i64 0, .i .i64 0, .b false, .sl .nil 0, .sl .nil 0, .sl c2 G.weak.length])) (by simp) (fun z hz => s_bn (by omega)) (c := ⟨5, 0, 0, 0, 0, NV.zero, G.weak⟩) (CV.mk_ (c := ⟨5, 0, 0, 0, 0, NV.zero, G.weak⟩) (a := .nil) (b := .nil) (d := c2) (nil_ints _) (nil_ints _) j3) (nid := σ3.next + 1) (by omega) (by simp)) fun r ⟨e', g1, g2⟩ => ?_
        obtain ⟨z, σ4⟩ := r
        simp only at g1 g2
        subst g1
        simp (config := { maxSteps := 2000000 }) -implicitDefEqProofs (disch := (first | omega | rfl | assumption | (simp only [rsD]; first | omega | assumption))) only [Nat.reduceAdd, Nat.reduceMul, Nat.reduceLT, Int.reduceToNat, Int.reduceAdd, Int.reduceSub, Int.reduceMul, rsU, rsC]
        exact Ok_some.2 ⟨e', σ4, by simp [Nat.add_assoc], g2⟩
    rintro _ ⟨e3, σ4, rfl, I⟩
    simp (config := { maxSteps := 2000000 }) -implicitDefEqProofs (disch := (first | omega | rfl | assumption | (simp only [rsD]; first | omega | assumption))) only [Nat.reduceAdd, Nat.reduceMul, Nat.reduceLT, Int.reduceToNat, Int.reduceAdd, Int.reduceSub, Int.reduceMul, rsU, rsC]
    have n4 := I.n
    exact Ok_some.2 (I.b.out ⟨by omega, I.f⟩ (by omega))
  refine fin.mono ?_
  rintro ⟨v, σ'⟩ ⟨h1, h2⟩
  exact ⟨Row.of CV.len h1 rfl, h2⟩
end Go.Abs.Try
