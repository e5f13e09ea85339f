/-
  A form that is worked on: in blocks of its own. No conditions.
-/
import Derived.Test.YteklninbijohcaaF6
set_option linter.unusedVariables false
set_option linter.unusedSimpArgs false
set_option linter.constructorNameAsVariable false
set_option linter.unusedSimpArgs false
set_option linter.unusedVariables false
set_option linter.unusedSectionVars false
set_option maxHeartbeats 1000000
namespace Go.Abs.Try
open Go Go.Abs
variable {O : Type}

theorem _root_.Go.Abs.BldM.adv0 {α : Type} {σ : AH O} {el k : Nat} {row : α → List TV} {a : SA} {l : List α} {L : List Nat} (h : BldM σ el k row a l L) : SA.adv a 0 k = some a := by
  obtain ⟨hk, vs, M, h1, _⟩ := h
  have h2 := h1.wh
  cases a with
  | nil => rfl
  | z => rfl
  | loc b o e => obtain ⟨_, _, _, q1, q2, _⟩ := h2; subst q1; subst q2; simp [SA.adv]
/-- its three slices -/
structure Parts (σ : AH O) (base : Nat) (F : FV) (a b c : SA) (A B C : List Nat) : Prop where
  n : BldM σ T_canon_Node 7 NV.row a F.nodes A
  r : Ow σ (ints .i64 F.roots) (.sl b F.roots.length) B
  w : Ow σ (ints .i64 F.weak) (.sl c F.weak.length) C
  lA : ∀ x ∈ A, base ≤ x ∧ x ∉ B ∧ x ∉ C
  lB : ∀ x ∈ B, base ≤ x ∧ x ∉ C
  lC : ∀ x ∈ C, base ≤ x
theorem Parts.of {σ σ' : AH O} {base : Nat} {F : FV} {a b c : SA} {A B C : List Nat} (h : Parts σ base F a b c A B C) (hn : σ.next ≤ σ'.next) (hb : ∀ x, base ≤ x → x < σ.next → σ'.blk x = σ.blk x) : Parts σ' base F a b c A B C :=
  ⟨h.n.of hn fun x hx => hb x (h.lA x hx).1 (h.n.lt x hx), h.r.of hn fun x hx => hb x (h.lB x hx).1 (h.r.lt x hx), h.w.of hn fun x hx => hb x (h.lC x hx) (h.w.lt x hx), h.lA, h.lB, h.lC⟩
theorem Parts.nodes {σ σ' : AH O} {base : Nat} {F : FV} {a a' b c : SA} {A A' B C : List Nat} {l : List NV} (h : Parts σ base F a b c A B C) (hb : base ≤ σ.next) (hn : σ.next ≤ σ'.next) (n : BldM σ' T_canon_Node 7 NV.row a' l A') (hA : ∀ x ∈ A', x ∈ A ∨ σ.next ≤ x) (hf : ∀ x, x ∈ B ∨ x ∈ C → σ'.blk x = σ.blk x) : Parts σ' base ⟨l, F.roots, F.weak⟩ a' b c A' B C :=
  ⟨n, h.r.of hn fun x hx => hf x (.inl hx), h.w.of hn fun x hx => hf x (.inr hx), fun x hx => by
    rcases hA x hx with h1 | h1
    · exact h.lA x h1
    · exact ⟨by omega, fun hm => by have := h.r.lt x hm; omega, fun hm => by have := h.w.lt x hm; omega⟩, h.lB, h.lC⟩
/-- it stands in this box -/
structure WF (σ : AH O) (fb base : Nat) (F : FV) : Prop where
  lt : fb < base
  le : base ≤ σ.next
  it : ∃ a b c A B C, σ.blk fb = some (.cells true T_canon_Form [.sl a F.nodes.length, .sl b F.roots.length, .sl c F.weak.length]) ∧ Parts σ base F a b c A B C
theorem WF.keep {σ σ' : AH O} {fb base : Nat} {F : FV} (h : WF σ fb base F) (hn : σ.next ≤ σ'.next) (h0 : σ'.blk fb = σ.blk fb) (hb : ∀ x, base ≤ x → x < σ.next → σ'.blk x = σ.blk x) : WF σ' fb base F := by
  obtain ⟨l1, l2, a, b, c, A, B, C, h1, h2⟩ := h
  exact ⟨l1, by omega, a, b, c, A, B, C, h0.trans h1, h2.of hn hb⟩
def sized (l : List NV) (n : Nat) : List NV := (l ++ List.replicate (n - l.length) NV.zero).take n
theorem sized_len (l : List NV) (n : Nat) : (sized l n).length = n := by simp [sized]; omega
/-- nothing but this form turned -/
structure Only (σ σ' : AH O) (fb base : Nat) : Prop where
  n : σ.next ≤ σ'.next
  o : ∀ x, x < base → x ≠ fb → σ'.blk x = σ.blk x
theorem Only.refl (σ : AH O) (fb base : Nat) : Only σ σ fb base := ⟨Nat.le_refl _, fun _ _ _ => rfl⟩
theorem Only.trans {σ1 σ2 σ3 : AH O} {fb base : Nat} (h : Only σ1 σ2 fb base) (k : Only σ2 σ3 fb base) : Only σ1 σ3 fb base := ⟨Nat.le_trans h.n k.n, fun x h1 h2 => (k.o x h1 h2).trans (h.o x h1 h2)⟩
theorem zero_row (σ : AH O) : OwL σ NV.zero.row [.i .i64 0, .i .i64 0, .i .i64 0, .i .i64 0, .b false, .sl .nil 0, .sl .nil 0] [] := OwL.im (NV.mk_ (x := NV.zero) (nil_ints _) (nil_ints _))
theorem size_ok {σ : AH O} {fb base : Nat} {F : FV} {n : Int} (W : WF σ fb base F) : Ok (diff_size [.p (some (.n fb, 0)), .i .i64 n] σ) fun r => if n < 0 ∨ n > 1048576 then r = (.i .i64 2, σ) else r.1 = .i .i64 0 ∧ WF r.2 fb base ⟨sized F.nodes n.toNat, F.roots, F.weak⟩ ∧ Only σ r.2 fb base := by
  by_cases c1 : n < 0
  · have d := decide_eq_true c1
    simp (config := { maxSteps := 2000000 }) -implicitDefEqProofs (disch := (first | omega | rfl | assumption | (simp only [rsD]; first | omega | assumption))) only [diff_size, diff_size_c, d, Nat.reduceAdd, Nat.reduceMul, Nat.reduceLT, Int.reduceToNat, Int.reduceAdd, Int.reduceSub, Int.reduceMul, rsU, rsC]
    exact Ok_some.2 (by rw [if_pos (.inl c1)])
  by_cases c2 : n > 1048576
  · have d := decide_eq_false c1
    have d2 := decide_eq_true c2
    simp (config := { maxSteps := 2000000 }) -implicitDefEqProofs (disch := (first | omega | rfl | assumption | (simp only [rsD]; first | omega | assumption))) only [diff_size, diff_size_c, d, d2, Nat.reduceAdd, Nat.reduceMul, Nat.reduceLT, Int.reduceToNat, Int.reduceAdd, Int.reduceSub, Int.reduceMul, rsU, rsC]
    exact Ok_some.2 (by rw [if_pos (.inr c2)])
  obtain ⟨m, rfl⟩ : ∃ m : Nat, n = m := ⟨n.toNat, by omega⟩
  have d := decide_eq_false c1
  have d2 := decide_eq_false c2
  rw [Int.toNat_natCast]
  simp (config := { maxSteps := 2000000 }) -implicitDefEqProofs (disch := (first | omega | rfl | assumption | (simp only [rsD]; first | omega | assumption))) only [diff_size, diff_size_c, d, d2, Nat.reduceAdd, Nat.reduceMul, Nat.reduceLT, Int.reduceToNat, Int.reduceAdd, Int.reduceSub, Int.reduceMul, rsU, rsC]
  have lp : Ok (loopF (S := List AV × AH O) (T := List AV × AH O) (diff_size_L1 (some (.n fb, 0)) (m : Int)) ([], σ)) fun r => ∃ l σ', r = ([], σ') ∧ m ≤ l.length ∧ l.take m = sized F.nodes m ∧ WF σ' fb base ⟨l, F.roots, F.weak⟩ ∧ Only σ σ' fb base := by
    refine Ok.count (m - F.nodes.length) (fun k s => ∃ σ', s = ([], σ') ∧ WF σ' fb base ⟨F.nodes ++ List.replicate k NV.zero, F.roots, F.weak⟩ ∧ Only σ σ' fb base) ?_ ?_ ⟨σ, rfl, by simpa using W, Only.refl _ _ _⟩
    · rintro k s hk ⟨σ1, rfl, ⟨l1, l2, a, b, c, A, B, C, h1, P⟩, Y⟩
      have len : (F.nodes ++ List.replicate k NV.zero).length = F.nodes.length + k := by simp
      simp only [len] at h1
      have q := decide_eq_true (show ((F.nodes.length + k : Nat) : Int) < (m : Int) by omega)
      simp (config := { maxSteps := 2000000 }) -implicitDefEqProofs (disch := (first | omega | rfl | assumption | (simp only [rsD]; first | omega | assumption))) only [diff_size_L1, h1, q, Nat.reduceAdd, Nat.reduceMul, Nat.reduceLT, Int.reduceToNat, Int.reduceAdd, Int.reduceSub, Int.reduceMul, rsU, rsC]
      have ltA := P.n.lt
      have PB := P.of (σ' := (σ1.bump 2).put σ1.next (.cells true T_canon_Node [.i .i64 0, .i .i64 0, .i .i64 0, .i .i64 0, .b false, .sl .nil 0, .sl .nil 0])) (by simp) fun x hx hl => by ((try simp only [rsD] at *); simp -implicitDefEqProofs (disch := (first | omega | rfl | assumption | (simp only [rsD]; first | omega | assumption))) only [s_bs, s_bn, s_kn, bump_blk])
      have ap := PB.n.app (x := NV.zero) (nid := σ1.next + 1) (zero_row _) (by simp) rfl ⟨fun hm => by have := ltA _ hm; omega, by simp⟩ (by simp)
      simp only [len] at ap
      refine Ok.step ap fun r ⟨a', A', g1, g2, g3, g4, g5⟩ => ?_
      obtain ⟨z, σ2⟩ := r
      simp only at g1 g2 g3 g4
      subst g1
      have hf2 : σ2.blk fb = some (.cells true T_canon_Form [.sl a (F.nodes.length + k), .sl b F.roots.length, .sl c F.weak.length]) := by
        rw [g4 fb (by omega) (fun hm => by have := (P.lA _ hm).1; omega)]; ((try simp only [rsD] at *); simp -implicitDefEqProofs (disch := (first | omega | rfl | assumption | (simp only [rsD]; first | omega | assumption))) only [s_bs, s_bn, s_kn, bump_blk]); exact h1
      simp (config := { maxSteps := 2000000 }) -implicitDefEqProofs (disch := (first | omega | rfl | assumption | (simp only [rsD]; first | omega | assumption))) only [hf2, Nat.reduceAdd, Nat.reduceMul, Nat.reduceLT, Int.reduceToNat, Int.reduceAdd, Int.reduceSub, Int.reduceMul, rsU, rsC]
      have no : ∀ x, base ≤ x → x ≠ fb := fun x h => by omega
      have n3 : σ2.next = σ1.next + 2 := by rw [g3]; rfl
      have A'ge : ∀ x ∈ A', x ∈ A ∨ σ1.next ≤ x := fun x hx => by
        rcases g5 x hx with h | h | h
        · exact .inr (by omega)
        · exact .inl h
        · simp at h
      have A'b : ∀ x ∈ A', base ≤ x := fun x hx => by
        rcases A'ge x hx with h | h
        · exact (P.lA x h).1
        · omega
      refine Ok_some.2 ⟨_, rfl, ⟨l1, by show base ≤ σ2.next; omega, a', b, c, A', B, C, ?_, ?_⟩, ⟨by have := Y.n; show σ.next ≤ σ2.next; omega, fun x h1 h2 => ?_⟩⟩
      · rw [s_bs]; simp [Nat.add_assoc]
      · rw [List.replicate_succ', ← List.append_assoc]
        refine P.nodes l2 (by show σ1.next ≤ σ2.next; omega) (g2.of (Nat.le_refl _) fun x hx => s_bn (no x (A'b x hx))) A'ge fun x hx => ?_
        have hx1 : base ≤ x ∧ x < σ1.next ∧ x ∉ A := by
          rcases hx with hx | hx
          · exact ⟨(P.lB x hx).1, P.r.lt x hx, fun hm => (P.lA x hm).2.1 hx⟩
          · exact ⟨P.lC x hx, P.w.lt x hx, fun hm => (P.lA x hm).2.2 hx⟩
        rw [s_bn (no x hx1.1), g4 x (by omega) hx1.2.2]; ((try simp only [rsD] at *); simp -implicitDefEqProofs (disch := (first | omega | rfl | assumption | (simp only [rsD]; first | omega | assumption))) only [s_bs, s_bn, s_kn, bump_blk])
      · rw [s_bn h2, g4 x (by omega) (fun hm => by have := (P.lA x hm).1; omega)]
        rw [← Y.o x h1 h2]; ((try simp only [rsD] at *); simp -implicitDefEqProofs (disch := (first | omega | rfl | assumption | (simp only [rsD]; first | omega | assumption))) only [s_bs, s_bn, s_kn, bump_blk])
    · rintro s ⟨σ1, rfl, W1, Y⟩
      obtain ⟨l1, l2, a, b, c, A, B, C, h1, P⟩ := W1
      have len : (F.nodes ++ List.replicate (m - F.nodes.length) NV.zero).length = F.nodes.length + (m - F.nodes.length) := by simp
      have h1' := h1
      simp only [len] at h1'
      have q := decide_eq_false (show ¬ (((F.nodes.length + (m - F.nodes.length) : Nat) : Int) < (m : Int)) by omega)
      simp (config := { maxSteps := 2000000 }) -implicitDefEqProofs (disch := (first | omega | rfl | assumption | (simp only [rsD]; first | omega | assumption))) only [diff_size_L1, h1', q, Nat.reduceAdd, Nat.reduceMul, Nat.reduceLT, Int.reduceToNat, Int.reduceAdd, Int.reduceSub, Int.reduceMul, rsU, rsC]
      exact Ok_some.2 ⟨_, σ1, rfl, by rw [len]; omega, rfl, ⟨l1, l2, a, b, c, A, B, C, h1, P⟩, Y⟩
  refine Ok.step lp ?_
  rintro _ ⟨l, σ1, rfl, hm, hl, ⟨l1, l2, a, b, c, A, B, C, h1, P⟩, Y⟩
  simp only at h1
  have ad := P.n.adv0
  have q := decide_eq_true (show (m : Int) ≤ (l.length : Int) by omega)
  simp (config := { maxSteps := 2000000 }) -implicitDefEqProofs (disch := (first | omega | rfl | assumption | (simp only [rsD]; first | omega | assumption))) only [h1, q, ad, Nat.reduceAdd, Nat.reduceMul, Nat.reduceLT, Int.reduceToNat, Int.reduceAdd, Int.reduceSub, Int.reduceMul, rsU, rsC]
  obtain ⟨A', g1, g2⟩ := P.n.less hm
  have no : ∀ x, base ≤ x → x ≠ fb := fun x h => by omega
  refine Ok_some.2 ?_
  rw [if_neg (by omega)]
  refine ⟨rfl, ⟨l1, l2, a, b, c, A', B, C, ?_, ?_⟩, ⟨Y.n, fun x h1 h2 => (s_bn h2).trans (Y.o x h1 h2)⟩⟩
  · rw [s_bs]; simp [sized_len]
  · rw [← hl]
    exact P.nodes l2 (Nat.le_refl _) (g1.of (Nat.le_refl _) fun x hx => s_bn (no x (P.lA x (g2 x hx)).1)) (fun x hx => .inl (g2 x hx)) fun x hx => s_bn (no x (by rcases hx with hx | hx; exact (P.lB x hx).1; exact P.lC x hx))
end Go.Abs.Try
