/-
  One change is applied. No conditions.
-/
import Derived.Test.YteklninbijohcaaF8
set_option linter.unusedVariables false
set_option linter.unusedSimpArgs false
set_option linter.constructorNameAsVariable false
set_option linter.unusedSimpArgs false
set_option linter.unusedVariables false
set_option linter.unusedSectionVars false
set_option maxHeartbeats 1000000
namespace Go.Abs.Try
open Go Go.Abs
variable {O : Type}

def one (F : FV) (c : CV) : Int × FV :=
  if c.kind = 0 then (if c.to < 0 ∨ c.to > 1048576 then (2, F) else (0, ⟨sized F.nodes c.to.toNat, F.roots, F.weak⟩))
  else if c.kind = 4 then (0, ⟨F.nodes, c.list, F.weak⟩)
  else if c.kind = 5 then (0, ⟨F.nodes, F.roots, c.list⟩)
  else if c.kind < 1 ∨ c.kind > 3 then (1, F)
  else if c.at_ < 1 ∨ c.at_ > F.nodes.length then (2, F)
  else match F.nodes[(c.at_ - 1).toNat]? with
    | none => (2, F)
    | some x =>
      if c.kind = 1 then (0, ⟨F.nodes.set (c.at_ - 1).toNat c.whole, F.roots, F.weak⟩)
      else if c.slot < 0 ∨ (c.kind = 2 ∧ c.slot ≥ x.P.length) ∨ (c.kind = 3 ∧ c.slot ≥ x.R.length) then (2, F)
      else if c.kind = 2 then (0, ⟨F.nodes.set (c.at_ - 1).toNat ⟨x.h, x.P.set c.slot.toNat c.to, x.R⟩, F.roots, F.weak⟩)
      else (0, ⟨F.nodes.set (c.at_ - 1).toNat ⟨x.h, x.P, x.R.set c.slot.toNat c.word⟩, F.roots, F.weak⟩)
structure CV.few (c : CV) : Prop where
  w : c.whole.few
  l : c.list.length ≤ 100000
theorem ok_stepB {A S R : Type} {m : Option A} {f : A → Option (S ⊕ R)} {g : S → Option R} {Q : A → Prop} {Q' : R → Prop} (h : Ok m Q) (hq : ∀ r, Q r → Ok (bindS (f r) g) Q') : Ok (bindS (m.bind f) g) Q' := by
  obtain ⟨r, h1, h2⟩ := h
  rw [h1]; exact hq r h2
theorem one_deep {σ : AH O} {fb base : Nat} {F : FV} {c : CV} {p q r : SA} (W : WF σ fb base F) (hF : F.nodes.length ≤ 10000000) (hp : Ints .i64 p c.whole.P) (hq : Ints .u64 q c.whole.R) (hr : Ints .i64 r c.list) (fc : c.few) (k0 : c.kind ≠ 0) (k4 : c.kind ≠ 4) (k5 : c.kind ≠ 5) : Ok (diff_one [.p (some (.n fb, 0)), .agg (c.cells p q r)] σ) fun s => s.1 = .i .i64 (one F c).1 ∧ WF s.2 fb base (one F c).2 ∧ Only σ s.2 fb base := by
  obtain ⟨kind, at_, slot, to, word, whole, list⟩ := c
  have W0 : WF ((σ.bump 1).put σ.next (.cells true T_diff_Change (CV.cells ⟨kind, at_, slot, to, word, whole, list⟩ p q r))) fb base F := W.keep (by simp) (by have := W.lt; have := W.le; ((try simp only [rsD] at *); simp -implicitDefEqProofs (disch := (first | omega | rfl | assumption | (simp only [rsD]; first | omega | assumption))) only [s_bs, s_bn, s_kn, bump_blk])) fun x h1 h2 => by ((try simp only [rsD] at *); simp -implicitDefEqProofs (disch := (first | omega | rfl | assumption | (simp only [rsD]; first | omega | assumption))) only [s_bs, s_bn, s_kn, bump_blk])
  have O0 : Only σ ((σ.bump 1).put σ.next (.cells true T_diff_Change (CV.cells ⟨kind, at_, slot, to, word, whole, list⟩ p q r))) fb base := ⟨by simp, fun x h1 h2 => by have := W.le; ((try simp only [rsD] at *); simp -implicitDefEqProofs (disch := (first | omega | rfl | assumption | (simp only [rsD]; first | omega | assumption))) only [s_bs, s_bn, s_kn, bump_blk])⟩
  have hno := W.lt
  have hle := W.le
  simp only at hp hq hr fc
  unfold CV.cells at W0 O0
  simp only at W0 O0
  simp only at k0 k4 k5
  have d0 := s_eqF k0
  have d4 := s_eqF k4
  have d5 := s_eqF k5
  simp only [one, if_neg k0, if_neg k4, if_neg k5]
  by_cases ko : kind < 1 ∨ kind > 3
  · rw [if_pos ko]
    have d1 := s_eqF (show kind ≠ 1 by omega)
    have d2 := s_eqF (show kind ≠ 2 by omega)
    have d3 := s_eqF (show kind ≠ 3 by omega)
    simp -implicitDefEqProofs only [diff_one, diff_one_c, CV.cells, d0, d4, d5, d1, d2, d3, Nat.reduceAdd, Nat.reduceMul, Nat.reduceLT, Int.reduceToNat, Int.reduceAdd, Int.reduceSub, Int.reduceMul, rsU, s_bleD, Nat.reduceLeDiff, decide_true, decide_false]
    exact Ok_some.2 ⟨rfl, W0, O0⟩
  rw [if_neg ko]
  have qb : (bif kind == 1 then (kind == 1) else bif kind == 2 then (kind == 2) else (kind == 3)) = true := by
    rcases (show kind = 1 ∨ kind = 2 ∨ kind = 3 by omega) with rfl | rfl | rfl <;> rfl
  by_cases a1 : at_ < 1
  · rw [if_pos (.inl a1)]
    have da := decide_eq_true a1
    simp -implicitDefEqProofs only [diff_one, diff_one_c, CV.cells, d0, d4, d5, qb, da, Nat.reduceAdd, Nat.reduceMul, Nat.reduceLT, Int.reduceToNat, Int.reduceAdd, Int.reduceSub, Int.reduceMul, rsU, s_bleD, Nat.reduceLeDiff, decide_true, decide_false]
    exact Ok_some.2 ⟨rfl, W0, O0⟩
  have da := decide_eq_false a1
  obtain ⟨l1, l2, a, b, c, A, B, C, h1, P⟩ := id W0
  by_cases a2 : at_ > F.nodes.length
  · rw [if_pos (.inr a2)]
    have dn := decide_eq_true a2
    simp -implicitDefEqProofs only [diff_one, diff_one_c, CV.cells, d0, d4, d5, qb, da, h1, dn, Nat.reduceAdd, Nat.reduceMul, Nat.reduceLT, Int.reduceToNat, Int.reduceAdd, Int.reduceSub, Int.reduceMul, rsU, s_bleD, Nat.reduceLeDiff, decide_true, decide_false]
    exact Ok_some.2 ⟨rfl, W0, O0⟩
  have dn := decide_eq_false a2
  rw [if_neg (by omega)]
  obtain ⟨i, rfl⟩ : ∃ i : Nat, at_ = (i : Int) + 1 := ⟨(at_ - 1).toNat, by omega⟩
  rw [Int.add_sub_cancel, Int.toNat_natCast]
  obtain ⟨x, hx⟩ : ∃ x, F.nodes[i]? = some x := ⟨_, List.getElem?_eq_getElem (by omega)⟩
  rw [hx]
  simp only
  obtain ⟨e, v, u, w, M, rfl, heA, hbe, lv, lu, mu, ou, hM, close⟩ := P.n.open_ hx
  have no : ∀ y, base ≤ y → y ≠ fb := fun y h => by omega
  have ltA := P.n.lt
  have ltB := P.r.lt
  have ltC := P.w.lt
  simp only [rsD] at ltA ltB ltC
  have wv : IntKind.i64.wrap ((i : Int) + 1 - 1) = (i : Int) := by rw [Int.add_sub_cancel]; exact s_i64 (by omega)
  have qi : (decide (0 ≤ (i : Int)) && decide ((i : Int) < (F.nodes.length : Int))) = true := by
    rw [decide_eq_true (show (0 : Int) ≤ (i : Int) by omega), decide_eq_true (show (i : Int) < (F.nodes.length : Int) by omega)]; rfl
  by_cases k1 : kind = 1
  · rw [if_pos k1]
    have d1 := s_eqT k1
    simp -implicitDefEqProofs only [diff_one, diff_one_c, CV.cells, d0, d4, d5, qb, da, h1, dn, wv, qi, d1, Nat.reduceAdd, Nat.reduceMul, Nat.reduceLT, Int.reduceToNat, Int.reduceAdd, Int.reduceSub, Int.reduceMul, rsU, s_bleD, Nat.reduceLeDiff, decide_true, decide_false]
    refine ok_stepB (dclone hp hq fc.w) fun r ⟨a', b', g1, g2, m⟩ => ?_
    obtain ⟨z, σ2⟩ := r
    simp only at g1 g2
    subst g1
    have lte := ltA e heA
    have hb2 := (g2.e.blk e (by simp; omega)).trans hbe
    have bl := decide_eq_true (show i * 7 + 7 ≤ (v ++ (u ++ w)).length by simp [lv, lu] <;> omega)
    have sp := splice_mid (w := w) lv (show (whole.cells a' b').length = u.length by rw [lu]; rfl)
    unfold NV.cells at sp
    simp -implicitDefEqProofs only [NV.cells, hb2, Int.toNat_natCast, bl, sp, Nat.reduceAdd, Nat.reduceMul, Nat.reduceLT, Int.reduceToNat, Int.reduceAdd, Int.reduceSub, Int.reduceMul, rsU, s_bleD, Nat.reduceLeDiff, decide_true, decide_false]
    have n2 := g2.e.next
    simp only [rsD] at n2
    obtain ⟨E2, L, o2, hL⟩ := g2
    simp only [rsD] at hL
    have nL : ∀ y ∈ L, y ∉ A ∧ y ≠ e := fun y hy => ⟨fun hm => by have := ltA y hm; have := hL y hy; omega, fun he => by have := hL y hy; omega⟩
    obtain ⟨A', P', hA'⟩ := close (σ2.put e (.cells true T_canon_Node (v ++ (whole.cells a' b' ++ w)))) whole (whole.cells a' b') L (by show _ ≤ σ2.next; simp; omega) s_bs (fun y h1 h2 h3 => (s_bn h2).trans (E2.blk y (by simp; have := ltA y h1; omega))) (owl_put o2 fun hm => (nL e hm).2 rfl) (fun y hy => .inr (nL y hy).1) m
    refine Ok_some.2 ⟨rfl, ⟨l1, by show base ≤ σ2.next; omega, .loc (.n e) 0 7, b, c, A', B, C, ?_, ?_⟩, ⟨by show σ.next ≤ σ2.next; omega, fun y h1 h2 => ?_⟩⟩
    · show (σ2.put e _).blk fb = _
      rw [s_bn (by have := (P.lA e heA).1; omega), List.length_set, E2.blk fb (by simp; omega)]; exact h1
    · refine P.nodes l2 (by show _ ≤ σ2.next; simp; omega) P' (fun y hy => (hA' y hy).imp id fun h => by have := hL y h; simp only [rsD]; omega) fun y hy => ?_
      have hy1 : y < σ.next + 1 ∧ y ≠ e := by
        rcases hy with hy | hy
        · exact ⟨ltB y hy, fun he => (P.lA e heA).2.1 (he ▸ hy)⟩
        · exact ⟨ltC y hy, fun he => (P.lA e heA).2.2 (he ▸ hy)⟩
      rw [s_bn hy1.2]; exact E2.blk y (by simp; omega)
    · have := (P.lA e heA).1
      rw [s_bn (by omega), E2.blk y (by simp; omega)]; exact O0.o y h1 h2
  rw [if_neg k1]
  have d1 := s_eqF k1
  obtain ⟨cP, cR, MA, MB, rfl, oA, oB, rfl, hd⟩ := NV.unO ou
  have q5 : (v ++ (x.cells cP cR ++ w))[i * 7 + 5]? = some (.sl cP x.P.length) := by
    rw [← lv, List.getElem?_append_right (by omega), Nat.add_sub_cancel_left]; rfl
  have q6 : (v ++ (x.cells cP cR ++ w))[i * 7 + 6]? = some (.sl cR x.R.length) := by
    rw [← lv, List.getElem?_append_right (by omega), Nat.add_sub_cancel_left]; rfl
  have qc : (bif kind == 2 then (kind == 2) else (kind == 3)) = true := by
    rcases (show kind = 2 ∨ kind = 3 by omega) with rfl | rfl <;> rfl
  by_cases s0 : slot < 0
  · rw [if_pos (.inl s0)]
    have ds := decide_eq_true s0
    simp -implicitDefEqProofs only [diff_one, diff_one_c, CV.cells, d0, d4, d5, qc, da, h1, dn, wv, qi, d1, ds, Nat.reduceAdd, Nat.reduceMul, Nat.reduceLT, Int.reduceToNat, Int.reduceAdd, Int.reduceSub, Int.reduceMul, rsU, s_bleD, Nat.reduceLeDiff, decide_true, decide_false]
    exact Ok_some.2 ⟨rfl, W0, O0⟩
  have ds := decide_eq_false s0
  by_cases k2 : kind = 2
  · have d2 := s_eqT k2
    have d3 := s_eqF (show kind ≠ 3 by omega)
    by_cases sp : slot ≥ x.P.length
    · have dp := decide_eq_true sp
      rw [if_pos (.inr (.inl ⟨k2, sp⟩))]
      simp -implicitDefEqProofs only [diff_one, diff_one_c, CV.cells, d0, d4, d5, d2, d3, da, h1, dn, wv, qi, d1, ds, hbe, Int.toNat_natCast, q5, dp, Nat.reduceAdd, Nat.reduceMul, Nat.reduceLT, Int.reduceToNat, Int.reduceAdd, Int.reduceSub, Int.reduceMul, rsU, s_bleD, Nat.reduceLeDiff, decide_true, decide_false]
      exact Ok_some.2 ⟨rfl, W0, O0⟩
    · obtain ⟨s, rfl⟩ : ∃ s : Nat, slot = s := ⟨slot.toNat, by omega⟩
      have hs : s < x.P.length := by omega
      have dp := decide_eq_false sp
      rw [if_neg (by omega), if_pos k2, Int.toNat_natCast]
      simp only [NV.cells, List.all_cons, Bool.and_eq_true] at mu
      obtain ⟨e2, rest, rfl, rfl, lt2, hb2, mk⟩ := NV.pokeP oA oB hd mu.2.2.2.2.2.1 hs
      have qs : (decide (0 ≤ (s : Int)) && decide ((s : Int) < (x.P.length : Int))) = true := by
        rw [decide_eq_true (show (0 : Int) ≤ (s : Int) by omega), decide_eq_true (show (s : Int) < (x.P.length : Int) by omega)]; rfl
      have bl := decide_eq_true (show s + 1 ≤ (x.P.map (AV.i .i64) ++ rest).length by simp <;> omega)
      have mp := map_poke (k := .i64) (rest := rest) (v := to) hs
      simp -implicitDefEqProofs only [diff_one, diff_one_c, CV.cells, d0, d4, d5, d2, d3, da, h1, dn, wv, qi, d1, ds, hbe, Int.toNat_natCast, q5, dp, qs, hb2, bl, mp, Nat.reduceAdd, Nat.reduceMul, Nat.reduceLT, Int.reduceToNat, Int.reduceAdd, Int.reduceSub, Int.reduceMul, rsU, s_bleD, Nat.reduceLeDiff, decide_true, decide_false]
      have e2A : e2 ∈ A ∧ e2 ≠ e := hM e2 (by simp)
      have cl := fun h1 h2 h3 h4 h5 => close _ ⟨x.h, x.P.set s to, x.R⟩ _ _ h1 h2 h3 (mk to) h4 h5
      obtain ⟨A', P', hA'⟩ := cl (Nat.le_refl _) ((s_bn (fun h => e2A.2 h.symm)).trans hbe) (fun y h1 h2 h3 => s_bn fun he => h3 (by simp [he])) (fun y hy => .inl hy) (by simp only [NV.cells, List.all_cons, Bool.and_eq_true]; exact mu)
      have e2ge := (P.lA e2 e2A.1).1
      refine Ok_some.2 ⟨rfl, ⟨l1, l2, .loc (.n e) 0 7, b, c, A', B, C, ?_, ?_⟩, ⟨O0.n, fun y h1 h2 => ?_⟩⟩
      · rw [s_bn (by omega), List.length_set]; exact h1
      · refine P.nodes l2 (Nat.le_refl _) P' (fun y hy => .inl ((hA' y hy).elim id fun h => (hM y h).1)) fun y hy => s_bn fun he => ?_
        subst he
        rcases hy with hy | hy
        · exact (P.lA y e2A.1).2.1 hy
        · exact (P.lA y e2A.1).2.2 hy
      · rw [s_bn (by omega)]; exact O0.o y h1 h2
  · have k3 : kind = 3 := by omega
    have d2 := s_eqF k2
    have d3 := s_eqT k3
    by_cases sp : slot ≥ x.R.length
    · have dp := decide_eq_true sp
      rw [if_pos (.inr (.inr ⟨k3, sp⟩))]
      simp -implicitDefEqProofs only [diff_one, diff_one_c, CV.cells, d0, d4, d5, d2, d3, da, h1, dn, wv, qi, d1, ds, hbe, Int.toNat_natCast, q6, dp, Nat.reduceAdd, Nat.reduceMul, Nat.reduceLT, Int.reduceToNat, Int.reduceAdd, Int.reduceSub, Int.reduceMul, rsU, s_bleD, Nat.reduceLeDiff, decide_true, decide_false]
      exact Ok_some.2 ⟨rfl, W0, O0⟩
    · obtain ⟨s, rfl⟩ : ∃ s : Nat, slot = s := ⟨slot.toNat, by omega⟩
      have hs : s < x.R.length := by omega
      have dp := decide_eq_false sp
      rw [if_neg (by omega), if_neg k2, Int.toNat_natCast]
      simp only [NV.cells, List.all_cons, Bool.and_eq_true] at mu
      obtain ⟨e2, rest, rfl, rfl, lt2, hb2, mk⟩ := NV.pokeR oA oB hd mu.2.2.2.2.2.2.1 hs
      have qs : (decide (0 ≤ (s : Int)) && decide ((s : Int) < (x.R.length : Int))) = true := by
        rw [decide_eq_true (show (0 : Int) ≤ (s : Int) by omega), decide_eq_true (show (s : Int) < (x.R.length : Int) by omega)]; rfl
      have bl := decide_eq_true (show s + 1 ≤ (x.R.map (AV.i .u64) ++ rest).length by simp <;> omega)
      have mp := map_poke (k := .u64) (rest := rest) (v := word) hs
      simp -implicitDefEqProofs only [diff_one, diff_one_c, CV.cells, d0, d4, d5, d2, d3, da, h1, dn, wv, qi, d1, ds, hbe, Int.toNat_natCast, q6, dp, qs, hb2, bl, mp, Nat.reduceAdd, Nat.reduceMul, Nat.reduceLT, Int.reduceToNat, Int.reduceAdd, Int.reduceSub, Int.reduceMul, rsU, s_bleD, Nat.reduceLeDiff, decide_true, decide_false]
      have e2A : e2 ∈ A ∧ e2 ≠ e := hM e2 (by simp)
      have cl := fun h1 h2 h3 h4 h5 => close _ ⟨x.h, x.P, x.R.set s word⟩ _ _ h1 h2 h3 (mk word) h4 h5
      obtain ⟨A', P', hA'⟩ := cl (Nat.le_refl _) ((s_bn (fun h => e2A.2 h.symm)).trans hbe) (fun y h1 h2 h3 => s_bn fun he => h3 (by simp [he])) (fun y hy => .inl hy) (by simp only [NV.cells, List.all_cons, Bool.and_eq_true]; exact mu)
      have e2ge := (P.lA e2 e2A.1).1
      refine Ok_some.2 ⟨rfl, ⟨l1, l2, .loc (.n e) 0 7, b, c, A', B, C, ?_, ?_⟩, ⟨O0.n, fun y h1 h2 => ?_⟩⟩
      · rw [s_bn (by omega), List.length_set]; exact h1
      · refine P.nodes l2 (Nat.le_refl _) P' (fun y hy => .inl ((hA' y hy).elim id fun h => (hM y h).1)) fun y hy => s_bn fun he => ?_
        subst he
        rcases hy with hy | hy
        · exact (P.lA y e2A.1).2.1 hy
        · exact (P.lA y e2A.1).2.2 hy
      · rw [s_bn (by omega)]; exact O0.o y h1 h2
end Go.Abs.Try
