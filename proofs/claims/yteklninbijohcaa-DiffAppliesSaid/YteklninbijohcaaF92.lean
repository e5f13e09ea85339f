/-
  A node that is worked on: one number is written. No conditions.
-/
import Derived.Test.YteklninbijohcaaF91
set_option linter.unusedVariables false
set_option linter.unusedSimpArgs false
set_option linter.constructorNameAsVariable false
set_option linter.unusedSimpArgs false
set_option linter.unusedVariables false
set_option linter.unusedSectionVars false
set_option maxHeartbeats 1000000
namespace Go.Abs.Try
open Go Go.Abs
variable {O : Type}

theorem ow_put {σ : AH O} {t : TV} {v : AV} {L : List Nat} {e : Nat} {x : Blk O} (h : Ow σ t v L) (he : e ∉ L) : Ow (σ.put e x) t v L :=
  Ow.of (σ := σ) (σ' := σ.put e x) (Nat.le_refl σ.next) h fun y hy => s_bn fun e => he (e ▸ hy)
theorem owl_put {σ : AH O} {t : List TV} {v : List AV} {L : List Nat} {e : Nat} {x : Blk O} (h : OwL σ t v L) (he : e ∉ L) : OwL (σ.put e x) t v L :=
  OwL.of (σ := σ) (σ' := σ.put e x) (Nat.le_refl σ.next) h fun y hy => s_bn fun e => he (e ▸ hy)
theorem owl_one {σ : AH O} {t : TV} {v : AV} {L : List Nat} (h : OwL σ [t] [v] L) : Ow σ t v L := by
  cases h with | cons h hc hd => cases hc; simpa using h
theorem ow_ints {σ : AH O} {k : IntKind} {l : List Int} {v : AV} {L : List Nat} (h : Ow σ (ints k l) v L) : ∃ a, v = .sl a l.length := by
  obtain ⟨a, _, _, rfl, _⟩ := h.rd
  exact ⟨a, rfl⟩
theorem NV.unO {σ : AH O} {x : NV} {u : List AV} {M : List Nat} (h : OwL σ x.row u M) : ∃ c d A B, u = x.cells c d ∧ Ow σ (ints .i64 x.P) (.sl c x.P.length) A ∧ Ow σ (ints .u64 x.R) (.sl d x.R.length) B ∧ M = A ++ B ∧ ∀ y ∈ A, y ∉ B := by
  obtain ⟨v, w, A, B, rfl, rfl, h1, h2, h3⟩ := OwL.cut (ts := x.h.cs.map TV.lf) (us := [ints .i64 x.P, ints .u64 x.R]) h
  obtain ⟨rfl, rfl⟩ := h1.ofLeaves
  cases h2 with
  | cons g1 gc gd =>
    cases gc with
    | cons g2 gc2 gd2 =>
      cases gc2
      obtain ⟨c, rfl⟩ := ow_ints g1
      obtain ⟨d, rfl⟩ := ow_ints g2
      refine ⟨c, d, _, _, rfl, g1, g2, by simp, ?_⟩
      simpa using gd
theorem NV.mkO {σ : AH O} {x : NV} {c d : SA} {A B : List Nat} (h1 : Ow σ (ints .i64 x.P) (.sl c x.P.length) A) (h2 : Ow σ (ints .u64 x.R) (.sl d x.R.length) B) (hd : ∀ y ∈ A, y ∉ B) : OwL σ x.row (x.cells c d) (A ++ B) := by
  have h := OwL.app (OwL.im (σ := σ) (ImL.lfs (vs := x.h.cs) rfl)) (OwL.cons h1 (OwL.cons h2 .nil (by simp)) (by simpa using hd)) (by simp)
  simpa [NV.row, NV.cells, HV.cs] using h
/-- one number of a slice of our own -/
theorem ints_poke {σ : AH O} {k : IntKind} {l : List Int} {a : SA} {L : List Nat} (h : Ow σ (ints k l) (.sl a l.length) L) (hm : (AV.sl a l.length).mine = true) {s : Nat} (hs : s < l.length) : ∃ e rest, a = .loc (.n e) 0 1 ∧ L = [e] ∧ e < σ.next ∧ σ.blk e = some (.cells true (elK k) (l.map (AV.i k) ++ rest)) ∧
    ∀ (σ' : AH O) (v : Int), σ.next ≤ σ'.next → σ'.blk e = some (.cells true (elK k) ((l.set s v).map (AV.i k) ++ rest)) → Ow σ' (ints k (l.set s v)) (.sl a (l.set s v).length) [e] := by
  obtain ⟨e, rest, vs, M, rfl, h1, h2, h3, h4, rfl, h6⟩ := h.open_ hm (by omega)
  rw [int1_flat] at h4
  obtain ⟨rfl, rfl⟩ := h4.ofLeaves
  refine ⟨e, rest, rfl, rfl, h3, h1, fun σ' v hn hb => ?_⟩
  exact .sl (L := []) (OwnP.new (by simp) hb (by omega)) (by rw [int1_flat]; exact OwL.im (ImL.lfs (flat_ints _))) (by simp)
theorem map_poke {k : IntKind} {l : List Int} {rest : List AV} {s : Nat} {v : Int} (hs : s < l.length) : splice (l.map (AV.i k) ++ rest) s [.i k v] = (l.set s v).map (AV.i k) ++ rest := by
  rw [splice_set (by simp; omega), List.set_append_left _ _ (by simpa using hs), List.map_set]
theorem NV.pokeP {σ : AH O} {x : NV} {c d : SA} {A B : List Nat} (h1 : Ow σ (ints .i64 x.P) (.sl c x.P.length) A) (h2 : Ow σ (ints .u64 x.R) (.sl d x.R.length) B) (hd : ∀ y ∈ A, y ∉ B) (hm : (AV.sl c x.P.length).mine = true) {s : Nat} (hs : s < x.P.length) : ∃ e rest, c = .loc (.n e) 0 1 ∧ A = [e] ∧ e < σ.next ∧ σ.blk e = some (.cells true 3 (x.P.map (AV.i .i64) ++ rest)) ∧
    ∀ (v : Int), OwL (σ.put e (.cells true 3 ((x.P.set s v).map (AV.i .i64) ++ rest))) (⟨x.h, x.P.set s v, x.R⟩ : NV).row (x.cells c d) (A ++ B) := by
  obtain ⟨e, rest, rfl, rfl, g1, g2, g3⟩ := ints_poke h1 hm hs
  refine ⟨e, rest, rfl, rfl, g1, g2, fun v => ?_⟩
  have := NV.mkO (x := ⟨x.h, x.P.set s v, x.R⟩) (g3 (σ.put e (.cells true 3 ((x.P.set s v).map (AV.i .i64) ++ rest))) v (Nat.le_refl _) s_bs) (ow_put h2 (hd e (by simp))) (by simpa using hd)
  simpa [NV.cells] using this
theorem NV.pokeR {σ : AH O} {x : NV} {c d : SA} {A B : List Nat} (h1 : Ow σ (ints .i64 x.P) (.sl c x.P.length) A) (h2 : Ow σ (ints .u64 x.R) (.sl d x.R.length) B) (hd : ∀ y ∈ A, y ∉ B) (hm : (AV.sl d x.R.length).mine = true) {s : Nat} (hs : s < x.R.length) : ∃ e rest, d = .loc (.n e) 0 1 ∧ B = [e] ∧ e < σ.next ∧ σ.blk e = some (.cells true 22 (x.R.map (AV.i .u64) ++ rest)) ∧
    ∀ (v : Int), OwL (σ.put e (.cells true 22 ((x.R.set s v).map (AV.i .u64) ++ rest))) (⟨x.h, x.P, x.R.set s v⟩ : NV).row (x.cells c d) (A ++ B) := by
  obtain ⟨e, rest, rfl, rfl, g1, g2, g3⟩ := ints_poke h2 hm hs
  refine ⟨e, rest, rfl, rfl, g1, g2, fun v => ?_⟩
  have := NV.mkO (x := ⟨x.h, x.P, x.R.set s v⟩) (ow_put h1 fun hy => hd e hy (by simp)) (g3 (σ.put e (.cells true 22 ((x.R.set s v).map (AV.i .u64) ++ rest))) v (Nat.le_refl _) s_bs) hd
  simpa [NV.cells] using this
end Go.Abs.Try
set_option linter.unusedSimpArgs false
set_option linter.unusedVariables false
set_option linter.unusedSectionVars false
set_option maxHeartbeats 1000000
namespace Go.Abs.Try
open Go Go.Abs
variable {O : Type}

def one (F : FV) (c : CV) : Int × FV :=
  if c.kind = 0 then (if c.to < 0 ∨ c.to > 1048576 then (2, F) else (0, ⟨sized F.nodes c.to.toNat, F.roots, F.weak⟩))
  else if c.kind = 4 then (0, ⟨F.nodes, c.list, F.weak⟩)
  else if c.kind = 5 then (0, ⟨F.nodes, F.roots, c.list⟩)
  else if c.kind < 1 ∨ c.kind > 3 then (1, F)
  else if c.at_ < 1 ∨ c.at_ > F.nodes.length then (2, F)
  else match F.nodes[(c.at_ - 1).toNat]? with
    | none => (2, F)
    | some x =>
      if c.kind = 1 then (0, ⟨F.nodes.set (c.at_ - 1).toNat c.whole, F.roots, F.weak⟩)
      else if c.slot < 0 ∨ (c.kind = 2 ∧ c.slot ≥ x.P.length) ∨ (c.kind = 3 ∧ c.slot ≥ x.R.length) then (2, F)
      else if c.kind = 2 then (0, ⟨F.nodes.set (c.at_ - 1).toNat ⟨x.h, x.P.set c.slot.toNat c.to, x.R⟩, F.roots, F.weak⟩)
      else (0, ⟨F.nodes.set (c.at_ - 1).toNat ⟨x.h, x.P, x.R.set c.slot.toNat c.word⟩, F.roots, F.weak⟩)
structure CV.few (c : CV) : Prop where
  w : c.whole.few
  l : c.list.length ≤ 100000
theorem ok_stepB {A S R : Type} {m : Option A} {f : A → Option (S ⊕ R)} {g : S → Option R} {Q : A → Prop} {Q' : R → Prop} (h : Ok m Q) (hq : ∀ r, Q r → Ok (bindS (f r) g) Q') : Ok (bindS (m.bind f) g) Q' := by
  obtain ⟨r, h1, h2⟩ := h
  rw [h1]; exact hq r h2
theorem one_deep {σ : AH O} {fb base : Nat} {F : FV} {c : CV} {p q r : SA} (W : WF σ fb base F) (hF : F.nodes.length ≤ 10000000) (hp : Ints .i64 p c.whole.P) (hq : Ints .u64 q c.whole.R) (hr : Ints .i64 r c.list) (fc : c.few) (k0 : c.kind ≠ 0) (k4 : c.kind ≠ 4) (k5 : c.kind ≠ 5) : Ok (diff_one [.p (some (.n fb, 0)), .agg (c.cells p q r)] σ) fun s => s.1 = .i .i64 (one F c).1 ∧ WF s.2 fb base (one F c).2 ∧ Only σ s.2 fb base := by
  obtain ⟨kind, at_, slot, to, word, whole, list⟩ := c
  have W0 : WF ((σ.bump 1).put σ.next (.cells true T_diff_Change (CV.cells ⟨kind, at_, slot, to, word, whole, list⟩ p q r))) fb base F := W.keep (by simp) (by have := W.lt; have := W.le; ((try simp only [rsD] at *); simp -implicitDefEqProofs (disch := (first | omega | rfl | assumption | (simp only [rsD]; first | omega | assumption))) only [s_bs, s_bn, s_kn, bump_blk])) fun x h1 h2 => by ((try simp only [rsD] at *); simp -implicitDefEqProofs (disch := (first | omega | rfl | assumption | (simp only [rsD]; first | omega | assumption))) only [s_bs, s_bn, s_kn, bump_blk])
  have O0 : Only σ ((σ.bump 1).put σ.next (.cells true T_diff_Change (CV.cells ⟨kind, at_, slot, to, word, whole, list⟩ p q r))) fb base := ⟨by simp, fun x h1 h2 => by have := W.le; ((try simp only [rsD] at *); simp -implicitDefEqProofs (disch := (first | omega | rfl | assumption | (simp only [rsD]; first | omega | assumption))) only [s_bs, s_bn, s_kn, bump_blk])⟩
  have hno := W.lt
  have hle := W.le
  simp only at hp hq hr fc
  unfold CV.cells at W0 O0
  simp only at W0 O0
  simp only at k0 k4 k5
  have d0 := s_eqF k0
  have d4 := s_eqF k4
  have d5 := s_eqF k5
  simp only [one, if_neg k0, if_neg k4, if_neg k5]
  by_cases ko : kind < 1 ∨ kind > 3
  · rw [if_pos ko]
    have d1 := s_eqF (show kind ≠ 1 by omega)
    have d2 := s_eqF (show kind ≠ 2 by omega)
    have d3 := s_eqF (show kind ≠ 3 by omega)
    simp -implicitDefEqProofs only [diff_one, diff_one_c, CV.cells, d0, d4, d5, d1, d2, d3, Nat.reduceAdd, Nat.reduceMul, Nat.reduceLT, Int.reduceToNat, Int.reduceAdd, Int.reduceSub, Int.reduceMul, rsU, s_bleD, Nat.reduceLeDiff, decide_true, decide_false]
    exact Ok_some.2 ⟨rfl, W0, O0⟩
  rw [if_neg ko]
  have qb : (bif kind == 1 then (kind == 1) else bif kind == 2 then (kind == 2) else (kind == 3)) = true := by
    rcases (show kind = 1 ∨ kind = 2 ∨ kind = 3 by omega) with rfl | rfl | rfl <;> rfl
  by_cases a1 : at_ < 1
  · rw [if_pos (.inl a1)]
    have da := decide_eq_true a1
    simp -implicitDefEqProofs only [diff_one, diff_one_c, CV.cells, d0, d4, d5, qb, da, Nat.reduceAdd, Nat.reduceMul, Nat.reduceLT, Int.reduceToNat, Int.reduceAdd, Int.reduceSub, Int.reduceMul, rsU, s_bleD, Nat.reduceLeDiff, decide_true, decide_false]
    exact Ok_some.2 ⟨rfl, W0, O0⟩
  have da := decide_eq_false a1
  obtain ⟨l1, l2, a, b, c, A, B, C, h1, P⟩ := id W0
  by_cases a2 : at_ > F.nodes.length
  · rw [if_pos (.inr a2)]
    have dn := decide_eq_true a2
    simp -implicitDefEqProofs only [diff_one, diff_one_c, CV.cells, d0, d4, d5, qb, da, h1, dn, Nat.reduceAdd, Nat.reduceMul, Nat.reduceLT, Int.reduceToNat, Int.reduceAdd, Int.reduceSub, Int.reduceMul, rsU, s_bleD, Nat.reduceLeDiff, decide_true, decide_false]
    exact Ok_some.2 ⟨rfl, W0, O0⟩
  have dn := decide_eq_false a2
  rw [if_neg (by omega)]
  obtain ⟨i, rfl⟩ : ∃ i : Nat, at_ = (i : Int) + 1 := ⟨(at_ - 1).toNat, by omega⟩
  rw [Int.add_sub_cancel, Int.toNat_natCast]
  obtain ⟨x, hx⟩ : ∃ x, F.nodes[i]? = some x := ⟨_, List.getElem?_eq_getElem (by omega)⟩
  rw [hx]
  simp only
  obtain ⟨e, v, u, w, M, rfl, heA, hbe, lv, lu, mu, ou, hM, close⟩ := P.n.open_ hx
  have no : ∀ y, base ≤ y → y ≠ fb := fun y h => by omega
  have ltA := P.n.lt
  have ltB := P.r.lt
  have ltC := P.w.lt
  simp only [rsD] at ltA ltB ltC
  have wv : IntKind.i64.wrap ((i : Int) + 1 - 1) = (i : Int) := by rw [Int.add_sub_cancel]; exact s_i64 (by omega)
  have qi : (decide (0 ≤ (i : Int)) && decide ((i : Int) < (F.nodes.length : Int))) = true := by
    rw [decide_eq_true (show (0 : Int) ≤ (i : Int) by omega), decide_eq_true (show (i : Int) < (F.nodes.length : Int) by omega)]; rfl
  by_cases k1 : kind = 1
  · rw [if_pos k1]
    have d1 := s_eqT k1
    simp -implicitDefEqProofs only [diff_one, diff_one_c, CV.cells, d0, d4, d5, qb, da, h1, dn, wv, qi, d1, Nat.reduceAdd, Nat.reduceMul, Nat.reduceLT, Int.reduceToNat, Int.reduceAdd, Int.reduceSub, Int.reduceMul, rsU, s_bleD, Nat.reduceLeDiff, decide_true, decide_false]
    refine ok_stepB (dclone hp hq fc.w) fun r ⟨a', b', g1, g2, m⟩ => ?_
    obtain ⟨z, σ2⟩ := r
    simp only at g1 g2
    subst g1
    have lte := ltA e heA
    have hb2 := (g2.e.blk e (by simp; omega)).trans hbe
    have bl := decide_eq_true (show i * 7 + 7 ≤ (v ++ (u ++ w)).length by simp [lv, lu] <;> omega)
    have sp := splice_mid (w := w) lv (show (whole.cells a' b').length = u.length by rw [lu]; rfl)
    unfold NV.cells at sp
    simp -implicitDefEqProofs only [NV.cells, hb2, Int.toNat_natCast, bl, sp, Nat.reduceAdd, Nat.reduceMul, Nat.reduceLT, Int.reduceToNat, Int.reduceAdd, Int.reduceSub, Int.reduceMul, rsU, s_bleD, Nat.reduceLeDiff, decide_true, decide_false]
    have n2 := g2.e.next
    simp only [rsD] at n2
    obtain ⟨E2, L, o2, hL⟩ := g2
    simp only [rsD] at hL
    have nL : ∀ y ∈ L, y ∉ A ∧ y ≠ e := fun y hy => ⟨fun hm => by have := ltA y hm; have := hL y hy; omega, fun he => by have := hL y hy; omega⟩
    obtain ⟨A', P', hA'⟩ := close (σ2.put e (.cells true T_canon_Node (v ++ (whole.cells a' b' ++ w)))) whole (whole.cells a' b') L (by show _ ≤ σ2.next; simp; omega) s_bs (fun y h1 h2 h3 => (s_bn h2).trans (E2.blk y (by simp; have := ltA y h1; omega))) (owl_put o2 fun hm => (nL e hm).2 rfl) (fun y hy => .inr (nL y hy).1) m
    refine Ok_some.2 ⟨rfl, ⟨l1, by show base ≤ σ2.next; omega, .loc (.n e) 0 7, b, c, A', B, C, ?_, ?_⟩, ⟨by show σ.next ≤ σ2.next; omega, fun y h1 h2 => ?_⟩⟩
    · show (σ2.put e _).blk fb = _
      rw [s_bn (by have := (P.lA e heA).1; omega), List.length_set, E2.blk fb (by simp; omega)]; exact h1
    · refine P.nodes l2 (by show _ ≤ σ2.next; simp; omega) P' (fun y hy => (hA' y hy).imp id fun h => by have := hL y h; simp only [rsD]; omega) fun y hy => ?_
      have hy1 : y < σ.next + 1 ∧ y ≠ e := by
        rcases hy with hy | hy
        · exact ⟨ltB y hy, fun he => (P.lA e heA).2.1 (he ▸ hy)⟩
        · exact ⟨ltC y hy, fun he => (P.lA e heA).2.2 (he ▸ hy)⟩
      rw [s_bn hy1.2]; exact E2.blk y (by simp; omega)
    · have := (P.lA e heA).1
      rw [s_bn (by omega), E2.blk y (by simp; omega)]; exact O0.o y h1 h2
  rw [if_neg k1]
  have d1 := s_eqF k1
  obtain ⟨cP, cR, MA, MB, rfl, oA, oB, rfl, hd⟩ := NV.unO ou
  have q5 : (v ++ (x.cells cP cR ++ w))[i * 7 + 5]? = some (.sl cP x.P.length) := by
    rw [← lv, List.getElem?_append_right (by omega), Nat.add_sub_cancel_left]; rfl
  have q6 : (v ++ (x.cells cP cR ++ w))[i * 7 + 6]? = some (.sl cR x.R.length) := by
    rw [← lv, List.getElem?_append_right (by omega), Nat.add_sub_cancel_left]; rfl
  have qc : (bif kind == 2 then (kind == 2) else (kind == 3)) = true := by
    rcases (show kind = 2 ∨ kind = 3 by omega) with rfl | rfl <;> rfl
  by_cases s0 : slot < 0
  · rw [if_pos (.inl s0)]
    have ds := decide_eq_true s0
    simp -implicitDefEqProofs only [diff_one, diff_one_c, CV.cells, d0, d4, d5, qc, da, h1, dn, wv, qi, d1, ds, Nat.reduceAdd, Nat.reduceMul, Nat.reduceLT, Int.reduceToNat, Int.reduceAdd, Int.reduceSub, Int.reduceMul, rsU, s_bleD, Nat.reduceLeDiff, decide_true, decide_false]
    exact Ok_some.2 ⟨rfl, W0, O0⟩
  have ds := decide_eq_false s0
  by_cases k2 : kind = 2
  · have d2 := s_eqT k2
    have d3 := s_eqF (show kind ≠ 3 by omega)
    by_cases sp : slot ≥ x.P.length
    · have dp := decide_eq_true sp
      rw [if_pos (.inr (.inl ⟨k2, sp⟩))]
      simp -implicitDefEqProofs only [diff_one, diff_one_c, CV.cells, d0, d4, d5, d2, d3, da, h1, dn, wv, qi, d1, ds, hbe, Int.toNat_natCast, q5, dp, Nat.reduceAdd, Nat.reduceMul, Nat.reduceLT, Int.reduceToNat, Int.reduceAdd, Int.reduceSub, Int.reduceMul, rsU, s_bleD, Nat.reduceLeDiff, decide_true, decide_false]
      exact Ok_some.2 ⟨rfl, W0, O0⟩
    · obtain ⟨s, rfl⟩ : ∃ s : Nat, slot = s := ⟨slot.toNat, by omega⟩
      have hs : s < x.P.length := by omega
      have dp := decide_eq_false sp
      rw [if_neg (by omega), if_pos k2, Int.toNat_natCast]
      simp only [NV.cells, List.all_cons, Bool.and_eq_true] at mu
      obtain ⟨e2, rest, rfl, rfl, lt2, hb2, mk⟩ := NV.pokeP oA oB hd mu.2.2.2.2.2.1 hs
      have qs : (decide (0 ≤ (s : Int)) && decide ((s : Int) < (x.P.length : Int))) = true := by
        rw [decide_eq_true (show (0 : Int) ≤ (s : Int) by omega), decide_eq_true (show (s : Int) < (x.P.length : Int) by omega)]; rfl
      have bl := decide_eq_true (show s + 1 ≤ (x.P.map (AV.i .i64) ++ rest).length by simp <;> omega)
      have mp := map_poke (k := .i64) (rest := rest) (v := to) hs
      simp -implicitDefEqProofs only [diff_one, diff_one_c, CV.cells, d0, d4, d5, d2, d3, da, h1, dn, wv, qi, d1, ds, hbe, Int.toNat_natCast, q5, dp, qs, hb2, bl, mp, Nat.reduceAdd, Nat.reduceMul, Nat.reduceLT, Int.reduceToNat, Int.reduceAdd, Int.reduceSub, Int.reduceMul, rsU, s_bleD, Nat.reduceLeDiff, decide_true, decide_false]
      have e2A : e2 ∈ A ∧ e2 ≠ e := hM e2 (by simp)
      have cl := fun h1 h2 h3 h4 h5 => close _ ⟨x.h, x.P.set s to, x.R⟩ _ _ h1 h2 h3 (mk to) h4 h5
      obtain ⟨A', P', hA'⟩ := cl (Nat.le_refl _) ((s_bn (fun h => e2A.2 h.symm)).trans hbe) (fun y h1 h2 h3 => s_bn fun he => h3 (by simp [he])) (fun y hy => .inl hy) (by simp only [NV.cells, List.all_cons, Bool.and_eq_true]; exact mu)
      have e2ge := (P.lA e2 e2A.1).1
      refine Ok_some.2 ⟨rfl, ⟨l1, l2, .loc (.n e) 0 7, b, c, A', B, C, ?_, ?_⟩, ⟨O0.n, fun y h1 h2 => ?_⟩⟩
      · rw [s_bn (by omega), List.length_set]; exact h1
      · refine P.nodes l2 (Nat.le_refl _) P' (fun y hy => .inl ((hA' y hy).elim id fun h => (hM y h).1)) fun y hy => s_bn fun he => ?_
        subst he
        rcases hy with hy | hy
        · exact (P.lA y e2A.1).2.1 hy
        · exact (P.lA y e2A.1).2.2 hy
      · rw [s_bn (by omega)]; exact O0.o y h1 h2
  · have k3 : kind = 3 := by omega
    have d2 := s_eqF k2
    have d3 := s_eqT k3
    by_cases sp : slot ≥ x.R.length
    · have dp := decide_eq_true sp
      rw [if_pos (.inr (.inr ⟨k3, sp⟩))]
      simp -implicitDefEqProofs only [diff_one, diff_one_c, CV.cells, d0, d4, d5, d2, d3, da, h1, dn, wv, qi, d1, ds, hbe, Int.toNat_natCast, q6, dp, Nat.reduceAdd, Nat.reduceMul, Nat.reduceLT, Int.reduceToNat, Int.reduceAdd, Int.reduceSub, Int.reduceMul, rsU, s_bleD, Nat.reduceLeDiff, decide_true, decide_false]
      exact Ok_some.2 ⟨rfl, W0, O0⟩
    · obtain ⟨s, rfl⟩ : ∃ s : Nat, slot = s := ⟨slot.toNat, by omega⟩
      have hs : s < x.R.length := by omega
      have dp := decide_eq_false sp
      rw [if_neg (by omega), if_neg k2, Int.toNat_natCast]
      simp only [NV.cells, List.all_cons, Bool.and_eq_true] at mu
      obtain ⟨e2, rest, rfl, rfl, lt2, hb2, mk⟩ := NV.pokeR oA oB hd mu.2.2.2.2.2.2.1 hs
      have qs : (decide (0 ≤ (s : Int)) && decide ((s : Int) < (x.R.length : Int))) = true := by
        rw [decide_eq_true (show (0 : Int) ≤ (s : Int) by omega), decide_eq_true (show (s : Int) < (x.R.length : Int) by omega)]; rfl
      have bl := decide_eq_true (show s + 1 ≤ (x.R.map (AV.i .u64) ++ rest).length by simp <;> omega)
      have mp := map_poke (k := .u64) (rest := rest) (v := word) hs
      simp -implicitDefEqProofs only [diff_one, diff_one_c, CV.cells, d0, d4, d5, d2, d3, da, h1, dn, wv, qi, d1, ds, hbe, Int.toNat_natCast, q6, dp, qs, hb2, bl, mp, Nat.reduceAdd, Nat.reduceMul, Nat.reduceLT, Int.reduceToNat, Int.reduceAdd, Int.reduceSub, Int.reduceMul, rsU, s_bleD, Nat.reduceLeDiff, decide_true, decide_false]
      have e2A : e2 ∈ A ∧ e2 ≠ e := hM e2 (by simp)
      have cl := fun h1 h2 h3 h4 h5 => close _ ⟨x.h, x.P, x.R.set s word⟩ _ _ h1 h2 h3 (mk word) h4 h5
      obtain ⟨A', P', hA'⟩ := cl (Nat.le_refl _) ((s_bn (fun h => e2A.2 h.symm)).trans hbe) (fun y h1 h2 h3 => s_bn fun he => h3 (by simp [he])) (fun y hy => .inl hy) (by simp only [NV.cells, List.all_cons, Bool.and_eq_true]; exact mu)
      have e2ge := (P.lA e2 e2A.1).1
      refine Ok_some.2 ⟨rfl, ⟨l1, l2, .loc (.n e) 0 7, b, c, A', B, C, ?_, ?_⟩, ⟨O0.n, fun y h1 h2 => ?_⟩⟩
      · rw [s_bn (by omega), List.length_set]; exact h1
      · refine P.nodes l2 (Nat.le_refl _) P' (fun y hy => .inl ((hA' y hy).elim id fun h => (hM y h).1)) fun y hy => s_bn fun he => ?_
        subst he
        rcases hy with hy | hy
        · exact (P.lA y e2A.1).2.1 hy
        · exact (P.lA y e2A.1).2.2 hy
      · rw [s_bn (by omega)]; exact O0.o y h1 h2
end Go.Abs.Try
set_option linter.unusedSimpArgs false
set_option linter.unusedVariables false
set_option linter.unusedSectionVars false
set_option maxHeartbeats 1000000
namespace Go.Abs.Try
open Go Go.Abs
variable {O : Type}

theorem one_ok {σ : AH O} {fb base : Nat} {F : FV} {c : CV} {p q r : SA} (W : WF σ fb base F) (hF : F.nodes.length ≤ 10000000) (hp : Ints .i64 p c.whole.P) (hq : Ints .u64 q c.whole.R) (hr : Ints .i64 r c.list) (fc : c.few) : Ok (diff_one [.p (some (.n fb, 0)), .agg (c.cells p q r)] σ) fun s => s.1 = .i .i64 (one F c).1 ∧ WF s.2 fb base (one F c).2 ∧ Only σ s.2 fb base := by
  obtain ⟨kind, at_, slot, to, word, whole, list⟩ := c
  have W0 : WF ((σ.bump 1).put σ.next (.cells true T_diff_Change (CV.cells ⟨kind, at_, slot, to, word, whole, list⟩ p q r))) fb base F := W.keep (by simp) (by have := W.lt; have := W.le; ((try simp only [rsD] at *); simp -implicitDefEqProofs (disch := (first | omega | rfl | assumption | (simp only [rsD]; first | omega | assumption))) only [s_bs, s_bn, s_kn, bump_blk])) fun x h1 h2 => by ((try simp only [rsD] at *); simp -implicitDefEqProofs (disch := (first | omega | rfl | assumption | (simp only [rsD]; first | omega | assumption))) only [s_bs, s_bn, s_kn, bump_blk])
  have O0 : Only σ ((σ.bump 1).put σ.next (.cells true T_diff_Change (CV.cells ⟨kind, at_, slot, to, word, whole, list⟩ p q r))) fb base := ⟨by simp, fun x h1 h2 => by have := W.le; ((try simp only [rsD] at *); simp -implicitDefEqProofs (disch := (first | omega | rfl | assumption | (simp only [rsD]; first | omega | assumption))) only [s_bs, s_bn, s_kn, bump_blk])⟩
  have hno := W.lt
  have hle := W.le
  simp only at hp hq hr fc
  unfold CV.cells at W0 O0
  simp only at W0 O0
  by_cases k0 : kind = 0
  · have d0 := s_eqT k0
    simp (config := { maxSteps := 2000000 }) -implicitDefEqProofs (disch := (first | omega | rfl | assumption | (simp only [rsD]; first | omega | assumption))) only [diff_one, diff_one_c, CV.cells, d0, Nat.reduceAdd, Nat.reduceMul, Nat.reduceLT, Int.reduceToNat, Int.reduceAdd, Int.reduceSub, Int.reduceMul, rsU, rsC]
    refine Ok.step (size_ok W0 (n := to)) fun r hr => ?_
    obtain ⟨z, σ2⟩ := r
    unfold one
    rw [if_pos k0]
    simp only at hr ⊢
    split at hr
    · rename_i c
      rw [if_pos c]
      cases hr
      simp (config := { maxSteps := 2000000 }) -implicitDefEqProofs (disch := (first | omega | rfl | assumption | (simp only [rsD]; first | omega | assumption))) only [Nat.reduceAdd, Nat.reduceMul, Nat.reduceLT, Int.reduceToNat, Int.reduceAdd, Int.reduceSub, Int.reduceMul, rsU, rsC]
      exact Ok_some.2 ⟨rfl, W0, O0⟩
    · rename_i c
      rw [if_neg c]
      obtain ⟨g1, g2, g3⟩ := hr
      subst g1
      simp (config := { maxSteps := 2000000 }) -implicitDefEqProofs (disch := (first | omega | rfl | assumption | (simp only [rsD]; first | omega | assumption))) only [Nat.reduceAdd, Nat.reduceMul, Nat.reduceLT, Int.reduceToNat, Int.reduceAdd, Int.reduceSub, Int.reduceMul, rsU, rsC]
      exact Ok_some.2 ⟨rfl, g2, O0.trans g3⟩
  have d0 := s_eqF k0
  by_cases k4 : kind = 4
  · have d4 := s_eqT k4
    obtain ⟨l1, l2, a, b, c, A, B, C, h1, P⟩ := W0
    simp (config := { maxSteps := 2000000 }) -implicitDefEqProofs (disch := (first | omega | rfl | assumption | (simp only [rsD]; first | omega | assumption))) only [diff_one, diff_one_c, CV.cells, d0, d4, Nat.reduceAdd, Nat.reduceMul, Nat.reduceLT, Int.reduceToNat, Int.reduceAdd, Int.reduceSub, Int.reduceMul, rsU, rsC]
    refine Ok.step (clone_i hr fc.l) fun r ⟨a', g1, g2, g3⟩ => ?_
    obtain ⟨z, σ2⟩ := r
    simp only at g1 g2
    subst g1
    have h2 := (g2.e.blk fb (by simp; omega)).trans h1
    simp (config := { maxSteps := 2000000 }) -implicitDefEqProofs (disch := (first | omega | rfl | assumption | (simp only [rsD]; first | omega | assumption))) only [h2, Nat.reduceAdd, Nat.reduceMul, Nat.reduceLT, Int.reduceToNat, Int.reduceAdd, Int.reduceSub, Int.reduceMul, rsU, rsC]
    have n2 := g2.e.next
    simp only [rsD] at n2
    obtain ⟨E2, L, o2, hL⟩ := g2
    simp only [rsD] at hL
    have o2 := owl_one o2
    · have eo : one F ⟨kind, at_, slot, to, word, whole, list⟩ = (0, ⟨F.nodes, list, F.weak⟩) := by unfold one; rw [if_neg k0, if_pos k4]
      rw [eo]
      have no : ∀ x, base ≤ x → x ≠ fb := fun x h => by omega
      have lt1 := P.n.lt
      have lt3 := P.w.lt
      simp only [rsD] at lt1 lt3
      refine Ok_some.2 ⟨rfl, ⟨l1, by show base ≤ σ2.next; omega, a, a', c, A, L, C, s_bs, ⟨?_, ?_, ?_, ?_, ?_, P.lC⟩⟩, ⟨by show σ.next ≤ σ2.next; omega, fun x h1 h2 => ?_⟩⟩
      · exact (P.n.of E2.next fun x hx => E2.blk x (P.n.lt x hx)).of (Nat.le_refl _) fun x hx => s_bn (no x (P.lA x hx).1)
      · exact ow_put o2 fun hm => by have := hL _ hm; omega
      · exact ow_put (P.w.of E2.next fun x hx => E2.blk x (P.w.lt x hx)) fun hm => by have := P.lC _ hm; omega
      · exact fun x hx => ⟨(P.lA x hx).1, fun hm => by have := hL x hm; have := lt1 x hx; omega, (P.lA x hx).2.2⟩
      · exact fun x hx => ⟨by have := hL x hx; omega, fun hm => by have := hL x hx; have := lt3 x hm; omega⟩
      · rw [s_bn h2, E2.blk x (by simp; omega)]; exact O0.o x h1 h2
  have d4 := s_eqF k4
  by_cases k5 : kind = 5
  · have d5 := s_eqT k5
    obtain ⟨l1, l2, a, b, c, A, B, C, h1, P⟩ := W0
    simp (config := { maxSteps := 2000000 }) -implicitDefEqProofs (disch := (first | omega | rfl | assumption | (simp only [rsD]; first | omega | assumption))) only [diff_one, diff_one_c, CV.cells, d0, d4, d5, Nat.reduceAdd, Nat.reduceMul, Nat.reduceLT, Int.reduceToNat, Int.reduceAdd, Int.reduceSub, Int.reduceMul, rsU, rsC]
    refine Ok.step (clone_i hr fc.l) fun r ⟨a', g1, g2, g3⟩ => ?_
    obtain ⟨z, σ2⟩ := r
    simp only at g1 g2
    subst g1
    have h2 := (g2.e.blk fb (by simp; omega)).trans h1
    simp (config := { maxSteps := 2000000 }) -implicitDefEqProofs (disch := (first | omega | rfl | assumption | (simp only [rsD]; first | omega | assumption))) only [h2, Nat.reduceAdd, Nat.reduceMul, Nat.reduceLT, Int.reduceToNat, Int.reduceAdd, Int.reduceSub, Int.reduceMul, rsU, rsC]
    have n2 := g2.e.next
    simp only [rsD] at n2
    obtain ⟨E2, L, o2, hL⟩ := g2
    simp only [rsD] at hL
    have o2 := owl_one o2
    · have eo : one F ⟨kind, at_, slot, to, word, whole, list⟩ = (0, ⟨F.nodes, F.roots, list⟩) := by unfold one; rw [if_neg k0, if_neg k4, if_pos k5]
      rw [eo]
      have no : ∀ x, base ≤ x → x ≠ fb := fun x h => by omega
      have lt1 := P.n.lt
      have lt3 := P.r.lt
      simp only [rsD] at lt1 lt3
      refine Ok_some.2 ⟨rfl, ⟨l1, by show base ≤ σ2.next; omega, a, b, a', A, B, L, s_bs, ⟨?_, ?_, ?_, ?_, ?_, ?_⟩⟩, ⟨by show σ.next ≤ σ2.next; omega, fun x h1 h2 => ?_⟩⟩
      · exact (P.n.of E2.next fun x hx => E2.blk x (P.n.lt x hx)).of (Nat.le_refl _) fun x hx => s_bn (no x (P.lA x hx).1)
      · exact ow_put (P.r.of E2.next fun x hx => E2.blk x (P.r.lt x hx)) fun hm => by have := (P.lB _ hm).1; omega
      · exact ow_put o2 fun hm => by have := hL _ hm; omega
      · exact fun x hx => ⟨(P.lA x hx).1, (P.lA x hx).2.1, fun hm => by have := hL x hm; have := lt1 x hx; omega⟩
      · exact fun x hx => ⟨(P.lB x hx).1, fun hm => by have := hL x hm; have := lt3 x hx; omega⟩
      · exact fun x hx => by have := hL x hx; omega
      · rw [s_bn h2, E2.blk x (by simp; omega)]; exact O0.o x h1 h2
  exact one_deep W hF hp hq hr fc k0 k4 k5
end Go.Abs.Try
