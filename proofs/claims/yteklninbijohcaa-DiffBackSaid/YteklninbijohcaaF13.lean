/-
  Changes are applied, all of them: when none fails. No conditions.
-/
import Derived.Test.YteklninbijohcaaF12
set_option linter.unusedVariables false
set_option linter.unusedSimpArgs false
set_option linter.constructorNameAsVariable false
set_option linter.unusedSimpArgs false
set_option linter.unusedVariables false
set_option linter.unusedSectionVars false
set_option maxHeartbeats 1000000
namespace Go.Abs.Try
open Go Go.Abs
variable {O : Type}

theorem upto_snoc (F : FV) : ∀ (l : List CV) (c : CV), upto F (l ++ [c]) = (upto F l).bind fun G => if (one G c).1 = 0 then some (one G c).2 else none
  | [], c => by simp [upto]
  | d :: l, c => by
    have ih := upto_snoc (one F d).2 l c
    simp only [List.cons_append, upto]
    split
    · exact ih
    · rfl
theorem upto_app (F : FV) : ∀ (l m : List CV), upto F (l ++ m) = (upto F l).bind fun G => upto G m
  | [], m => by simp [upto]
  | d :: l, m => by
    have ih := upto_app (one F d).2 l m
    simp only [List.cons_append, upto]
    split
    · exact ih
    · rfl
theorem upto_take (F : FV) {l : List CV} {n : Nat} {c : CV} (hc : l[n]? = some c) : upto F (l.take (n + 1)) = (upto F (l.take n)).bind fun G => if (one G c).1 = 0 then some (one G c).2 else none := by
  rw [List.take_add_one, hc, Option.toList_some, upto_snoc]
def _root_.Go.Abs.FV.row (F : FV) : List TV := [.sl T_canon_Node 7 F.nodes.length (F.nodes.flatMap NV.row), ints .i64 F.roots, ints .i64 F.weak]
theorem _root_.Go.Abs.FV.row_at {F : FV} {vs : List AV} (h : ImL F.row vs) : F.At (.agg vs) := by
  cases h with
  | cons h1 hc =>
    cases hc with
    | cons h2 hc =>
      cases hc with
      | cons h3 hc =>
        cases hc
        obtain ⟨a, rfl, g1⟩ := Row.of NV.len h1 rfl
        obtain ⟨b, rfl, g2⟩ := ints_un h2
        obtain ⟨c, rfl, g3⟩ := ints_un h3
        exact ⟨a, b, c, rfl, g1, g2, g3⟩
theorem _root_.Go.Abs.FV.deep (G : FV) : ∀ t ∈ G.row, t.deep 5 := by
  intro t ht
  simp only [FV.row, List.mem_cons, List.not_mem_nil, or_false] at ht
  rcases ht with rfl | rfl | rfl
  · exact rows_deep (d := 4) fun x => NV.deep x 3
  · exact ints_deep _ _ 4
  · exact ints_deep _ _ 4
theorem apply_ok {σ : AH O} {F G : FV} {v : AV} {a : SA} {l : List CV} (hF : F.At v) (fF : F.few) (hl : Chgs a l) (fl : ∀ c ∈ l, c.few) (hn : l.length ≤ 100000000) (hu : upto F l = some G) : Ok (diff_Apply [v, .sl a l.length] σ) fun r => (∃ vs, r.1 = .tup (.agg vs :: [.i .i64 0, .i .i64 0]) ∧ ImL G.row vs) ∧ Ext σ r.2 := by
  obtain ⟨a1, b1, c1, rfl, iN, iR, iW⟩ := id hF
  refine frz_aggs (G.deep) rfl ?_
  simp (config := { maxSteps := 2000000 }) -implicitDefEqProofs (disch := (first | omega | rfl | assumption | (simp only [rsD]; first | omega | assumption))) only [diff_Apply_c, Nat.reduceAdd, Nat.reduceMul, Nat.reduceLT, Int.reduceToNat, Int.reduceAdd, Int.reduceSub, Int.reduceMul, rsU, rsC]
  have hF' : F.At (.agg [.sl a1 F.nodes.length, .sl b1 F.roots.length, .sl c1 F.weak.length]) := hF
  refine Ok.step (copied_ok hF' fF) fun r ⟨a2, b2, c2, A, B, C, g1, P, E⟩ => ?_
  obtain ⟨z, σ1⟩ := r
  simp only at g1 P E
  subst g1
  have x1 := E.next
  simp only [rsD] at x1 P
  simp (config := { maxSteps := 2000000 }) -implicitDefEqProofs (disch := (first | omega | rfl | assumption | (simp only [rsD]; first | omega | assumption))) only [Nat.reduceAdd, Nat.reduceMul, Nat.reduceLT, Int.reduceToNat, Int.reduceAdd, Int.reduceSub, Int.reduceMul, rsU, rsC]
  have lw : ∀ y, y < σ.next → σ1.blk y = σ.blk y := fun y hy => by ((have x0 := (E).next); (try simp only [rsD] at *); simp -implicitDefEqProofs (disch := (first | omega | rfl | assumption | (simp only [rsD]; first | omega | assumption))) only [s_bs, s_bn, s_kn, bump_blk, s_ext (E)])
  have bz : σ1.blk (σ.next + 1) = some (.cells true T_canon_Form [.sl .nil 0, .sl .nil 0, .sl .nil 0]) := by ((have x0 := (E).next); (try simp only [rsD] at *); simp -implicitDefEqProofs (disch := (first | omega | rfl | assumption | (simp only [rsD]; first | omega | assumption))) only [s_bs, s_bn, s_kn, bump_blk, s_ext (E)])
  have W0 : WF (σ1.put (σ.next + 2) (.cells true T_canon_Form [.sl a2 F.nodes.length, .sl b2 F.roots.length, .sl c2 F.weak.length])) (σ.next + 2) (σ.next + 3) F :=
    ⟨by omega, by show σ.next + 3 ≤ σ1.next; omega, a2, b2, c2, A, B, C, s_bs, P.of (Nat.le_refl _) fun y h1 h2 => s_bn (by omega)⟩
  generalize hs7 : AH.put (AH.put (AH.bump σ 2) _ _) _ _ = s7 at *
  have n7 : s7.next = σ.next + 2 := by rw [← hs7]; rfl
  have lp : Ok (loopF (S := List AV × AH O) (T := (List AV × AH O) ⊕ (AV × AH O)) (diff_Apply_L1 (a, l.length) diff_one s7 σ) ([.i .i64 0], σ1.put (σ.next + 2) (.cells true T_canon_Form [.sl a2 F.nodes.length, .sl b2 F.roots.length, .sl c2 F.weak.length]))) fun r => ∃ σ', r = .inl ([], σ') ∧ WF σ' (σ.next + 2) (σ.next + 3) G ∧ Only (σ1.put (σ.next + 2) (.cells true T_canon_Form [.sl a2 F.nodes.length, .sl b2 F.roots.length, .sl c2 F.weak.length])) σ' (σ.next + 2) (σ.next + 3) := by
    generalize hs8 : AH.put σ1 _ _ = s8 at *
    have bz8 : s8.blk (σ.next + 1) = some (.cells true T_canon_Form [.sl .nil 0, .sl .nil 0, .sl .nil 0]) := by rw [← hs8, s_bn (by omega)]; exact bz
    refine Ok.count l.length (fun k st => ∃ σ' H, st = ([.i .i64 (k : Int)], σ') ∧ upto F (l.take k) = some H ∧ H.nodes.length ≤ 10000000 ∧ WF σ' (σ.next + 2) (σ.next + 3) H ∧ Only s8 σ' (σ.next + 2) (σ.next + 3)) ?_ ?_ ⟨s8, F, rfl, rfl, by have := fF.n; omega, W0, Only.refl _ _ _⟩
    · rintro k st hk ⟨σ3, H, rfl, u3, b3, W3, Y3⟩
      obtain ⟨c, hc⟩ : ∃ c, l[k]? = some c := ⟨_, List.getElem?_eq_getElem hk⟩
      rw [← n7] at W3 Y3
      have st := apply_step (s := σ) hl hc (fl c (List.mem_of_getElem? hc)) hn W3 b3 (by omega) ((Y3.o _ (by omega) (by omega)).trans bz8)
      have hu' := upto_take F hc
      rw [u3, Option.bind_some] at hu'
      by_cases e : (one H c).1 = 0
      · simp only [if_pos e] at st hu'
        refine st.mono ?_
        rintro _ ⟨σ4, rfl, W4, Y4⟩
        rw [n7] at W4 Y4 Y3
        exact ⟨σ4, _, rfl, hu', one_len _ _ b3, W4, Y3.trans Y4⟩
      · exfalso
        simp only [if_neg e] at hu'
        rw [← List.take_append_drop (k + 1) l, upto_app, hu', Option.bind_none] at hu
        cases hu
    · rintro st ⟨σ3, H, rfl, u3, b3, W3, Y3⟩
      simp (config := { maxSteps := 2000000 }) -implicitDefEqProofs (disch := (first | omega | rfl | assumption | (simp only [rsD]; first | omega | assumption))) only [diff_Apply_L1, Nat.reduceAdd, Nat.reduceMul, Nat.reduceLT, Int.reduceToNat, Int.reduceAdd, Int.reduceSub, Int.reduceMul, rsU, rsC]
      rw [List.take_length, hu] at u3
      cases u3
      exact Ok_some.2 ⟨σ3, rfl, W3, Y3⟩
  refine Ok.bindS lp ?_ (fun r hh => by obtain ⟨_, e, _⟩ := hh; cases e)
  rintro _ ⟨σ3, e3, ⟨_, q2, a', b', c', A', B', C', q3, P'⟩, Y⟩
  cases e3
  have bz3 : σ3.blk (σ.next + 1) = some (.cells true T_canon_Form [.sl .nil 0, .sl .nil 0, .sl .nil 0]) := by rw [Y.o _ (by omega) (by omega), s_bn (by omega)]; exact bz
  simp (config := { maxSteps := 2000000 }) -implicitDefEqProofs (disch := (first | omega | rfl | assumption | (simp only [rsD]; first | omega | assumption))) only [q3, bz3, Nat.reduceAdd, Nat.reduceMul, Nat.reduceLT, Int.reduceToNat, Int.reduceAdd, Int.reduceSub, Int.reduceMul, rsU, rsC]
  have no : ∀ y, σ.next + 3 ≤ y → y ≠ σ.next + 1 := fun y h => by omega
  have P2 := P'.of (σ' := σ3.put (σ.next + 1) (.cells true T_canon_Form [.sl a' G.nodes.length, .sl b' G.roots.length, .sl c' G.weak.length])) (Nat.le_refl _) fun y h1 h2 => s_bn (no y h1)
  have o := OwL.cons P2.n.ow (OwL.cons P2.r (OwL.cons P2.w .nil (by simp)) (fun y hy hm => (P2.lB y hy).2 (by simpa using hm))) (fun y hy hm => by
    rcases List.mem_append.1 hm with hm | hm
    · exact (P2.lA y hy).2.1 hm
    · exact (P2.lA y hy).2.2 (by simpa using hm))
  refine Ok_some.2 ⟨_, rfl, ⟨by have := Y.n; show σ.next ≤ σ3.next; omega, fun y hy => ?_⟩, _, o, fun y hy => ?_⟩
  · rw [s_bn (by omega), Y.o y (by omega) (by omega), s_bn (by omega)]; exact lw y hy
  · simp only [List.mem_append, List.append_nil] at hy
    rcases hy with hy | hy | hy
    · have := (P2.lA y hy).1; omega
    · have := (P2.lB y hy).1; omega
    · have := P2.lC y hy; omega
end Go.Abs.Try
