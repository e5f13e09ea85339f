/-
  Apply, the document's. No conditions.
-/
import Derived.Test.YteklninbijohcaaE95
import Derived.Test.YteklninbijohcaaF93
import Derived.Test.YteklninbijohcaaE92
import Derived.Test.YteklninbijohcaaS4u
set_option linter.unusedVariables false
set_option linter.unusedSimpArgs false
set_option linter.constructorNameAsVariable false
set_option linter.unusedSimpArgs false
set_option linter.unusedVariables false
set_option linter.unusedSectionVars false
set_option maxHeartbeats 4000000
set_option maxRecDepth 100000
namespace Go.Abs.Try
open Go Go.Abs
variable {O : Type}

structure _root_.Go.Abs.FV.med (F : FV) : Prop where
  n : F.nodes.length ≤ 10000000
  x : ∀ x ∈ F.nodes, x.few
theorem one_med {F : FV} {c : CV} (h : F.med) (hc : c.few) : (one F c).2.med := by
  refine ⟨one_len F c h.n, fun y hy => ?_⟩
  have st : ∀ (k : Nat) (z : NV), z.few → y ∈ F.nodes.set k z → y.few := fun k z hz hm => by
    rcases List.mem_or_eq_of_mem_set hm with hm | rfl
    · exact h.x y hm
    · exact hz
  unfold one at hy
  split at hy
  · split at hy
    · exact h.x y hy
    · simp only [sized] at hy
      have := List.mem_of_mem_take hy
      rcases List.mem_append.1 this with hm | hm
      · exact h.x y hm
      · rw [(List.mem_replicate.1 hm).2]; exact zero_few
  · split at hy
    · exact h.x y hy
    · split at hy
      · exact h.x y hy
      · split at hy
        · exact h.x y hy
        · split at hy
          · exact h.x y hy
          · split at hy
            · exact h.x y hy
            · next x hx =>
              have fx := h.x x (List.mem_of_getElem? hx)
              split at hy
              · exact st _ _ hc.w hy
              · split at hy
                · exact h.x y hy
                · split at hy
                  · exact st _ ⟨x.h, x.P.set c.slot.toNat c.to, x.R⟩ ⟨by simpa using fx.p, fx.r⟩ hy
                  · exact st _ ⟨x.h, x.P, x.R.set c.slot.toNat c.word⟩ ⟨fx.p, by simpa using fx.r⟩ hy
theorem rone_ok {σ : AH O} {F : FV} {v : AV} {c : CV} {p q r : SA} (hF : F.At v) (m : F.med) (hp : Ints .i64 p c.whole.P) (hq : Ints .u64 q c.whole.R) (hr : Ints .i64 r c.list) :
    Ok (haymowref47_one [v, .agg (c.cells p q r)] σ) fun s => (∃ w, s.1 = .tup [w, .i .i64 (one F c).1] ∧ (one F c).2.At w) ∧ Ext σ s.2 := by
  have fin : Ok (haymowref47_one [v, .agg (c.cells p q r)] σ) fun s => (∃ vs, s.1 = .tup (.agg vs :: [.i .i64 (one F c).1]) ∧ ImL ((one F c).2.rowE T_haymowref40_Node) vs) ∧ Ext σ s.2 := by
    refine frz_aggs (FV.deepE _ (d := 3)) rfl ?_
    obtain ⟨a, b, d, rfl, iN, iR, iW⟩ := hF.it
    by_cases h0 : c.kind = 0
    · exact rone_0 iN iR iW m.n h0
    · by_cases h1 : 1 ≤ c.kind ∧ c.kind ≤ 3
      · rcases (show c.kind = 1 ∨ c.kind = 2 ∨ c.kind = 3 by omega) with e | e | e
        · exact rone_1 iN iR iW m.n m.x hp hq e
        · exact rone_2 iN iR iW m.n m.x hp hq e
        · exact rone_3 iN iR iW m.n m.x hp hq e
      · exact rone_45 iN iR iW hr h0 h1
  refine fin.mono ?_
  rintro ⟨z, σ'⟩ ⟨⟨vs, h1, h2⟩, h3⟩
  exact ⟨⟨_, h1, FV.rowE_at h2⟩, h3⟩
theorem appl_app : ∀ {F H : FV} {l1 : List CV} (n : Nat) (l2 : List CV), upto F l1 = some H → appl F n (l1 ++ l2) = appl H (n + l1.length) l2
  | F, H, [], n, l2, h => by cases h; rfl
  | F, H, c :: l1, n, l2, h => by
    unfold upto at h
    by_cases e : (one F c).1 = 0
    · rw [if_pos e] at h
      have := appl_app (n + 1) l2 h
      rw [List.cons_append]
      unfold appl
      rw [if_pos e, this, List.length_cons, show n + 1 + l1.length = n + (l1.length + 1) by omega]
      cases l2 <;> rfl
    · rw [if_neg e] at h; cases h
theorem appl_all {F G : FV} {l : List CV} (h : upto F l = some G) : appl F 0 l = (G, 0, 0) := by
  have := appl_app 0 [] h
  rw [List.append_nil] at this
  rw [this]; rfl
theorem appl_bad {F H : FV} {l : List CV} {k : Nat} {c : CV} (h : upto F (l.take k) = some H) (hc : l[k]? = some c) (he : (one H c).1 ≠ 0) : appl F 0 l = (FV.zero, (k : Int), (one H c).1) := by
  have hk := (List.getElem?_eq_some_iff.1 hc)
  obtain ⟨hk, hk2⟩ := hk
  have e : l = l.take k ++ c :: l.drop (k + 1) := by
    rw [← hk2, List.getElem_cons_drop, List.take_append_drop]
  rw [e, appl_app 0 _ h]
  unfold appl
  rw [if_neg he, List.length_take, Nat.zero_add, show min k l.length = k by omega]
/-- between two changes -/
structure RaI (σ : AH O) (H : FV) (σ' : AH O) : Prop where
  it : ∃ a b c, σ'.blk σ.next = some (.cells true T_haymowref40_Form [.sl a H.nodes.length, .sl b H.roots.length, .sl c H.weak.length]) ∧ Nodes a H.nodes ∧ Ints .i64 b H.roots ∧ Ints .i64 c H.weak
  z : σ'.blk (σ.next + 1) = some (.cells true T_haymowref40_Form [.sl .nil 0, .sl .nil 0, .sl .nil 0])
  n : σ.next + 2 ≤ σ'.next
  f : ∀ y, y < σ.next → σ'.blk y = σ.blk y
theorem rapply_ok {σ : AH O} {F : FV} {v : AV} {a : SA} {l : List CV} (hF : F.At v) (mF : F.med) (hl : Chgs a l) (fl : ∀ c ∈ l, c.few) (hn : l.length ≤ 100000000) :
    Ok (haymowref47_Apply [v, .sl a l.length] σ) fun s => (∃ w, s.1 = .tup [w, .i .i64 (appl F 0 l).2.1, .i .i64 (appl F 0 l).2.2] ∧ (appl F 0 l).1.At w) ∧ Ext σ s.2 := by
  have fin : Ok (haymowref47_Apply [v, .sl a l.length] σ) fun s => (∃ vs, s.1 = .tup (.agg vs :: [.i .i64 (appl F 0 l).2.1, .i .i64 (appl F 0 l).2.2]) ∧ ImL ((appl F 0 l).1.rowE T_haymowref40_Node) vs) ∧ Ext σ s.2 := by
    refine frz_aggs (FV.deepE _ (d := 3)) rfl ?_
    obtain ⟨a1, b1, c1, rfl, iN, iR, iW⟩ := hF.it
    simp (config := { maxSteps := 2000000 }) -implicitDefEqProofs (disch := (first | omega | rfl | assumption | (simp only [rsD]; first | omega | assumption))) only [haymowref47_Apply_c, Nat.reduceAdd, Nat.reduceMul, Nat.reduceLT, Int.reduceToNat, Int.reduceAdd, Int.reduceSub, Int.reduceMul, rsU, rsC]
    generalize hs : AH.put _ (σ.next + 1) _ = s1
    have I0 : RaI σ F s1 := ⟨⟨a1, b1, c1, by rw [← hs]; ((try simp only [rsD] at *); simp -implicitDefEqProofs (disch := (first | omega | rfl | assumption | (simp only [rsD]; first | omega | assumption))) only [s_bs, s_bn, s_kn, bump_blk]), iN, iR, iW⟩, by rw [← hs]; exact s_bs, by rw [← hs]; simp, fun y hy => by rw [← hs]; ((try simp only [rsD] at *); simp -implicitDefEqProofs (disch := (first | omega | rfl | assumption | (simp only [rsD]; first | omega | assumption))) only [s_bs, s_bn, s_kn, bump_blk])⟩
    clear hs
    refine Ok.bindS (Q := fun r => (∃ H σ', r = .inl ([], σ') ∧ upto F l = some H ∧ RaI σ H σ') ∨ (∃ σ', r = .inr (.tup [.agg [.sl .nil 0, .sl .nil 0, .sl .nil 0], .i .i64 (appl F 0 l).2.1, .i .i64 (appl F 0 l).2.2], σ') ∧ (appl F 0 l).1 = FV.zero ∧ Ext σ σ')) ?_ ?_ ?_
    · refine Ok.count l.length (fun k st => ∃ H σ', st = ([.i .i64 (k : Int)], σ') ∧ upto F (l.take k) = some H ∧ H.med ∧ RaI σ H σ') ?_ ?_ ⟨F, s1, rfl, rfl, mF, I0⟩
      · rintro k st hk ⟨H, σ', rfl, u, mH, ⟨a2, b2, c2, x0, jN, jR, jW⟩, z0, nn, ff⟩
        obtain ⟨c, hc⟩ : ∃ c, l[k]? = some c := ⟨_, List.getElem?_eq_getElem hk⟩
        obtain ⟨b, o, p, q, r, rfl, hp, hq, hr, ld⟩ := chg_at hl hc
        have fc := fl c (List.mem_of_getElem? hc)
        have di := decide_eq_true (show (k : Int) < (l.length : Int) by omega)
        have d0 := ld O σ' 0 (by decide)
        have d1 := ld O σ' 1 (by decide)
        have d2 := ld O σ' 2 (by decide)
        have d3 := ld O σ' 3 (by decide)
        have d4 := ld O σ' 4 (by decide)
        have d5 := ld O σ' 5 (by decide)
        have d6 := ld O σ' 6 (by decide)
        have d7 := ld O σ' 7 (by decide)
        have d8 := ld O σ' 8 (by decide)
        have d9 := ld O σ' 9 (by decide)
        have d10 := ld O σ' 10 (by decide)
        have d11 := ld O σ' 11 (by decide)
        have d12 := ld O σ' 12 (by decide)
        simp only [Nat.add_zero, CV.cells, List.getElem?_cons_zero, List.getElem?_cons_succ] at d0 d1 d2 d3 d4 d5 d6 d7 d8 d9 d10 d11 d12
        simp (config := { maxSteps := 2000000 }) -implicitDefEqProofs (disch := (first | omega | rfl | assumption | (simp only [rsD]; first | omega | assumption))) only [haymowref47_Apply_L1, x0, di, d0, d1, d2, d3, d4, d5, d6, d7, d8, d9, d10, d11, d12, Nat.reduceAdd, Nat.reduceMul, Nat.reduceLT, Int.reduceToNat, Int.reduceAdd, Int.reduceSub, Int.reduceMul, rsU, rsC]
        have ro := rone_ok (σ := σ') (c := c) ⟨a2, b2, c2, rfl, jN, jR, jW⟩ mH hp hq hr
        unfold CV.cells at ro
        refine Ok.step ro fun t ⟨⟨w, g1, g2⟩, E2⟩ => ?_
        obtain ⟨z, σ2⟩ := t
        simp only at g1 E2
        subst g1
        obtain ⟨a3, b3, c3, rfl, kN, kR, kW⟩ := g2.it
        have n2 := E2.next
        have y0 := (E2.blk σ.next (by omega)).trans x0
        have yz := (E2.blk (σ.next + 1) (by omega)).trans z0
        have ut := upto_take F hc
        rw [u, Option.bind_some] at ut
        by_cases e : (one H c).1 = 0
        · have q1 := s_eqT e
          rw [if_pos e] at ut
          simp (config := { maxSteps := 2000000 }) -implicitDefEqProofs (disch := (first | omega | rfl | assumption | (simp only [rsD]; first | omega | assumption))) only [y0, q1, Nat.reduceAdd, Nat.reduceMul, Nat.reduceLT, Int.reduceToNat, Int.reduceAdd, Int.reduceSub, Int.reduceMul, rsU, rsC]
          refine Ok_some.2 ⟨_, _, rfl, ut, one_med mH fc, ⟨a3, b3, c3, s_bs, kN, kR, kW⟩, ?_, ?_, fun y hy => ?_⟩
          · rw [s_bn (by omega)]; exact yz
          · simp only [rsD]; omega
          · rw [s_bn (by omega), E2.blk y (by omega)]; exact ff y hy
        · have q1 := s_eqF e
          have ab := appl_bad u hc e
          simp (config := { maxSteps := 2000000 }) -implicitDefEqProofs (disch := (first | omega | rfl | assumption | (simp only [rsD]; first | omega | assumption))) only [y0, yz, q1, Nat.reduceAdd, Nat.reduceMul, Nat.reduceLT, Int.reduceToNat, Int.reduceAdd, Int.reduceSub, Int.reduceMul, rsU, rsC]
          rw [ab]
          refine Ok_some.2 (.inr ⟨_, rfl, rfl, ?_⟩)
          exact ⟨by simp only [rsD]; omega, fun y hy => by rw [s_bn (by omega), s_bn (by omega), E2.blk y (by omega)]; exact ff y hy⟩
      · rintro st ⟨H, σ', rfl, u, mH, I⟩
        simp (config := { maxSteps := 2000000 }) -implicitDefEqProofs (disch := (first | omega | rfl | assumption | (simp only [rsD]; first | omega | assumption))) only [haymowref47_Apply_L1, Nat.reduceAdd, Nat.reduceMul, Nat.reduceLT, Int.reduceToNat, Int.reduceAdd, Int.reduceSub, Int.reduceMul, rsU, rsC]
        rw [List.take_length] at u
        exact Ok_some.2 (.inl ⟨H, σ', rfl, u, I⟩)
    · rintro _ (⟨H, σ', e, u, ⟨a2, b2, c2, x0, jN, jR, jW⟩, z0, nn, ff⟩ | ⟨_, e, _⟩)
      · cases e
        have aa := appl_all u
        simp (config := { maxSteps := 2000000 }) -implicitDefEqProofs (disch := (first | omega | rfl | assumption | (simp only [rsD]; first | omega | assumption))) only [x0, z0, Nat.reduceAdd, Nat.reduceMul, Nat.reduceLT, Int.reduceToNat, Int.reduceAdd, Int.reduceSub, Int.reduceMul, rsU, rsC]
        rw [aa]
        have EE : ∀ X : Blk O, Ext σ (σ'.put (σ.next + 1) X) := fun X => ⟨by simp only [rsD]; omega, fun y hy => by rw [s_bn (by omega)]; exact ff y hy⟩
        exact Ok_some.2 ⟨_, rfl, New.im (.cons (jN.im _) (.cons (ints_mk jR) (.cons (ints_mk jW) .nil))) (EE _)⟩
      · cases e
    · rintro _ (⟨_, _, e, _⟩ | ⟨σ', e, ez, E⟩)
      · cases e
      · cases e
        refine ⟨_, rfl, ?_⟩
        rw [ez]
        exact New.im (.cons (Row.im (Row.nil NV.len) _) (.cons (ints_mk (nil_ints _)) (.cons (ints_mk (nil_ints _)) .nil))) E
  refine fin.mono ?_
  rintro ⟨z, σ'⟩ ⟨⟨vs, h1, h2⟩, h3⟩
  exact ⟨⟨_, h1, FV.rowE_at h2⟩, h3⟩
end Go.Abs.Try
set_option linter.unusedSimpArgs false
set_option linter.unusedVariables false
set_option linter.unusedSectionVars false
set_option maxHeartbeats 4000000
set_option maxRecDepth 100000
namespace Go.Abs.Try
open Go Go.Abs
variable {O : Type}

theorem lref1_ok {σ : AH O} {c : CV} {p q r : SA} (fc : c.few) (hp : Ints .i64 p c.whole.P) (hq : Ints .u64 q c.whole.R) (hr : Ints .i64 r c.list) :
    Ok (law47_ref [.agg (c.cells p q r)] σ) fun s => (∃ p' q' r', s.1 = .agg (c.cells p' q' r') ∧ Ints .i64 p' c.whole.P ∧ Ints .u64 q' c.whole.R ∧ Ints .i64 r' c.list) ∧ Ext σ s.2 := by
  have fin : Ok (law47_ref [.agg (c.cells p q r)] σ) fun s => (∃ vs, s.1 = .agg vs ∧ ImL c.row vs) ∧ Ext σ s.2 := by
    refine frz_agg (fun t ht => CV.deep c 5 t ht) ?_
    simp (config := { maxSteps := 2000000 }) -implicitDefEqProofs (disch := (first | omega | rfl | assumption | (simp only [rsD]; first | omega | assumption))) only [law47_ref_c, CV.cells, Nat.reduceAdd, Nat.reduceMul, Nat.reduceLT, Int.reduceToNat, Int.reduceAdd, Int.reduceSub, Int.reduceMul, rsU, rsC]
    generalize hs : AH.put _ (σ.next + 2) _ = s1
    have n1 : s1.next = σ.next + 4 := by rw [← hs]; rfl
    have x0 : s1.blk σ.next = some (.cells true T_diff_Change (c.cells p q r)) := by rw [← hs]; ((try simp only [rsD] at *); simp -implicitDefEqProofs (disch := (first | omega | rfl | assumption | (simp only [rsD]; first | omega | assumption))) only [s_bs, s_bn, s_kn, bump_blk]) <;> rfl
    have x1 : s1.blk (σ.next + 1) = some (.cells true T_haymowref47_Change [.i .i64 0, .i .i64 0, .i .i64 0, .i .i64 0, .i .u64 0, .i .i64 0, .i .i64 0, .i .i64 0, .i .i64 0, .b false, .sl .nil 0, .sl .nil 0, .sl .nil 0]) := by rw [← hs]; ((try simp only [rsD] at *); simp -implicitDefEqProofs (disch := (first | omega | rfl | assumption | (simp only [rsD]; first | omega | assumption))) only [s_bs, s_bn, s_kn, bump_blk])
    have x2 : s1.blk (σ.next + 2) = some (.cells true T_canon_Node (c.whole.cells p q)) := by rw [← hs]; ((try simp only [rsD] at *); simp -implicitDefEqProofs (disch := (first | omega | rfl | assumption | (simp only [rsD]; first | omega | assumption))) only [s_bs, s_bn, s_kn, bump_blk]) <;> rfl
    have lo : ∀ y, y < σ.next → s1.blk y = σ.blk y := fun y hy => by rw [← hs]; ((try simp only [rsD] at *); simp -implicitDefEqProofs (disch := (first | omega | rfl | assumption | (simp only [rsD]; first | omega | assumption))) only [s_bs, s_bn, s_kn, bump_blk])
    clear hs
    have fz : fza (law40_Ref (O := O)) [.agg [.sl (.loc (.n (σ.next + 2)) 0 7) 1, .sl .nil 0, .sl .nil 0]] s1 = law40_Ref _ _ := fza_eq (frzL_step (node_frz hp hq x2) rfl)
    rw [fz]
    refine Ok.step (lref_ok (node_at hp hq) (node_few fc.w)) fun t ⟨g1, E2⟩ => ?_
    obtain ⟨z, σ2⟩ := t
    simp only at g1 E2
    obtain ⟨a', b', c', rfl, jN, jR, jW⟩ := g1.it
    have n2 := E2.next
    simp only [rsD] at n2
    obtain ⟨u, o, p', q', rfl, hp', hq', l1⟩ := jN.node (i := 0) rfl
    obtain ⟨l10, l11, l12, l13, l14, l15, l16⟩ := l1 O σ2
    rw [Nat.zero_mul, Nat.add_zero] at l10 l11 l12 l13 l14 l15 l16
    have y0 : σ2.blk σ.next = some (.cells true T_diff_Change (c.cells p q r)) := by rw [E2.blk _ (by simp only [rsD]; omega), s_bn (by omega), s_kn (by omega)]; exact x0
    have y1 : σ2.blk (σ.next + 1) = some (.cells true T_haymowref47_Change [.i .i64 0, .i .i64 0, .i .i64 0, .i .i64 0, .i .u64 0, .i .i64 0, .i .i64 0, .i .i64 0, .i .i64 0, .b false, .sl .nil 0, .sl .nil 0, .sl .nil 0]) := by rw [E2.blk _ (by simp only [rsD]; omega), s_bn (by omega), s_kn (by omega)]; exact x1
    unfold CV.cells at y0
    have t1 : ((1 : Nat) : Int) = 1 := rfl
    simp (config := { maxSteps := 2000000 }) -implicitDefEqProofs (disch := (first | omega | rfl | assumption | (simp only [rsD]; first | omega | assumption))) only [y0, y1, l10, l11, l12, l13, l14, l15, l16, t1, Nat.reduceAdd, Nat.reduceMul, Nat.reduceLT, Int.reduceToNat, Int.reduceAdd, Int.reduceSub, Int.reduceMul, rsU, rsC]
    have E3 : Ext σ σ2 := ⟨by omega, fun y hy => by rw [E2.blk y (by simp only [rsD]; omega), s_bn (by omega), s_kn (by omega)]; exact lo y hy⟩
    refine Ok_some.2 ⟨c.cells p' q' r, rfl, New.im (CV.mk_ hp' hq' hr) ?_⟩
    exact (ext_of (by (have x0 := (E3).next); (try simp only [rsD] at *); omega) (fun b hb => by (have x0 := (E3).next); (try simp only [rsD] at *); simp -implicitDefEqProofs (disch := (first | omega | rfl | assumption | (simp only [rsD]; first | omega | assumption))) only [s_bn, s_kn, bump_blk, s_ext (E3)]))
  refine fin.mono ?_
  rintro ⟨z, σ'⟩ ⟨⟨vs, h1, h2⟩, h3⟩
  obtain ⟨p', q', r', rfl, i1, i2, i3⟩ := CV.un h2
  exact ⟨⟨p', q', r', h1, i1, i2, i3⟩, h3⟩
theorem lrefs_ok {σ : AH O} {a : SA} {l : List CV} (hl : Chgs a l) (fl : ∀ c ∈ l, c.few) (hn : l.length ≤ 100000000) : Ok (law47_refs [.sl a l.length] σ) fun r => (∃ e, r.1 = .sl e l.length ∧ Chgs e l) ∧ Ext σ r.2 := by
  have fin : Ok (law47_refs [.sl a l.length] σ) fun r => Im (.sl T_haymowref47_Change 13 l.length (l.flatMap CV.row)) r.1 ∧ Ext σ r.2 := by
    refine frz_sl (rows_deep fun x => CV.deep x 5) ?_
    simp (config := { maxSteps := 2000000 }) -implicitDefEqProofs (disch := (first | omega | rfl | assumption | (simp only [rsD]; first | omega | assumption))) only [law47_refs_c, Nat.reduceAdd, Nat.reduceMul, Nat.reduceLT, Int.reduceToNat, Int.reduceAdd, Int.reduceSub, Int.reduceMul, rsU, rsC]
    refine Ok.step (Q := fun r => ∃ e σ', r = ([.sl e l.length], σ') ∧ BldO σ.next σ' T_haymowref47_Change 13 CV.row e l ∧ Ext σ σ') ?_ ?_
    · refine Ok.count l.length (fun k st => ∃ e σ', st = ([.sl e k, .i .i64 (k : Int)], σ') ∧ BldO σ.next σ' T_haymowref47_Change 13 CV.row e (l.take k) ∧ Ext σ σ') ?_ ?_ ⟨.nil, σ, rfl, BldO.nil _ _ _ CV.len, Ext.refl _⟩
      · rintro k st hk ⟨e, σ', rfl, B, E⟩
        obtain ⟨c, hc⟩ : ∃ c, l[k]? = some c := ⟨_, List.getElem?_eq_getElem hk⟩
        obtain ⟨b, o, p, q, r, rfl, hp, hq, hr, ld⟩ := chg_at hl hc
        have fc := fl c (List.mem_of_getElem? hc)
        have di := decide_eq_true (show (k : Int) < (l.length : Int) by omega)
        have d0 := ld O (σ'.bump 2) 0 (by decide)
        have d1 := ld O (σ'.bump 2) 1 (by decide)
        have d2 := ld O (σ'.bump 2) 2 (by decide)
        have d3 := ld O (σ'.bump 2) 3 (by decide)
        have d4 := ld O (σ'.bump 2) 4 (by decide)
        have d5 := ld O (σ'.bump 2) 5 (by decide)
        have d6 := ld O (σ'.bump 2) 6 (by decide)
        have d7 := ld O (σ'.bump 2) 7 (by decide)
        have d8 := ld O (σ'.bump 2) 8 (by decide)
        have d9 := ld O (σ'.bump 2) 9 (by decide)
        have d10 := ld O (σ'.bump 2) 10 (by decide)
        have d11 := ld O (σ'.bump 2) 11 (by decide)
        have d12 := ld O (σ'.bump 2) 12 (by decide)
        simp only [Nat.add_zero, CV.cells, List.getElem?_cons_zero, List.getElem?_cons_succ] at d0 d1 d2 d3 d4 d5 d6 d7 d8 d9 d10 d11 d12
        have tk : (l.take k).length = k := by simp; omega
        have tk1 : l.take (k + 1) = l.take k ++ [c] := by rw [List.take_add_one, hc]; rfl
        simp (config := { maxSteps := 2000000 }) -implicitDefEqProofs (disch := (first | omega | rfl | assumption | (simp only [rsD]; first | omega | assumption))) only [law47_refs_L1, di, d0, d1, d2, d3, d4, d5, d6, d7, d8, d9, d10, d11, d12, Nat.reduceAdd, Nat.reduceMul, Nat.reduceLT, Int.reduceToNat, Int.reduceAdd, Int.reduceSub, Int.reduceMul, rsU, rsC]
        have ro := lref1_ok (σ := σ'.bump 2) fc hp hq hr
        unfold CV.cells at ro
        refine Ok.step ro fun t ⟨⟨p', q', r', g1, i1, i2, i3⟩, E2⟩ => ?_
        obtain ⟨z, σ2⟩ := t
        simp only at g1 E2
        subst g1
        have n2 := E2.next
        simp only [rsD] at n2
        have hE := E.next
        simp (config := { maxSteps := 2000000 }) -implicitDefEqProofs (disch := (first | omega | rfl | assumption | (simp only [rsD]; first | omega | assumption))) only [Nat.reduceAdd, Nat.reduceMul, Nat.reduceLT, Int.reduceToNat, Int.reduceAdd, Int.reduceSub, Int.reduceMul, rsU, rsC]
        have pu := B.push (σ3 := σ2.put σ'.next (.cells true T_haymowref47_Change (c.cells p' q' r'))) (x := c) (nid := σ'.next + 1) hE (by simp only [rsD]; omega) (fun y h1 h2 => by rw [s_bn (by omega)]; exact E2.blk y (by simp only [rsD]; omega)) (CV.mk_ i1 i2 i3) (by omega) (by simp only [rsD]; omega)
        rw [tk, ← tk1] at pu
        unfold CV.cells at pu
        refine Ok.step pu fun t ⟨e', g1, g2, g3, g4⟩ => ?_
        obtain ⟨z, σ3⟩ := t
        simp only [rsD] at g1 g2 g3 g4
        subst g1
        simp (config := { maxSteps := 2000000 }) -implicitDefEqProofs (disch := (first | omega | rfl | assumption | (simp only [rsD]; first | omega | assumption))) only [Nat.reduceAdd, Nat.reduceMul, Nat.reduceLT, Int.reduceToNat, Int.reduceAdd, Int.reduceSub, Int.reduceMul, rsU, rsC]
        exact Ok_some.2 ⟨e', σ3, rfl, g2, ⟨by omega, fun y hy => by rw [g4 y hy, s_bn (by omega), E2.blk y (by simp only [rsD]; omega)]; exact E.blk y hy⟩⟩
      · rintro st ⟨e, σ', rfl, B, E⟩
        simp (config := { maxSteps := 2000000 }) -implicitDefEqProofs (disch := (first | omega | rfl | assumption | (simp only [rsD]; first | omega | assumption))) only [law47_refs_L1, Nat.reduceAdd, Nat.reduceMul, Nat.reduceLT, Int.reduceToNat, Int.reduceAdd, Int.reduceSub, Int.reduceMul, rsU, rsC]
        rw [List.take_length] at B
        exact Ok_some.2 ⟨e, σ', rfl, B, E⟩
    rintro _ ⟨e, σ', rfl, B, E⟩
    simp (config := { maxSteps := 2000000 }) -implicitDefEqProofs (disch := (first | omega | rfl | assumption | (simp only [rsD]; first | omega | assumption))) only [Nat.reduceAdd, Nat.reduceMul, Nat.reduceLT, Int.reduceToNat, Int.reduceAdd, Int.reduceSub, Int.reduceMul, rsU, rsC]
    exact Ok_some.2 (B.out E (Nat.le_refl _))
  refine fin.mono ?_
  rintro ⟨v, σ'⟩ ⟨h1, h2⟩
  exact ⟨Row.of CV.len h1 rfl, h2⟩
end Go.Abs.Try
set_option linter.unusedSimpArgs false
set_option linter.unusedVariables false
set_option linter.unusedSectionVars false
set_option maxHeartbeats 4000000
set_option maxRecDepth 100000
namespace Go.Abs.Try
open Go Go.Abs
variable {O : Type}

theorem apply_all {σ : AH O} {F : FV} {v : AV} {a : SA} {l : List CV} (hF : F.At v) (fF : F.few) (hl : Chgs a l) (fl : ∀ c ∈ l, c.few) (hn : l.length ≤ 100000000) : Ok (diff_Apply [v, .sl a l.length] σ) fun r => (∃ vs, r.1 = .tup (.agg vs :: [.i .i64 (appl F 0 l).2.1, .i .i64 (appl F 0 l).2.2]) ∧ ImL (appl F 0 l).1.row vs) ∧ Ext σ r.2 := by
  obtain ⟨a1, b1, c1, rfl, iN, iR, iW⟩ := id hF
  refine frz_aggs (FV.deep _) rfl ?_
  simp (config := { maxSteps := 2000000 }) -implicitDefEqProofs (disch := (first | omega | rfl | assumption | (simp only [rsD]; first | omega | assumption))) only [diff_Apply_c, Nat.reduceAdd, Nat.reduceMul, Nat.reduceLT, Int.reduceToNat, Int.reduceAdd, Int.reduceSub, Int.reduceMul, rsU, rsC]
  have hF' : F.At (.agg [.sl a1 F.nodes.length, .sl b1 F.roots.length, .sl c1 F.weak.length]) := hF
  refine Ok.step (copied_ok hF' fF) fun r ⟨a2, b2, c2, A, B, C, g1, P, E⟩ => ?_
  obtain ⟨z, σ1⟩ := r
  simp only at g1 P E
  subst g1
  have x1 := E.next
  simp only [rsD] at x1 P
  simp (config := { maxSteps := 2000000 }) -implicitDefEqProofs (disch := (first | omega | rfl | assumption | (simp only [rsD]; first | omega | assumption))) only [Nat.reduceAdd, Nat.reduceMul, Nat.reduceLT, Int.reduceToNat, Int.reduceAdd, Int.reduceSub, Int.reduceMul, rsU, rsC]
  have lw : ∀ y, y < σ.next → σ1.blk y = σ.blk y := fun y hy => by ((have x0 := (E).next); (try simp only [rsD] at *); simp -implicitDefEqProofs (disch := (first | omega | rfl | assumption | (simp only [rsD]; first | omega | assumption))) only [s_bs, s_bn, s_kn, bump_blk, s_ext (E)])
  have bz : σ1.blk (σ.next + 1) = some (.cells true T_canon_Form [.sl .nil 0, .sl .nil 0, .sl .nil 0]) := by ((have x0 := (E).next); (try simp only [rsD] at *); simp -implicitDefEqProofs (disch := (first | omega | rfl | assumption | (simp only [rsD]; first | omega | assumption))) only [s_bs, s_bn, s_kn, bump_blk, s_ext (E)])
  have W0 : WF (σ1.put (σ.next + 2) (.cells true T_canon_Form [.sl a2 F.nodes.length, .sl b2 F.roots.length, .sl c2 F.weak.length])) (σ.next + 2) (σ.next + 3) F :=
    ⟨by omega, by show σ.next + 3 ≤ σ1.next; omega, a2, b2, c2, A, B, C, s_bs, P.of (Nat.le_refl _) fun y h1 h2 => s_bn (by omega)⟩
  generalize hs7 : AH.put (AH.put (AH.bump σ 2) _ _) _ _ = s7 at *
  have n7 : s7.next = σ.next + 2 := by rw [← hs7]; rfl
  have lp : Ok (loopF (S := List AV × AH O) (T := (List AV × AH O) ⊕ (AV × AH O)) (diff_Apply_L1 (a, l.length) diff_one s7 σ) ([.i .i64 0], σ1.put (σ.next + 2) (.cells true T_canon_Form [.sl a2 F.nodes.length, .sl b2 F.roots.length, .sl c2 F.weak.length]))) fun r => (∃ σ' G, r = .inl ([], σ') ∧ upto F l = some G ∧ WF σ' (σ.next + 2) (σ.next + 3) G ∧ Only (σ1.put (σ.next + 2) (.cells true T_canon_Form [.sl a2 F.nodes.length, .sl b2 F.roots.length, .sl c2 F.weak.length])) σ' (σ.next + 2) (σ.next + 3)) ∨ ∃ σ', r = .inr (.tup [.agg [.sl .nil 0, .sl .nil 0, .sl .nil 0], .i .i64 (appl F 0 l).2.1, .i .i64 (appl F 0 l).2.2], σ') ∧ (appl F 0 l).1 = FV.zero ∧ σ.next ≤ σ'.next ∧ ∀ y, y < σ.next → σ'.blk y = σ1.blk y := by
    generalize hs8 : AH.put σ1 _ _ = s8 at *
    have bz8 : s8.blk (σ.next + 1) = some (.cells true T_canon_Form [.sl .nil 0, .sl .nil 0, .sl .nil 0]) := by rw [← hs8, s_bn (by omega)]; exact bz
    refine Ok.count l.length (fun k st => ∃ σ' H, st = ([.i .i64 (k : Int)], σ') ∧ upto F (l.take k) = some H ∧ H.nodes.length ≤ 10000000 ∧ WF σ' (σ.next + 2) (σ.next + 3) H ∧ Only s8 σ' (σ.next + 2) (σ.next + 3)) ?_ ?_ ⟨s8, F, rfl, rfl, by have := fF.n; omega, W0, Only.refl _ _ _⟩
    · rintro k st hk ⟨σ3, H, rfl, u3, b3, W3, Y3⟩
      obtain ⟨c, hc⟩ : ∃ c, l[k]? = some c := ⟨_, List.getElem?_eq_getElem hk⟩
      rw [← n7] at W3 Y3
      have st := apply_step (s := σ) hl hc (fl c (List.mem_of_getElem? hc)) hn W3 b3 (by omega) ((Y3.o _ (by omega) (by omega)).trans bz8)
      have hu' := upto_take F hc
      rw [u3, Option.bind_some] at hu'
      by_cases e : (one H c).1 = 0
      · simp only [if_pos e] at st hu'
        refine st.mono ?_
        rintro _ ⟨σ4, rfl, W4, Y4⟩
        rw [n7] at W4 Y4 Y3
        exact ⟨σ4, _, rfl, hu', one_len _ _ b3, W4, Y3.trans Y4⟩
      · simp only [if_neg e] at st
        refine st.mono ?_
        rintro _ ⟨σ4, rfl, n4, f4⟩
        rw [n7] at Y3
        have ab := appl_bad u3 hc e
        rw [ab]
        have y3n := Y3.n
        have n8' : s8.next = σ1.next := by rw [← hs8]; rfl
        refine .inr ⟨σ4, rfl, rfl, by omega, fun y hy => ?_⟩
        rw [f4 y (by omega) (by omega), Y3.o y (by omega) (by omega), ← hs8, s_bn (by omega)]
    · rintro st ⟨σ3, H, rfl, u3, b3, W3, Y3⟩
      simp (config := { maxSteps := 2000000 }) -implicitDefEqProofs (disch := (first | omega | rfl | assumption | (simp only [rsD]; first | omega | assumption))) only [diff_Apply_L1, Nat.reduceAdd, Nat.reduceMul, Nat.reduceLT, Int.reduceToNat, Int.reduceAdd, Int.reduceSub, Int.reduceMul, rsU, rsC]
      rw [List.take_length] at u3
      exact Ok_some.2 (.inl ⟨σ3, H, rfl, u3, W3, Y3⟩)
  refine Ok.bindS lp ?_ (fun r hh => by
    rcases hh with ⟨_, _, e, _⟩ | ⟨σ4, e, ez, n4, f4⟩
    · cases e
    · cases e
      refine ⟨_, rfl, ?_⟩
      rw [ez]
      exact New.im (.cons (Row.im (Row.nil NV.len) _) (.cons (ints_mk (nil_ints _)) (.cons (ints_mk (nil_ints _)) .nil))) ⟨n4, fun y hy => (f4 y hy).trans (lw y hy)⟩)
  rintro _ (⟨σ3, G, e3, hu, ⟨_, q2, a', b', c', A', B', C', q3, P'⟩, Y⟩ | ⟨_, e, _⟩)
  rotate_left
  · cases e
  cases e3
  rw [appl_all hu]
  have bz3 : σ3.blk (σ.next + 1) = some (.cells true T_canon_Form [.sl .nil 0, .sl .nil 0, .sl .nil 0]) := by rw [Y.o _ (by omega) (by omega), s_bn (by omega)]; exact bz
  simp (config := { maxSteps := 2000000 }) -implicitDefEqProofs (disch := (first | omega | rfl | assumption | (simp only [rsD]; first | omega | assumption))) only [q3, bz3, Nat.reduceAdd, Nat.reduceMul, Nat.reduceLT, Int.reduceToNat, Int.reduceAdd, Int.reduceSub, Int.reduceMul, rsU, rsC]
  have no : ∀ y, σ.next + 3 ≤ y → y ≠ σ.next + 1 := fun y h => by omega
  have P2 := P'.of (σ' := σ3.put (σ.next + 1) (.cells true T_canon_Form [.sl a' G.nodes.length, .sl b' G.roots.length, .sl c' G.weak.length])) (Nat.le_refl _) fun y h1 h2 => s_bn (no y h1)
  have o := OwL.cons P2.n.ow (OwL.cons P2.r (OwL.cons P2.w .nil (by simp)) (fun y hy hm => (P2.lB y hy).2 (by simpa using hm))) (fun y hy hm => by
    rcases List.mem_append.1 hm with hm | hm
    · exact (P2.lA y hy).2.1 hm
    · exact (P2.lA y hy).2.2 (by simpa using hm))
  refine Ok_some.2 ⟨_, rfl, ⟨by have := Y.n; show σ.next ≤ σ3.next; omega, fun y hy => ?_⟩, _, o, fun y hy => ?_⟩
  · rw [s_bn (by omega), Y.o y (by omega) (by omega), s_bn (by omega)]; exact lw y hy
  · simp only [List.mem_append, List.append_nil] at hy
    rcases hy with hy | hy | hy
    · have := (P2.lA y hy).1; omega
    · have := (P2.lB y hy).1; omega
    · have := P2.lC y hy; omega
end Go.Abs.Try
