/-
  Touched, the program's. No conditions.
-/
import Derived.Test.YteklninbijohcaaE92
set_option linter.unusedVariables false
set_option linter.unusedSimpArgs false
set_option linter.constructorNameAsVariable false
set_option linter.unusedSimpArgs false
set_option linter.unusedVariables false
set_option linter.unusedSectionVars false
set_option maxHeartbeats 2000000
set_option maxRecDepth 100000
namespace Go.Abs.Try
open Go Go.Abs
variable {O : Type}

/-- numbers in a slice of our own -/
structure OI (σ0 : AH O) (zs : List Int) (e : SA) (σ' : AH O) : Prop where
  o : OwnP σ' 3 1 e zs.length (zs.map (AV.i .i64))
  b : ∀ y ∈ SA.bk e, σ0.next ≤ y
  x : Ext σ0 σ'
theorem OI.push {σ0 σ' σ3 : AH O} {zs ys : List Int} {e : SA} (h : OI σ0 zs e σ') (hn : σ'.next ≤ σ3.next) (hf : ∀ b, b < σ'.next → σ3.blk b = σ'.blk b) {nid : Nat} (h1 : σ'.next ≤ nid) (h2 : nid < σ3.next) {m : Nat} (hm : m = ys.length) :
    Ok (σ3.appSl nid 3 1 e zs.length m (ys.map (AV.i .i64))) fun r => ∃ e', r.1 = .sl e' (zs ++ ys).length ∧ OI σ0 (zs ++ ys) e' r.2 ∧ r.2.next = σ3.next ∧ ∀ b, b ≠ nid → b ∉ SA.bk e → r.2.blk b = σ3.blk b := by
  subst hm
  have hx := h.x.next
  have hlt := h.o.lt
  refine (app_okP (h.o.of hn fun b hb => hf b (hlt b hb)) (fun hh => by have := hlt _ hh; omega) h2 (by simp)).mono ?_
  rintro ⟨z, σ4⟩ ⟨e', g1, g2, g3, g4, g5⟩
  simp only at g1 g2 g3 g4
  refine ⟨e', by rw [g1]; simp, ⟨by rw [List.length_append, List.map_append]; exact g2, fun y hy => by rw [g5 y hy]; omega, ⟨by show σ0.next ≤ σ4.next; omega, fun y hy => ?_⟩⟩, g3, g4⟩
  show σ4.blk y = _
  rw [g4 y (by omega) (fun hm => by have := h.b y hm; omega), hf y (by omega)]
  exact h.x.blk y hy
theorem OI.out {σ0 σ' : AH O} {zs : List Int} {e : SA} (h : OI σ0 zs e σ') : New σ0 σ' [ints .i64 zs] [.sl e zs.length] := by
  have : Ow σ' (ints .i64 zs) (.sl e zs.length) (SA.bk e) := by
    have := Ow.sl (σ := σ') (el := 3) (L := []) h.o (OwL.im (ImL.lfs (flat_ints zs))) (by simp)
    rw [List.append_nil, ← int1_flat] at this
    exact this
  refine ⟨h.x, SA.bk e ++ [], .cons this .nil (by simp), fun b hb => ?_⟩
  rw [List.append_nil] at hb
  exact h.b b hb
theorem intsOf_map (zs : List Int) : intsOf (zs.map (AV.i .i64)) = some zs := by
  induction zs with
  | nil => rfl
  | cons z zs ih => simp only [List.map_cons, intsOf, ih, Option.map_some]
theorem ats_take {l : List CV} {k : Nat} {c : CV} (h : l[k]? = some c) : ats (l.take (k + 1)) = ats (l.take k) ++ (if 1 ≤ c.kind ∧ c.kind ≤ 3 then [c.at_] else []) := by
  rw [List.take_add_one, h, Option.toList_some, ats_snoc]
theorem sort_ok {σ0 σ : AH O} {zs : List Int} {e : SA} (h : OI σ0 zs e σ) (hbig : zs.length ≤ 1000000000000) : Ok (slices_Sort___int_int_ [.sl e zs.length] σ) fun r => r.1 = .tup [] ∧ OI σ0 (zs.mergeSort fun x y => decide (x ≤ y)) e r.2 ∧ (zs.mergeSort fun x y => decide (x ≤ y)).length = zs.length := by
  have hl : (zs.mergeSort fun x y => decide (x ≤ y)).length = zs.length := List.length_mergeSort _
  unfold slices_Sort___int_int_
  by_cases h0 : zs.length = 0
  · rw [h0]
    simp only [Nat.beq_refl, cond_true]
    have : zs = [] := List.eq_nil_of_length_eq_zero h0
    subst this
    refine Ok_some.2 ⟨rfl, ?_, by simp⟩
    simpa using h
  · obtain ⟨b, rest, rfl, hb, hlt⟩ := h.o.loc h0
    simp only [s_n1 h0, cond_false, s_room hbig, cond_true]
    rw [h.o.rd.rdSl, Option.bind_some, intsOf_map, Option.bind_some]
    have hw : σ.wrSl (.loc (.n b) 0 1) ((zs.mergeSort fun x y => decide (x ≤ y)).map (AV.i .i64)) = some (σ.put b (.cells true 3 ((zs.mergeSort fun x y => decide (x ≤ y)).map (AV.i .i64) ++ rest))) := by
      rw [s_wrSl, s_st, hb, s_stM, s_room (by simp), cond_true]
      congr 3
      unfold splice
      simp only [List.take_zero, List.nil_append, Nat.zero_add, List.length_map, hl]
      rw [List.drop_append_of_le_length (by simp), List.drop_of_length_le (by simp), List.nil_append]
    rw [hw, Option.bind_some]
    have hbk : σ0.next ≤ b := h.b b (by simp [SA.bk])
    refine Ok_some.2 ⟨rfl, ⟨by rw [hl]; exact OwnP.new (rest := rest) (by simp) s_bs hlt, h.b, ⟨h.x.next, fun y hy => ?_⟩⟩, hl⟩
    show (σ.put b _).blk y = _
    rw [s_bn (by omega)]; exact h.x.blk y hy
theorem dtouched_ok {σ : AH O} {a : SA} {l : List CV} (hl : Chgs a l) (hn : l.length ≤ 100000000) : Ok (diff_Touched [.sl a l.length] σ) fun r => (∃ e, r.1 = .sl e (touched l).length ∧ Ints .i64 e (touched l)) ∧ Ext σ r.2 := by
  have fin : Ok (diff_Touched [.sl a l.length] σ) fun r => Im (ints .i64 (touched l)) r.1 ∧ Ext σ r.2 := by
    refine frz_sl (ints_deep _ _ 6) ?_
    simp (config := { maxSteps := 2000000 }) -implicitDefEqProofs (disch := (first | omega | rfl | assumption | (simp only [rsD]; first | omega | assumption))) only [diff_Touched_c, Nat.reduceAdd, Nat.reduceMul, Nat.reduceLT, Int.reduceToNat, Int.reduceAdd, Int.reduceSub, Int.reduceMul, rsU, rsC]
    refine Ok.step (Q := fun r => ∃ e σ', r = ([.sl e (ats l).length], σ') ∧ OI σ (ats l) e σ') ?_ ?_
    · refine Ok.count l.length (fun k st => ∃ e σ', st = ([.sl e (ats (l.take k)).length, .i .i64 (k : Int)], σ') ∧ OI σ (ats (l.take k)) e σ') ?_ ?_ ⟨.nil, σ, rfl, (OwnS.nil _ _ _).p, by simp [SA.bk], Ext.refl _⟩
      · rintro k st hk ⟨e, σ', rfl, I⟩
        obtain ⟨c, hc⟩ : ∃ c, l[k]? = some c := ⟨_, List.getElem?_eq_getElem hk⟩
        obtain ⟨b, o, p, q, r, rfl, hp, hq, hr, ld⟩ := chg_at hl hc
        have hal := ats_len (l.take k)
        have htl : (l.take k).length ≤ k := List.length_take_le _ _
        have di := decide_eq_true (show (k : Int) < (l.length : Int) by omega)
        have d0 := ld O (σ'.bump 1) 0 (by decide)
        have d1 := ld O (σ'.bump 1) 1 (by decide)
        have d2 := ld O (σ'.bump 1) 2 (by decide)
        have d3 := ld O (σ'.bump 1) 3 (by decide)
        have d4 := ld O (σ'.bump 1) 4 (by decide)
        have d5 := ld O (σ'.bump 1) 5 (by decide)
        have d6 := ld O (σ'.bump 1) 6 (by decide)
        have d7 := ld O (σ'.bump 1) 7 (by decide)
        have d8 := ld O (σ'.bump 1) 8 (by decide)
        have d9 := ld O (σ'.bump 1) 9 (by decide)
        have d10 := ld O (σ'.bump 1) 10 (by decide)
        have d11 := ld O (σ'.bump 1) 11 (by decide)
        have d12 := ld O (σ'.bump 1) 12 (by decide)
        simp only [Nat.add_zero, CV.cells, List.getElem?_cons_zero, List.getElem?_cons_succ] at d0 d1 d2 d3 d4 d5 d6 d7 d8 d9 d10 d11 d12
        have ta := ats_take hc
        by_cases hkd : 1 ≤ c.kind ∧ c.kind ≤ 3
        · rw [if_pos hkd] at ta
          rcases (show c.kind = 1 ∨ c.kind = 2 ∨ c.kind = 3 by omega) with e0 | e0 | e0
          all_goals
            rw [e0] at d0
            simp (config := { maxSteps := 2000000 }) -implicitDefEqProofs (disch := (first | omega | rfl | assumption | (simp only [rsD]; first | omega | assumption))) only [diff_Touched_L1, di, d0, d1, d2, d3, d4, d5, d6, d7, d8, d9, d10, d11, d12, Nat.reduceAdd, Nat.reduceMul, Nat.reduceLT, Int.reduceToNat, Int.reduceAdd, Int.reduceSub, Int.reduceMul, rsU, rsC]
            refine Ok.step (I.push (ys := [c.at_]) (by simp only [rsD]; omega) (fun z hz => by ((try simp only [rsD] at *); simp -implicitDefEqProofs (disch := (first | omega | rfl | assumption | (simp only [rsD]; first | omega | assumption))) only [s_bs, s_bn, s_kn, bump_blk])) (by omega) (by simp only [rsD]; omega) rfl) fun r ⟨e', g1, g2, _, _⟩ => ?_
            obtain ⟨z, σ2⟩ := r
            simp only at g1 g2
            subst g1
            simp (config := { maxSteps := 2000000 }) -implicitDefEqProofs (disch := (first | omega | rfl | assumption | (simp only [rsD]; first | omega | assumption))) only [Nat.reduceAdd, Nat.reduceMul, Nat.reduceLT, Int.reduceToNat, Int.reduceAdd, Int.reduceSub, Int.reduceMul, rsU, rsC]
            rw [← ta]
            exact Ok_some.2 ⟨e', σ2, by simp, by rw [ta]; exact g2⟩
        · rw [if_neg hkd, List.append_nil] at ta
          have q1 := s_eqF (show c.kind ≠ 1 by omega)
          have q2 := s_eqF (show c.kind ≠ 2 by omega)
          have q3 := s_eqF (show c.kind ≠ 3 by omega)
          simp (config := { maxSteps := 2000000 }) -implicitDefEqProofs (disch := (first | omega | rfl | assumption | (simp only [rsD]; first | omega | assumption))) only [diff_Touched_L1, di, d0, d1, d2, d3, d4, d5, d6, d7, d8, d9, d10, d11, d12, q1, q2, q3, Nat.reduceAdd, Nat.reduceMul, Nat.reduceLT, Int.reduceToNat, Int.reduceAdd, Int.reduceSub, Int.reduceMul, rsU, rsC]
          rw [ta]
          exact Ok_some.2 ⟨e, (σ'.bump 1).put σ'.next (.cells true T_diff_Change (c.cells p q r)), rfl, I.o.of (by simp) (fun b hb => by have := I.o.lt b hb; ((try simp only [rsD] at *); simp -implicitDefEqProofs (disch := (first | omega | rfl | assumption | (simp only [rsD]; first | omega | assumption))) only [s_bs, s_bn, s_kn, bump_blk])), I.b, I.x.trans (ext_of (by (try simp only [rsD] at *); omega) (fun b hb => by (try simp only [rsD] at *); simp -implicitDefEqProofs (disch := (first | omega | rfl | assumption | (simp only [rsD]; first | omega | assumption))) only [s_bn, s_kn, bump_blk]))⟩
      · rintro st ⟨e, σ', rfl, I⟩
        simp (config := { maxSteps := 2000000 }) -implicitDefEqProofs (disch := (first | omega | rfl | assumption | (simp only [rsD]; first | omega | assumption))) only [diff_Touched_L1, Nat.reduceAdd, Nat.reduceMul, Nat.reduceLT, Int.reduceToNat, Int.reduceAdd, Int.reduceSub, Int.reduceMul, rsU, rsC]
        rw [List.take_length] at I
        exact Ok_some.2 ⟨e, σ', rfl, I⟩
    rintro _ ⟨e, σ', rfl, I⟩
    simp (config := { maxSteps := 2000000 }) -implicitDefEqProofs (disch := (first | omega | rfl | assumption | (simp only [rsD]; first | omega | assumption))) only [Nat.reduceAdd, Nat.reduceMul, Nat.reduceLT, Int.reduceToNat, Int.reduceAdd, Int.reduceSub, Int.reduceMul, rsU, rsC]
    have hal := ats_len l
    refine Ok.step (sort_ok I (by omega)) fun r ⟨g1, I2, hsl⟩ => ?_
    obtain ⟨z, σ2⟩ := r
    simp only at g1 I2
    subst g1
    simp (config := { maxSteps := 2000000 }) -implicitDefEqProofs (disch := (first | omega | rfl | assumption | (simp only [rsD]; first | omega | assumption))) only [Nat.reduceAdd, Nat.reduceMul, Nat.reduceLT, Int.reduceToNat, Int.reduceAdd, Int.reduceSub, Int.reduceMul, rsU, rsC]
    have hal := ats_len l
    have cp := compact_ok I2.o (by rw [hsl]; omega)
    have ht : ddp ((ats l).mergeSort fun x y => decide (x ≤ y)) ((ats l).mergeSort fun x y => decide (x ≤ y)).length = touched l := by unfold touched; rw [hsl]
    rw [ht, hsl] at cp
    refine Ok.step cp fun r ⟨g1, g2, g3, g4⟩ => ?_
    obtain ⟨z, σ3⟩ := r
    simp only at g1 g2 g3 g4
    subst g1
    simp (config := { maxSteps := 2000000 }) -implicitDefEqProofs (disch := (first | omega | rfl | assumption | (simp only [rsD]; first | omega | assumption))) only [Nat.reduceAdd, Nat.reduceMul, Nat.reduceLT, Int.reduceToNat, Int.reduceAdd, Int.reduceSub, Int.reduceMul, rsU, rsC]
    refine Ok_some.2 (OI.out ⟨g2, I2.b, by have := I2.x.next; show σ.next ≤ σ3.next; omega, fun y hy => ?_⟩)
    rw [g4 y (fun hm => by have := I2.b y hm; omega)]; exact I2.x.blk y hy
  refine fin.mono ?_
  rintro ⟨v, σ'⟩ ⟨h1, h2⟩
  exact ⟨ints_un h1, h2⟩
end Go.Abs.Try
set_option linter.unusedSimpArgs false
set_option linter.unusedVariables false
set_option linter.unusedSectionVars false
set_option maxHeartbeats 2000000
set_option maxRecDepth 100000
namespace Go.Abs.Try
open Go Go.Abs
variable {O : Type}

theorem OI.push' {σ0 σ' σ3 : AH O} {zs ys : List Int} {e : SA} (h : OI σ0 zs e σ') (hn : σ'.next ≤ σ3.next) (hb : ∀ b ∈ SA.bk e, σ3.blk b = σ'.blk b) (h0 : ∀ b, b < σ0.next → σ3.blk b = σ'.blk b) {nid : Nat} (h1 : nid ∉ SA.bk e) (h2 : nid < σ3.next) (h3 : σ0.next ≤ nid) {m : Nat} (hm : m = ys.length) :
    Ok (σ3.appSl nid 3 1 e zs.length m (ys.map (AV.i .i64))) fun r => ∃ e', r.1 = .sl e' (zs ++ ys).length ∧ OI σ0 (zs ++ ys) e' r.2 ∧ r.2.next = σ3.next ∧ (∀ b, b ≠ nid → b ∉ SA.bk e → r.2.blk b = σ3.blk b) ∧ ∀ b ∈ SA.bk e', b = nid := by
  subst hm
  have hx := h.x.next
  refine (app_okP (h.o.of hn hb) h1 h2 (by simp)).mono ?_
  rintro ⟨z, σ4⟩ ⟨e', g1, g2, g3, g4, g5⟩
  simp only at g1 g2 g3 g4
  refine ⟨e', by rw [g1]; simp, ⟨by rw [List.length_append, List.map_append]; exact g2, fun y hy => by rw [g5 y hy]; exact h3, ⟨by show σ0.next ≤ σ4.next; omega, fun y hy => ?_⟩⟩, g3, g4, g5⟩
  show σ4.blk y = _
  rw [g4 y (by omega) (fun hm => by have := h.b y hm; omega), h0 y hy]
  exact h.x.blk y hy
theorem OI.at {σ0 σ' : AH O} {zs : List Int} {e : SA} (h : OI σ0 zs e σ') {j : Nat} {x : Int} (hj : zs[j]? = some x) : ∃ b rest, e = .loc (.n b) 0 1 ∧ σ'.blk b = some (.cells true 3 (zs.map (AV.i .i64) ++ rest)) ∧ (zs.map (AV.i .i64) ++ rest)[j]? = some (.i .i64 x) := by
  have := (List.getElem?_eq_some_iff.1 hj).1
  obtain ⟨b, rest, e, hb, _⟩ := h.o.loc (by omega)
  exact ⟨b, rest, e, hb, zs_at hj⟩
theorem OI.part {σ0 σ' σ3 : AH O} {zs : List Int} {e : SA} (h : OI σ0 zs e σ') (hb : ∀ b ∈ SA.bk e, σ3.blk b = σ'.blk b) {lo m : Nat} (hm : lo + m ≤ zs.length) : ∃ a', e.adv lo 1 = some a' ∧ σ3.rdSl a' m 1 = some (((zs.drop lo).take m).map (AV.i .i64)) := by
  obtain ⟨a', g1, g2, g3⟩ := (h.o.rd.of hb).adv hm
  refine ⟨a', g1, ?_⟩
  rw [g2.rdSl, Nat.mul_one, Nat.mul_one, List.map_take, List.map_drop]
theorem rt_l2 {σ0 σ' : AH O} {l : List CV} {k : Nat} {c : CV} {b : Bid} {o : Nat} {zs : List Int} {e : SA} (hk : k < l.length) (hn : l.length ≤ 100000000) (d1 : ∀ σ : AH O, σ.ld b (o + k * 13 + 1) = some (.i .i64 c.at_)) (I : OI σ0 zs e σ') (hz : zs.length ≤ 100000000) :
    Ok (loopF (S := List AV × AH O) (T := List AV × AH O) (haymowref47_Touched_L2 (e, zs.length) (k : Int) (.loc b o 13, l.length)) ([.i .i64 0], σ')) fun r => ∃ p : Nat, r = ([.i .i64 (p : Int)], σ') ∧ p ≤ zs.length ∧ (∀ j y, j < p → zs[j]? = some y → y < c.at_) ∧ ∀ y, zs[p]? = some y → ¬ y < c.at_ := by
  refine Ok.loop (fun n s => ∃ p : Nat, s = ([.i .i64 (p : Int)], σ') ∧ n = zs.length - p ∧ p ≤ zs.length ∧ ∀ j y, j < p → zs[j]? = some y → y < c.at_) ?_ zs.length _ ⟨0, rfl, by omega, by omega, fun j y h => by omega⟩
  rintro n s ⟨p, rfl, rfl, hp, ih⟩
  by_cases e1 : p < zs.length
  · obtain ⟨x, hx⟩ : ∃ x, zs[p]? = some x := ⟨_, List.getElem?_eq_getElem e1⟩
    obtain ⟨b', rest, rfl, hb, r1⟩ := I.at hx
    by_cases e2 : x < c.at_
    · have q2 := decide_eq_true e2
      simp (config := { maxSteps := 2000000 }) -implicitDefEqProofs (disch := (first | omega | rfl | assumption | (simp only [rsD]; first | omega | assumption))) only [haymowref47_Touched_L2, hb, r1, d1, q2, Nat.reduceAdd, Nat.reduceMul, Nat.reduceLT, Int.reduceToNat, Int.reduceAdd, Int.reduceSub, Int.reduceMul, rsU, rsC]
      refine Ok_some.2 ⟨zs.length - (p + 1), by omega, p + 1, by simp, rfl, by omega, fun j y hj hy => ?_⟩
      by_cases ej : j = p
      · subst ej; rw [hx] at hy; cases hy; exact e2
      · exact ih j y (by omega) hy
    · have q2 := decide_eq_false e2
      simp (config := { maxSteps := 2000000 }) -implicitDefEqProofs (disch := (first | omega | rfl | assumption | (simp only [rsD]; first | omega | assumption))) only [haymowref47_Touched_L2, hb, r1, d1, q2, Nat.reduceAdd, Nat.reduceMul, Nat.reduceLT, Int.reduceToNat, Int.reduceAdd, Int.reduceSub, Int.reduceMul, rsU, rsC]
      exact Ok_some.2 ⟨p, rfl, hp, ih, fun y hy => by rw [hx] at hy; cases hy; exact e2⟩
  · have q1 := decide_eq_false (show ¬ (p : Int) < (zs.length : Int) by omega)
    simp (config := { maxSteps := 2000000 }) -implicitDefEqProofs (disch := (first | omega | rfl | assumption | (simp only [rsD]; first | omega | assumption))) only [haymowref47_Touched_L2, q1, Nat.reduceAdd, Nat.reduceMul, Nat.reduceLT, Int.reduceToNat, Int.reduceAdd, Int.reduceSub, Int.reduceMul, rsU, rsC]
    exact Ok_some.2 ⟨p, rfl, hp, ih, fun y hy => by have := (List.getElem?_eq_some_iff.1 hy).1; omega⟩
/-- between two changes -/
structure RtI (σ : AH O) (l : List CV) (zs : List Int) (e : SA) (σ' : AH O) : Prop where
  o : OI σ zs e σ'
  s : zs.Pairwise (· < ·)
  m : ∀ y, y ∈ zs ↔ y ∈ ats l
  n : zs.length ≤ l.length
theorem rt_step {σ σ' : AH O} {l : List CV} {k : Nat} {c : CV} {b : Bid} {o : Nat} {zs : List Int} {e : SA} (hc : l[k]? = some c) (hn : l.length ≤ 100000000) (d0 : ∀ σ : AH O, σ.ld b (o + k * 13) = some (.i .i64 c.kind)) (d1 : ∀ σ : AH O, σ.ld b (o + k * 13 + 1) = some (.i .i64 c.at_)) (I : RtI σ (l.take k) zs e σ') :
    Ok (haymowref47_Touched_L1 (.loc b o 13, l.length) ([.sl e zs.length, .i .i64 (k : Int)], σ')) fun r => ∃ zs' e' σ2, r = .inl ([.sl e' zs'.length, .i .i64 ((k + 1 : Nat) : Int)], σ2) ∧ RtI σ (l.take (k + 1)) zs' e' σ2 := by
  have hk := (List.getElem?_eq_some_iff.1 hc).1
  have di := decide_eq_true (show (k : Int) < (l.length : Int) by omega)
  have ta := ats_take hc
  have tl : (l.take k).length = k := by simp; omega
  have tl1 : (l.take (k + 1)).length = k + 1 := by simp; omega
  have hz := I.n
  have hltO := I.o.o.lt
  have hxn := I.o.x.next
  by_cases k1 : c.kind < 1
  · have q1 := decide_eq_true k1
    rw [if_neg (by omega), List.append_nil] at ta
    simp (config := { maxSteps := 2000000 }) -implicitDefEqProofs (disch := (first | omega | rfl | assumption | (simp only [rsD]; first | omega | assumption))) only [haymowref47_Touched_L1, di, d0, q1, Nat.reduceAdd, Nat.reduceMul, Nat.reduceLT, Int.reduceToNat, Int.reduceAdd, Int.reduceSub, Int.reduceMul, rsU, rsC]
    exact Ok_some.2 ⟨zs, e, σ', by simp, I.o, I.s, by rw [ta]; exact I.m, by omega⟩
  · have q1 := decide_eq_false k1
    by_cases k3 : c.kind > 3
    · have q3 := decide_eq_true k3
      rw [if_neg (by omega), List.append_nil] at ta
      simp (config := { maxSteps := 2000000 }) -implicitDefEqProofs (disch := (first | omega | rfl | assumption | (simp only [rsD]; first | omega | assumption))) only [haymowref47_Touched_L1, di, d0, q1, q3, Nat.reduceAdd, Nat.reduceMul, Nat.reduceLT, Int.reduceToNat, Int.reduceAdd, Int.reduceSub, Int.reduceMul, rsU, rsC]
      exact Ok_some.2 ⟨zs, e, σ', by simp, I.o, I.s, by rw [ta]; exact I.m, by omega⟩
    · have q3 := decide_eq_false k3
      rw [if_pos (by omega)] at ta
      simp (config := { maxSteps := 2000000 }) -implicitDefEqProofs (disch := (first | omega | rfl | assumption | (simp only [rsD]; first | omega | assumption))) only [haymowref47_Touched_L1, di, d0, q1, q3, Nat.reduceAdd, Nat.reduceMul, Nat.reduceLT, Int.reduceToNat, Int.reduceAdd, Int.reduceSub, Int.reduceMul, rsU, rsC]
      refine Ok.step (rt_l2 hk hn d1 I.o (by omega)) ?_
      rintro _ ⟨p, rfl, hp, lo, hi⟩
      by_cases same : zs[p]? = some c.at_
      · have hpl := (List.getElem?_eq_some_iff.1 same).1
        obtain ⟨b', rest, rfl, hb, r1⟩ := I.o.at same
        have q4 := s_eqT (show c.at_ = c.at_ from rfl)
        have di2 := decide_eq_true (show (p : Int) < (zs.length : Int) by omega)
        simp (config := { maxSteps := 2000000 }) -implicitDefEqProofs (disch := (first | omega | rfl | assumption | (simp only [rsD]; first | omega | assumption))) only [di2, hb, r1, d1, q4, Nat.reduceAdd, Nat.reduceMul, Nat.reduceLT, Int.reduceToNat, Int.reduceAdd, Int.reduceSub, Int.reduceMul, rsU, rsC]
        refine Ok_some.2 ⟨zs, _, σ', by simp, I.o, I.s, fun y => ?_, by omega⟩
        rw [ta, List.mem_append, List.mem_singleton, ← I.m]
        exact ⟨.inl, fun h => h.elim id fun e => e ▸ List.mem_of_getElem? same⟩
      · have sp := ins_spec I.s hp lo (fun y hy => by have := hi y hy; have : y ≠ c.at_ := fun e => same (by rw [hy, e]); omega)
        -- the three parts
        have fin : Ok ((σ'.bump 5).put σ'.next (.cells true 3 []) |>.appSl (σ'.next + 1) 3 1 (.loc (.n σ'.next) 0 1) 0 p ((zs.take p).map (AV.i .i64))) fun r => ∃ e1, r.1 = .sl e1 p ∧
            OI σ (zs.take p) e1 r.2 ∧ r.2.next = σ'.next + 5 ∧ (∀ y, y < σ'.next → r.2.blk y = σ'.blk y) ∧ ∀ y ∈ SA.bk e1, y = σ'.next + 1 := by
          have O0 : OI σ [] (.loc (.n σ'.next) 0 1) ((σ'.bump 5).put σ'.next (.cells true 3 [])) := ⟨OwnP.new (rest := []) (by simp) s_bs (by simp), by simp [SA.bk]; omega, by simp; omega, fun y hy => by rw [s_bn (by omega)]; exact I.o.x.blk y hy⟩
          refine (O0.push' (ys := zs.take p) (σ3 := (σ'.bump 5).put σ'.next (.cells true 3 [])) (nid := σ'.next + 1) (m := p) (Nat.le_refl _) (fun _ _ => rfl) (fun _ _ => rfl) (by simp [SA.bk]) (by simp) (by omega) (by simp; omega)).mono ?_
          rintro ⟨z, σ2⟩ ⟨e1, g1, g2, g3, g4, g5⟩
          simp only at g1 g2 g3 g4
          refine ⟨e1, by rw [g1]; simp; omega, g2, g3, fun y hy => ?_, g5⟩
          show σ2.blk y = _
          rw [g4 y (by omega) (by simp [SA.bk]; omega), s_bn (by omega)]; rfl
        obtain ⟨a1, v1, w1⟩ := I.o.part (σ3 := (σ'.bump 5).put σ'.next (.cells true 3 [])) (lo := 0) (m := p) (fun y hy => by have := hltO y hy; rw [s_bn (by omega)]; rfl) (by omega)
        obtain ⟨a2, v2, _⟩ := I.o.part (σ3 := σ') (lo := p) (m := zs.length - p) (fun y hy => rfl) (by omega)
        rw [List.drop_zero] at w1
        simp (config := { maxSteps := 2000000 }) -implicitDefEqProofs (disch := (first | omega | rfl | assumption | (simp only [rsD]; first | omega | assumption))) only [Nat.reduceAdd, Nat.reduceMul, Nat.reduceLT, Int.reduceToNat, Int.reduceAdd, Int.reduceSub, Int.reduceMul, rsU, rsC]
        refine Ok.step (Q := fun r => r = ([AV.b false], σ')) ?_ ?_
        · by_cases e1 : p < zs.length
          · obtain ⟨x, hx⟩ : ∃ x, zs[p]? = some x := ⟨_, List.getElem?_eq_getElem e1⟩
            obtain ⟨b', rest, eb, hb, r1⟩ := I.o.at hx
            have q4 := s_eqF (show x ≠ c.at_ from fun e => same (by rw [hx, e]))
            have di2 := decide_eq_true (show (p : Int) < (zs.length : Int) by omega)
            subst eb
            simp (config := { maxSteps := 2000000 }) -implicitDefEqProofs (disch := (first | omega | rfl | assumption | (simp only [rsD]; first | omega | assumption))) only [di2, hb, r1, d1, q4, Nat.reduceAdd, Nat.reduceMul, Nat.reduceLT, Int.reduceToNat, Int.reduceAdd, Int.reduceSub, Int.reduceMul, rsU, rsC]
            exact Ok_some.2 rfl
          · have di2 := decide_eq_false (show ¬ (p : Int) < (zs.length : Int) by omega)
            simp (config := { maxSteps := 2000000 }) -implicitDefEqProofs (disch := (first | omega | rfl | assumption | (simp only [rsD]; first | omega | assumption))) only [di2, Nat.reduceAdd, Nat.reduceMul, Nat.reduceLT, Int.reduceToNat, Int.reduceAdd, Int.reduceSub, Int.reduceMul, rsU, rsC]
            exact Ok_some.2 rfl
        rintro _ rfl
        simp (config := { maxSteps := 2000000 }) -implicitDefEqProofs (disch := (first | omega | rfl | assumption | (simp only [rsD]; first | omega | assumption))) only [v1, v2, w1, d1, Nat.sub_zero, Nat.reduceAdd, Nat.reduceMul, Nat.reduceLT, Int.reduceToNat, Int.reduceAdd, Int.reduceSub, Int.reduceMul, rsU, rsC]
        refine Ok.step fin fun r ⟨e1, g1, O1, n1, f1, k1⟩ => ?_
        obtain ⟨z, σ2⟩ := r
        simp only at g1 O1 n1 f1
        subst g1
        have tp : (zs.take p).length = p := by simp; omega
        have P2 := O1.push' (ys := [c.at_]) (σ3 := σ2.put (σ'.next + 1 + 1) (.cells true 3 [.i .i64 c.at_])) (nid := σ'.next + 1 + 1 + 1) (m := 1) (Nat.le_refl _) (fun y hy => by have := k1 y hy; exact s_bn (by omega)) (fun y hy => s_bn (by omega)) (fun hy => by have := k1 _ hy; omega) (by simp only [rsD]; omega) (by omega) rfl
        rw [tp] at P2
        simp (config := { maxSteps := 2000000 }) -implicitDefEqProofs (disch := (first | omega | rfl | assumption | (simp only [rsD]; first | omega | assumption))) only [d1, Nat.reduceAdd, Nat.reduceMul, Nat.reduceLT, Int.reduceToNat, Int.reduceAdd, Int.reduceSub, Int.reduceMul, rsU, rsC]
        refine Ok.step P2 fun r ⟨e2, g2, O2, n2, f2, k2⟩ => ?_
        obtain ⟨z, σ3⟩ := r
        simp only [rsD] at g2 O2 n2 f2
        subst g2
        have fr : ∀ y, y < σ'.next → σ3.blk y = σ'.blk y := fun y hy => by
          rw [f2 y (by omega) (fun h => by have := k1 _ h; omega), s_bn (by omega)]; exact f1 y hy
        obtain ⟨a3, v3, w3⟩ := I.o.part (σ3 := σ3) (lo := p) (m := zs.length - p) (fun y hy => fr y (hltO y hy)) (by omega)
        rw [v2] at v3
        cases v3
        have td : ((zs.drop p).take (zs.length - p)) = zs.drop p := List.take_of_length_le (by simp)
        rw [td] at w3
        have tl2 : (zs.take p ++ [c.at_]).length = p + 1 := by simp; omega
        have P3 := O2.push' (ys := zs.drop p) (σ3 := σ3) (nid := σ'.next + 1 + 1 + 1 + 1) (m := zs.length - p) (Nat.le_refl _) (fun y hy => rfl) (fun y hy => rfl) (fun hy => by have := k2 _ hy; omega) (by omega) (by omega) (by simp)
        rw [tl2] at P3
        simp only [tl2]
        simp (config := { maxSteps := 2000000 }) -implicitDefEqProofs (disch := (first | omega | rfl | assumption | (simp only [rsD]; first | omega | assumption))) only [w3, Nat.reduceAdd, Nat.reduceMul, Nat.reduceLT, Int.reduceToNat, Int.reduceAdd, Int.reduceSub, Int.reduceMul, rsU, rsC]
        refine Ok.step P3 fun r ⟨e3, g3, O3, n3, f3, k3'⟩ => ?_
        obtain ⟨z, σ4⟩ := r
        simp only at g3 O3 n3 f3
        subst g3
        simp (config := { maxSteps := 2000000 }) -implicitDefEqProofs (disch := (first | omega | rfl | assumption | (simp only [rsD]; first | omega | assumption))) only [Nat.reduceAdd, Nat.reduceMul, Nat.reduceLT, Int.reduceToNat, Int.reduceAdd, Int.reduceSub, Int.reduceMul, rsU, rsC]
        refine Ok_some.2 ⟨zs.take p ++ [c.at_] ++ zs.drop p, e3, σ4, by simp, O3, sp.1, fun y => ?_, ?_⟩
        · rw [sp.2, ta, List.mem_append, List.mem_singleton, I.m]
        · simp only [List.length_append, List.length_take, List.length_drop, List.length_cons, List.length_nil]; omega
theorem rtouched_ok {σ : AH O} {a : SA} {l : List CV} (hl : Chgs a l) (hn : l.length ≤ 100000000) : Ok (haymowref47_Touched [.sl a l.length] σ) fun r => (∃ e, r.1 = .sl e (touched l).length ∧ Ints .i64 e (touched l)) ∧ Ext σ r.2 := by
  have fin : Ok (haymowref47_Touched [.sl a l.length] σ) fun r => Im (ints .i64 (touched l)) r.1 ∧ Ext σ r.2 := by
    refine frz_sl (ints_deep _ _ 6) ?_
    simp (config := { maxSteps := 2000000 }) -implicitDefEqProofs (disch := (first | omega | rfl | assumption | (simp only [rsD]; first | omega | assumption))) only [haymowref47_Touched_c, Nat.reduceAdd, Nat.reduceMul, Nat.reduceLT, Int.reduceToNat, Int.reduceAdd, Int.reduceSub, Int.reduceMul, rsU, rsC]
    refine Ok.step (Q := fun r => ∃ zs e σ', r = ([.sl e zs.length], σ') ∧ RtI σ l zs e σ') ?_ ?_
    · refine Ok.count l.length (fun k st => ∃ zs e σ', st = ([.sl e zs.length, .i .i64 (k : Int)], σ') ∧ RtI σ (l.take k) zs e σ') ?_ ?_ ⟨[], .nil, σ, rfl, ⟨(OwnS.nil _ _ _).p, by simp [SA.bk], Ext.refl _⟩, by simp, by simp [ats], by simp⟩
      · rintro k st hk ⟨zs, e, σ', rfl, I⟩
        obtain ⟨c, hc⟩ : ∃ c, l[k]? = some c := ⟨_, List.getElem?_eq_getElem hk⟩
        obtain ⟨b, o, p, q, r, rfl, hp, hq, hr, ld⟩ := chg_at hl hc
        refine (rt_step hc hn (fun σ => ld O σ 0 (by decide)) (fun σ => ld O σ 1 (by decide)) I).mono ?_
        rintro _ ⟨zs', e', σ2, rfl, I'⟩
        exact ⟨zs', e', σ2, rfl, I'⟩
      · rintro st ⟨zs, e, σ', rfl, I⟩
        simp (config := { maxSteps := 2000000 }) -implicitDefEqProofs (disch := (first | omega | rfl | assumption | (simp only [rsD]; first | omega | assumption))) only [haymowref47_Touched_L1, Nat.reduceAdd, Nat.reduceMul, Nat.reduceLT, Int.reduceToNat, Int.reduceAdd, Int.reduceSub, Int.reduceMul, rsU, rsC]
        rw [List.take_length] at I
        exact Ok_some.2 ⟨zs, e, σ', rfl, I⟩
    rintro _ ⟨zs, e, σ', rfl, I⟩
    simp (config := { maxSteps := 2000000 }) -implicitDefEqProofs (disch := (first | omega | rfl | assumption | (simp only [rsD]; first | omega | assumption))) only [Nat.reduceAdd, Nat.reduceMul, Nat.reduceLT, Int.reduceToNat, Int.reduceAdd, Int.reduceSub, Int.reduceMul, rsU, rsC]
    have et := touched_eq I.s I.m
    rw [← et]
    exact Ok_some.2 I.o.out
  refine fin.mono ?_
  rintro ⟨v, σ'⟩ ⟨h1, h2⟩
  exact ⟨ints_un h1, h2⟩
end Go.Abs.Try
