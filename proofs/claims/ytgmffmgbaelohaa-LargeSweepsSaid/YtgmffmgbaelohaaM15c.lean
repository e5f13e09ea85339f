/-
  Layer 15: a large object is added. No conditions.
-/
import Derived.Test.YtgmffmgbaelohaaM15b
set_option linter.unusedVariables false
set_option linter.unusedSimpArgs false
set_option linter.constructorNameAsVariable false
set_option linter.unusedSimpArgs false
set_option linter.unusedVariables false
set_option linter.unusedSectionVars false
set_option maxHeartbeats 1000000
namespace Go.Abs.Try
open Go Go.Abs
variable {O : Type}

theorem Objs.add {M M' : MemS} {V V' : Nat → Option (Int × Int × Int)} {sid : Int} {ob : Nat → Option (List Int)} {ep : Int} {H : List Nat} {Y : List Int} (h : Objs M V sid ob ep H Y) {i : Nat} (hi : ob i = none) {sp : Int} {n : Nat} (h0 : 0 ≤ ep)
    (hV : ∀ j, V' j = if j = i then some (sp, (n : Int), ep) else V j) (hw : ∀ y v, y ≠ sid → wordsOf M.sp y = some v → wordsOf M'.sp y = some v) (hsp : wordsOf M'.sp sp = some (List.replicate n 0)) (hne : sp ≠ sid) (hY : sp ∉ Y) (hfr : ∀ y v, wordsOf M.sp y = some v → y ≠ sp) :
    Objs M' V' sid (fun j => if j = i then some (List.replicate n 0) else ob j) ep (H ++ [i]) Y := by
  have far : ∀ (j : Nat) (x a b : Int), V j = some (x, a, b) → x ≠ sp := fun j x a b hj => by
    cases ho : ob j with
    | none => rw [h.non j ho] at hj; cases hj
    | some ws =>
      obtain ⟨sq, mk, c1, _, _, _, c7, _⟩ := h.at_ j ws ho
      rw [c1] at hj; cases hj
      exact hfr _ _ c7
  refine ⟨fun j hj => ?_, fun j ws hj => ?_, fun j k x a b c d hj hk => ?_, (h.mem hw).others⟩
  · by_cases hji : j = i
    · rw [if_pos hji] at hj; cases hj
    · rw [if_neg hji] at hj
      rw [hV, if_neg hji]; exact h.non j hj
  · by_cases hji : j = i
    · rw [if_pos hji] at hj; cases hj
      refine ⟨sp, ep, by rw [hV, if_pos hji]; simp, h0, Int.le_refl _, ?_, hsp, hne, hY⟩
      simp [hji]
    · rw [if_neg hji] at hj
      obtain ⟨sq, mk, c1, c4, c5, c6, c7, c8, c9⟩ := h.at_ j ws hj
      refine ⟨sq, mk, by rw [hV, if_neg hji]; exact c1, c4, c5, ?_, hw _ _ c8 c7, c8, c9⟩
      rw [c6]; simp [hji]
  · rw [hV] at hj hk
    by_cases hji : j = i
    · by_cases hki : k = i
      · rw [hji, hki]
      · rw [if_pos hji] at hj; cases hj
        rw [if_neg hki] at hk
        exact absurd rfl (far _ _ _ _ hk)
    · rw [if_neg hji] at hj
      by_cases hki : k = i
      · rw [if_pos hki] at hk; cases hk
        exact absurd rfl (far _ _ _ _ hj)
      · rw [if_neg hki] at hk
        exact h.apart _ _ _ _ _ _ _ hj hk
theorem len_congr {L L' : LarS} {l : List Nat} (h : ∀ j ∈ l, L'.ob j = L.ob j) : (l.map L'.len).sum = (l.map L.len).sum := by
  congr 1
  exact List.map_congr_left fun j hj => by unfold LarS.len; rw [h j hj]
theorem openXT {σ : AH O} {mb : Nat} {M : MemS} {X : List Nat} (h : MemIn σ mb M X) (hc : M.calm) {n : Int} :
    Ok (mem_Mem__Open [.p (some (.n mb, 0)), .i .i64 n] σ) fun r => r.1 = .tup [.i .i64 (M.opnR n).2.1, .i .i64 (M.opnR n).2.2] ∧ MemIn r.2 mb (M.opnR n).1 X ∧ Keep X σ r.2 := by
  have key : ∀ F, MemAt σ mb F M → Ok (mem_Mem__Open [.p (some (.n mb, 0)), .i .i64 n] σ) fun r => r.1 = .tup [.i .i64 (M.opnR n).2.1, .i .i64 (M.opnR n).2.2] ∧ Behind σ mb F (M.opnR n).1 r.2 := fun F hF => openT hF h.ok hc
  have hh := h
  obtain ⟨F, g1, _⟩ := hh
  obtain ⟨r, e, p1, _⟩ := key F g1
  refine ⟨r, e, p1, ?_⟩
  exact h.behind (F := F) (σ' := r.2) fun F hF => by
    obtain ⟨r', e', _, b⟩ := key F hF
    rw [e] at e'; cases e'; exact b
section
variable {σ : AH O} {lb pb mb : Nat} {M : MemS} {S : PoolS} {w : List Int} {L : LarS} {X : List Nat} {Y : List Int} (h : LarAt σ lb pb mb M S w L X Y) (hf : M.far 1000)
include h hf
theorem ladd_few {n : Int} (hn : n < 1) : large_Large__Add [.p (some (.n lb, 0)), .i .i64 n] σ = some (.tup [.i .i64 0, .i .i64 1], σ) := by
  simp (config := { maxSteps := 2000000 }) -implicitDefEqProofs (disch := (first | omega | rfl | assumption | (simp only [rsD]; first | omega | assumption))) only [large_Large__Add, large_Large__Add_c, Nat.reduceAdd, Nat.reduceMul, Nat.reduceLT, Int.reduceToNat, Int.reduceAdd, Int.reduceSub, Int.reduceMul, rsU, rsC]
theorem ladd_big {n : Int} (hn : 4194304 < n) : Ok (large_Large__Add [.p (some (.n lb, 0)), .i .i64 n] σ) fun r => r.1 = .tup [.i .i64 0, .i .i64 7] ∧ LarAt r.2 lb pb mb M S w L X Y ∧ Keep X σ r.2 := by
  obtain ⟨el, hb⟩ := h.b
  simp only [LarS.cells] at hb
  have e7 : ((7 : Int) != 0) = true := rfl
  simp (config := { maxSteps := 2000000 }) -implicitDefEqProofs (disch := (first | omega | rfl | assumption | (simp only [rsD]; first | omega | assumption))) only [large_Large__Add, large_Large__Add_c, hb, Nat.reduceAdd, Nat.reduceMul, Nat.reduceLT, Int.reduceToNat, Int.reduceAdd, Int.reduceSub, Int.reduceMul, rsU, rsC]
  have g := openXT h.p.mi (hf.calm (by decide)) (n := n)
  rw [show M.opnR n = (M, 0, 7) by unfold MemS.opnR; rw [if_neg (by omega), if_pos (by omega)]] at g
  refine Ok.step g fun r ⟨g1, g2, g3⟩ => ?_
  obtain ⟨q, σ1⟩ := r
  simp only at g1 g2 g3
  subst g1
  simp (config := { maxSteps := 2000000 }) -implicitDefEqProofs (disch := (first | omega | rfl | assumption | (simp only [rsD]; first | omega | assumption))) only [e7, Nat.reduceAdd, Nat.reduceMul, Nat.reduceLT, Int.reduceToNat, Int.reduceAdd, Int.reduceSub, Int.reduceMul, rsU, rsC]
  exact Ok_some.2 ⟨rfl, h.re { h.p with mi := g2, b := g3.head.trans h.p.b } g3.tail.head fun y v _ hv => hv, g3.tail.tail⟩
theorem ladd_ok {n : Int} (h1 : 1 ≤ n) (h2 : n ≤ 4194304) (hcnt : M.count < 262144) (hR : S.more * 6 ≤ 4194304) :
    Ok (large_Large__Add [.p (some (.n lb, 0)), .i .i64 n] σ) fun r => r.1 = .tup [.i .i64 (((S.took.1 : Nat) : Int) + 1), .i .i64 0] ∧ L.ob S.took.1 = none ∧ ∃ M' S' w', LarAt r.2 lb pb mb M' S' w' { L with H := L.H ++ [S.took.1], words := L.words + n, ob := fun j => if j = S.took.1 then some (List.replicate n.toNat 0) else L.ob j } X Y ∧ Alike S.took.2 S' ∧ Beh Y M M' 24 (n + 6 * ((S.took.2.room : Int) - S.room)) 1 ∧ Keep X σ r.2 := by
  obtain ⟨el, hb⟩ := h.b
  simp only [LarS.cells] at hb
  have hc := hf.calm (by decide)
  have e0 : ((0 : Int) != 0) = false := rfl
  have h5 := h.five
  have hel := h.el
  have hhw := h.hw
  have hwb := h.wb
  have hep := h.ep
  simp (config := { maxSteps := 2000000 }) -implicitDefEqProofs (disch := (first | omega | rfl | assumption | (simp only [rsD]; first | omega | assumption))) only [large_Large__Add, large_Large__Add_c, hb, Nat.reduceAdd, Nat.reduceMul, Nat.reduceLT, Int.reduceToNat, Int.reduceAdd, Int.reduceSub, Int.reduceMul, rsU, rsC]
  refine Ok.step (openX h.p.mi hc (n := n) (by omega) h2 hcnt) fun r ⟨g1, g2, g3⟩ => ?_
  obtain ⟨q, σ1⟩ := r
  simp only at g1 g2 g3
  subst g1
  have b1 : Beh Y M (M.opn (ff M.sp) n) 0 n 1 := h.p.mi.ok.opn' (by omega) h2 hcnt (fun y hy => (h.o.others y hy).1)
  have w1 : ∀ y v, wordsOf M.sp y = some v → wordsOf (M.opn (ff M.sp) n).sp y = some v ∧ y ≠ ff M.sp := fun y v hv => opn_other hv
  have hnow : wordsOf (M.opn (ff M.sp) n).sp (ff M.sp) = some (List.replicate n.toNat 0) := opn_words
  generalize hffe : ((ff M.sp : Nat) : Int) = sp at *
  generalize M.opn (ff M.sp) n = M1 at *
  have hsp := spSmall g2.ok hnow
  have p1 : PoolAt σ1 pb mb M1 S w (lb :: X) := { h.p with mi := g2, b := g3.head.trans h.p.b, now := (w1 _ _ h.p.now).1 }
  have hb1 : σ1.blk lb = _ := g3.tail.head.trans hb
  have f1 : M1.far 1000 := b1.far (hf.less (by decide))
  simp (config := { maxSteps := 2000000 }) -implicitDefEqProofs (disch := (first | omega | rfl | assumption | (simp only [rsD]; first | omega | assumption))) only [e0, hb1, Nat.reduceAdd, Nat.reduceMul, Nat.reduceLT, Int.reduceToNat, Int.reduceAdd, Int.reduceSub, Int.reduceMul, rsU, rsC]
  refine Ok.step (ptake_p p1 (f1.calm (by decide)) (by omega) (by rw [h.five]; exact hR) ⟨by have := f1.1; omega, by have := f1.2; omega⟩) fun r ⟨g, k1, t, M2, w2, dr, dw, p2, q2, d1, d2, d3, d4, kp2⟩ => ?_
  obtain ⟨q, σ2⟩ := r
  simp only at k1 p2 kp2
  subst k1
  have hte := p2.p.len
  generalize S.took.1 = i at *
  generalize S.took.2 = S1 at *
  have hid : S1.id = S.id := t.id
  have hw1 : S1.words = 5 := t.words.trans h.five
  have hnow1 : S1.E[i]? = some ⟨true, g, [0, 0, 0, 0, 0]⟩ := by rw [t.now, h.five]; rfl
  have hi1 := (List.getElem?_eq_some_iff.1 hnow1).1
  have hobi : L.ob i = none := by
    cases ho : L.ob i with
    | none => rfl
    | some ws =>
      obtain ⟨e, sq, mk, he, htk, _⟩ := h.at ho
      have := (t.was e he).1
      rw [htk] at this; cases this
  have hiH : i ∉ L.H := fun hm => by obtain ⟨e, ws, _, _, ho⟩ := h.mem (.inl hm); rw [hobi] at ho; cases ho
  have hiW : i ∉ L.W := fun hm => by obtain ⟨e, ws, _, _, ho⟩ := h.mem (.inr hm); rw [hobi] at ho; cases ho
  have hL1 : Linked S1.E 2 3 L.H := h.lH.other fun j hj => t.other j fun e => hiH (e ▸ hj)
  have hW1 : Linked S1.E 2 3 L.W := h.lW.other fun j hj => t.other j fun e => hiW (e ▸ hj)
  have hb2 : σ2.blk lb = _ := kp2.head.trans hb1
  have c2 := Beh.wrt p1.mi.ok p2.mi.ok p1.now q2 d1 (by omega) h.idY
  have f2 : M2.far 990 := c2.far (f1.less (by omega))
  simp (config := { maxSteps := 2000000 }) -implicitDefEqProofs (disch := (first | omega | rfl | assumption | (simp only [rsD]; first | omega | assumption))) only [e0, hb2, Nat.reduceAdd, Nat.reduceMul, Nat.reduceLT, Int.reduceToNat, Int.reduceAdd, Int.reduceSub, Int.reduceMul, rsU, rsC]
  have ps := pset_ok p2 (f2.calm (by decide)) (k := 0) (x := sp) hnow1 rfl (by omega) (by have := f2.1; omega)
  rw [show ((0 : Nat) : Int) = 0 from rfl] at ps
  refine Ok.step ps fun r ⟨s1, M3, w3, p3, q3, kp3⟩ => ?_
  obtain ⟨q, σ3⟩ := r
  simp only [List.set_cons_zero, List.set_cons_succ] at s1 p3 kp3
  subst s1
  have hb3 : σ3.blk lb = _ := kp3.head.trans hb2
  have c3 := Beh.wrt p2.mi.ok p3.mi.ok p2.now q3 (by decide) (by decide) (hid ▸ h.idY)
  have f3 : M3.far 980 := c3.far (f2.less (by decide))
  have hnow3 : (S1.E.set i ⟨true, g, [sp, 0, 0, 0, 0]⟩)[i]? = some ⟨true, g, [sp, 0, 0, 0, 0]⟩ := by rw [List.getElem?_set]; simp [hi1]
  simp (config := { maxSteps := 2000000 }) -implicitDefEqProofs (disch := (first | omega | rfl | assumption | (simp only [rsD]; first | omega | assumption))) only [hb3, Nat.reduceAdd, Nat.reduceMul, Nat.reduceLT, Int.reduceToNat, Int.reduceAdd, Int.reduceSub, Int.reduceMul, rsU, rsC]
  have ps := pset_ok p3 (f3.calm (by decide)) (k := 1) (x := n) hnow3 rfl (by show 1 < S1.words; omega) (by have := f3.1; omega)
  rw [show ((1 : Nat) : Int) = 1 from rfl] at ps
  refine Ok.step ps fun r ⟨s1, M4, w4, p4, q4, kp4⟩ => ?_
  obtain ⟨q, σ4⟩ := r
  simp only [List.set_cons_zero, List.set_cons_succ, List.set_set] at s1 p4 kp4
  subst s1
  have hb4 : σ4.blk lb = _ := kp4.head.trans hb3
  have c4 := Beh.wrt p3.mi.ok p4.mi.ok p3.now q4 (by decide) (by decide) (hid ▸ h.idY)
  have f4 : M4.far 970 := c4.far (f3.less (by decide))
  have hnow4 : (S1.E.set i ⟨true, g, [sp, n, 0, 0, 0]⟩)[i]? = some ⟨true, g, [sp, n, 0, 0, 0]⟩ := by rw [List.getElem?_set]; simp [hi1]
  simp (config := { maxSteps := 2000000 }) -implicitDefEqProofs (disch := (first | omega | rfl | assumption | (simp only [rsD]; first | omega | assumption))) only [hb4, Nat.reduceAdd, Nat.reduceMul, Nat.reduceLT, Int.reduceToNat, Int.reduceAdd, Int.reduceSub, Int.reduceMul, rsU, rsC]
  have ps := pset_ok p4 (f4.calm (by decide)) (k := 4) (x := L.ep) hnow4 rfl (by show 4 < S1.words; omega) (by have := f4.1; omega)
  rw [show ((4 : Nat) : Int) = 4 from rfl] at ps
  refine Ok.step ps fun r ⟨s1, M5, w5, p5, q5, kp5⟩ => ?_
  obtain ⟨q, σ5⟩ := r
  simp only [List.set_cons_zero, List.set_cons_succ, List.set_set] at s1 p5 kp5
  subst s1
  have hb5 : σ5.blk lb = _ := kp5.head.trans hb4
  have c5 := Beh.wrt p4.mi.ok p5.mi.ok p4.now q5 (by decide) (by decide) (hid ▸ h.idY)
  have f5 : M5.far 960 := c5.far (f4.less (by decide))
  have hnow5 : (S1.E.set i ⟨true, g, [sp, n, 0, 0, L.ep]⟩)[i]? = some ⟨true, g, [sp, n, 0, 0, L.ep]⟩ := by rw [List.getElem?_set]; simp [hi1]
  have oth5 : ∀ j, j ≠ i → (S1.E.set i (⟨true, g, [sp, n, 0, 0, L.ep]⟩ : PE))[j]? = S1.E[j]? := fun j hj => by rw [List.getElem?_set, if_neg (fun e : i = j => hj e.symm)]
  have hL5 : Linked (S1.E.set i ⟨true, g, [sp, n, 0, 0, L.ep]⟩) 2 3 L.H := hL1.other fun j hj => oth5 j fun e => hiH (e ▸ hj)
  have hW5 : Linked (S1.E.set i ⟨true, g, [sp, n, 0, 0, L.ep]⟩) 2 3 L.W := hW1.other fun j hj => oth5 j fun e => hiW (e ▸ hj)
  simp (config := { maxSteps := 2000000 }) -implicitDefEqProofs (disch := (first | omega | rfl | assumption | (simp only [rsD]; first | omega | assumption))) only [hb5, Nat.reduceAdd, Nat.reduceMul, Nat.reduceLT, Int.reduceToNat, Int.reduceAdd, Int.reduceSub, Int.reduceMul, rsU, rsC]
  refine Ok.step (ltab_ok p5 hw1 hb5) fun r ⟨g1, g6⟩ => ?_
  obtain ⟨q, σ6⟩ := r
  simp only [tbl] at g1 g6
  subst g1
  have hlt5 : lb < σ5.next := p5.mi.lt _ (by simp)
  have hb6 : σ6.blk lb = _ := (g6.blk _ hlt5).trans hb5
  simp (config := { maxSteps := 2000000 }) -implicitDefEqProofs (disch := (first | omega | rfl | assumption | (simp only [rsD]; first | omega | assumption))) only [hb6, Nat.reduceAdd, Nat.reduceMul, Nat.reduceLT, Int.reduceToNat, Int.reduceAdd, Int.reduceSub, Int.reduceMul, rsU, rsC]
  have tp := tpush_okF (p5.ext g6) (nx := 2) (pv := 3) (by show 2 < S1.words; omega) (by show 3 < S1.words; omega) (by decide) hL5 ⟨by have := f5.1; omega, by have := f5.2; omega⟩ (by omega) hiH hnow5 rfl
  simp only [tbl, chn] at tp
  refine Ok.step tp fun r ⟨s1, M7, w7, E7, dw7, p7, sb7, l7, q7, z1, z2, kp7, fr7⟩ => ?_
  obtain ⟨q, σ7⟩ := r
  simp only at s1 p7 kp7
  subst s1
  have hb7 : σ7.blk lb = _ := kp7.head.trans hb6
  have hlt7 := p7.mi.lt lb (by simp)
  have c7 := Beh.wrt (p5.ext g6).mi.ok p7.mi.ok (p5.ext g6).now q7 (by decide) (by omega) (hid ▸ h.idY)
  simp (config := { maxSteps := 2000000 }) -implicitDefEqProofs (disch := (first | omega | rfl | assumption | (simp only [rsD]; first | omega | assumption))) only [hb7, Nat.reduceAdd, Nat.reduceMul, Nat.reduceLT, Int.reduceToNat, Int.reduceAdd, Int.reduceSub, Int.reduceMul, rsU, rsC]
  have hlen7 : w7.length = S1.room * 6 := by have := p7.p.len; simp only at this; rw [hw1] at this; exact this
  have hpx := p7.nx
  have hv7 : v5 E7 = fun j => if j = i then some (sp, ((n.toNat : Nat) : Int), L.ep) else v5 S.E j := by
    rw [v5_same sb7]
    funext j
    rw [v5_set hi1]
    by_cases hj : j = i
    · subst hj; simp only [↓reduceIte]; rw [Int.toNat_of_nonneg (by omega)]; rfl
    · simp only [if_neg hj]
      unfold v5; rw [t.other j hj]
  have al : Alike S1 { S1 with E := E7 } := (Alike.set (S := S1) (ws := [sp, n, 0, 0, L.ep]) hnow1).trans (Alike.same (S := { S1 with E := S1.E.set i ⟨true, g, [sp, n, 0, 0, L.ep]⟩ }) sb7)
  have w71 : ∀ y v, y ≠ S.id → wordsOf M1.sp y = some v → wordsOf M7.sp y = some v := fun y v hy hv => by
    have hy1 : y ≠ S1.id := by rw [hid]; exact hy
    exact q7.oth (p5.ext g6).now y v hy1 (q5.oth p4.now y v hy1 (q4.oth p3.now y v hy1 (q3.oth p2.now y v hy1 (q2.oth p1.now y v hy hv))))
  have spn : sp ≠ S.id := fun e => (w1 _ _ h.p.now).2 e.symm
  have bt := (((((b1.trans c2).trans c3).trans c4).trans c5).trans c7)
  refine Ok_some.2 ⟨rfl, hobi, M7, _, w7, ⟨p7.turn (L := [lb]) ⟨by simp, fun b hb hm => by simp at hm; simp -implicitDefEqProofs (disch := omega) only [s_bn, s_bs, s_kn, bump_blk]⟩ (fun b hb => by simp at hb; subst hb; exact .inl (by simp)) fun b hb => .inl hb, ⟨_, s_bs⟩, h.nx, hw1, l7, hW5.other fun j hj => fr7 j (fun hm => h.dis j hm hj) (fun e => hiW (e ▸ hj)), fun j hj hjW => ?_, fun j hj => ?_, ?_, h.ep, h.last, ?_⟩, al, bt.as (by omega) ?_ rfl, ?_⟩
  · rcases List.mem_append.1 hj with hj | hj
    · exact h.dis j hj hjW
    · simp at hj; subst hj; exact hiW hjW
  · simp only at hj
    by_cases hji : j = i
    · exact .inl (by simp [hji])
    · rw [if_neg hji] at hj
      rcases h.all j hj with g | g
      · exact .inl (by simp [g])
      · exact .inr g
  · show Objs M7 (v5 E7) S1.id _ _ _ _
    rw [hid]
    exact h.o.add hobi hep.1 (fun j => by rw [hv7]) (fun y v hy hv => w71 y v hy (w1 y v hv).1) (w71 sp _ spn hnow) spn (fun hm => by
      obtain ⟨g, _⟩ := h.o.others sp hm
      cases hv : wordsOf M.sp sp with
      | none => exact g hv
      | some v => exact (w1 _ _ hv).2 rfl) (fun y v hv => (w1 y v hv).2)
  · have hs := h.sum
    have e1 := len_congr (L := L) (L' := { L with H := L.H ++ [i], words := L.words + n, ob := fun j => if j = i then some (List.replicate n.toNat 0) else L.ob j }) (l := L.H) (fun j hj => if_neg (fun e : j = i => hiH (e ▸ hj)))
    have e2 := len_congr (L := L) (L' := { L with H := L.H ++ [i], words := L.words + n, ob := fun j => if j = i then some (List.replicate n.toNat 0) else L.ob j }) (l := L.W) (fun j hj => if_neg (fun e : j = i => hiW (e ▸ hj)))
    have e3 : LarS.len { L with H := L.H ++ [i], words := L.words + n, ob := fun j => if j = i then some (List.replicate n.toNat 0) else L.ob j } i = n.toNat := by unfold LarS.len; simp
    simp only [List.map_append, List.sum_append, List.map_cons, List.map_nil, List.sum_cons, List.sum_nil] at hs ⊢
    omega
  · have := h.wl
    have e2 := p2.p.len
    have e3 := p3.p.len
    have e4 := p4.p.len
    have e5 := p5.p.len
    simp only at e2 e3 e4 e5
    rw [hw1] at e2 e3 e4 e5
    omega
  · exact ((((((g3.tail.tail.trans kp2.tail).trans kp3.tail).trans kp4.tail).trans kp5.tail).trans ⟨g6.next, fun b hb => g6.blk b (p5.mi.lt b (by simp [hb]))⟩).trans kp7.tail).trans (Keep.put h.nx _)
end
end Go.Abs.Try
