/-
  Layer 15: all that is not marked goes. No conditions.
-/
import Derived.Test.YtgmffmgbaelohaaM15d
set_option linter.unusedVariables false
set_option linter.unusedSimpArgs false
set_option linter.constructorNameAsVariable false
set_option linter.unusedSimpArgs false
set_option linter.unusedVariables false
set_option linter.unusedSectionVars false
set_option maxHeartbeats 1000000
namespace Go.Abs.Try
open Go Go.Abs
variable {O : Type}

/-- an entry is given back -/
def PoolS.gave (S : PoolS) (i : Nat) : PoolS := match S.E[i]? with
  | some e => { S with E := S.E.set i ⟨false, e.gen + 1, e.ws.set 0 (hd S.free)⟩, free := (i + 1) :: S.free, taken := S.taken - 1 }
  | none => S
theorem gave_of {S : PoolS} {i : Nat} {e : PE} (he : S.E[i]? = some e) : S.gave i = { S with E := S.E.set i ⟨false, e.gen + 1, e.ws.set 0 (hd S.free)⟩, free := (i + 1) :: S.free, taken := S.taken - 1 } := by unfold PoolS.gave; rw [he]
theorem gave_id (S : PoolS) (i : Nat) : (S.gave i).id = S.id ∧ (S.gave i).words = S.words ∧ (S.gave i).room = S.room ∧ (S.gave i).E.length = S.E.length := by
  unfold PoolS.gave
  split <;> simp
theorem gave_other {S : PoolS} {i j : Nat} (h : j ≠ i) : (S.gave i).E[j]? = S.E[j]? := by
  unfold PoolS.gave
  split
  · simp only; rw [List.getElem?_set, if_neg (Ne.symm h)]
  · rfl
def PoolS.gaves (S : PoolS) (l : List Nat) : PoolS := l.foldl PoolS.gave S
theorem gaves_id : ∀ (l : List Nat) (S : PoolS), (S.gaves l).id = S.id ∧ (S.gaves l).words = S.words ∧ (S.gaves l).room = S.room ∧ (S.gaves l).E.length = S.E.length
  | [], S => ⟨rfl, rfl, rfl, rfl⟩
  | i :: l, S => by
    obtain ⟨a, b, c, d⟩ := gave_id S i
    obtain ⟨a', b', c', d'⟩ := gaves_id l (S.gave i)
    exact ⟨a'.trans a, b'.trans b, c'.trans c, d'.trans d⟩
theorem gaves_other : ∀ (l : List Nat) (S : PoolS) (j : Nat), j ∉ l → (S.gaves l).E[j]? = S.E[j]?
  | [], S, j, _ => rfl
  | i :: l, S, j, h => by
    simp only [List.mem_cons, not_or] at h
    exact (gaves_other l (S.gave i) j h.2).trans (gave_other h.1)
theorem gaves_snoc (l : List Nat) (S : PoolS) (i : Nat) : S.gaves (l ++ [i]) = (S.gaves l).gave i := by unfold PoolS.gaves; rw [List.foldl_append]; rfl
theorem Alike.gave {S S' : PoolS} (h : Alike S S') (i : Nat) : Alike (S.gave i) (S'.gave i) := by
  unfold PoolS.gave
  cases he : S.E[i]? with
  | none =>
    have : S'.E[i]? = none := List.getElem?_eq_none (by rw [h.len]; exact List.getElem?_eq_none_iff.1 he)
    rw [this]; exact h
  | some e =>
    obtain ⟨e', a, b, c⟩ := h.at_ i e he
    rw [a]
    have hi := (List.getElem?_eq_some_iff.1 he).1
    refine ⟨h.id, h.words, h.room, by simp [h.free], by simp [h.taken], by simp [h.len], fun j x hx => ?_⟩
    simp only at hx ⊢
    rw [List.getElem?_set] at hx ⊢
    by_cases hj : i = j
    · subst hj
      rw [if_pos rfl, if_pos hi] at hx; cases hx
      exact ⟨⟨false, e'.gen + 1, e'.ws.set 0 (Abs.Try.hd S'.free)⟩, by rw [if_pos rfl, if_pos (by rw [h.len]; exact hi)], rfl, by simp [c]⟩
    · rw [if_neg hj] at hx ⊢
      exact h.at_ j x hx
theorem Alike.gaves {S S' : PoolS} (h : Alike S S') (l : List Nat) : Alike (S.gaves l) (S'.gaves l) := by
  induction l generalizing S S' with
  | nil => exact h
  | cons i l ih => exact ih (h.gave i)

theorem Objs.gone {M M' : MemS} {V V' : Nat → Option (Int × Int × Int)} {sid : Int} {ob ob' : Nat → Option (List Int)} {ep : Int} {H : List Nat} {Y : List Int} (h : Objs M V sid ob ep H Y) {i : Nat} {ws : List Int} (ho : ob i = some ws) {sp : Int} {n mk : Int} (hi : V i = some (sp, n, mk))
    (hV : ∀ j, V' j = if j = i then none else V j) (hob : ∀ j, ob' j = if j = i then none else ob j) (hw : ∀ y v, y ≠ sid → y ≠ sp → wordsOf M.sp y = some v → wordsOf M'.sp y = some v) : Objs M' V' sid ob' ep H Y := by
  have hsY : sp ∉ Y := by
    obtain ⟨sq, mq, c1, _, _, _, _, _, c9⟩ := h.at_ i ws ho
    rw [hi] at c1; cases c1; exact c9
  refine ⟨fun j hj => ?_, fun j vs hj => ?_, fun j k x a b c d hj hk => ?_, fun y hy => ⟨?_, (h.others y hy).2⟩⟩
  · rw [hV]; rw [hob] at hj
    by_cases hji : j = i
    · rw [if_pos hji]
    · rw [if_neg hji] at hj ⊢; exact h.non j hj
  · rw [hob] at hj
    by_cases hji : j = i
    · rw [if_pos hji] at hj; cases hj
    · rw [if_neg hji] at hj
      obtain ⟨sq, mq, c1, c4, c5, c6, c7, c8, c9⟩ := h.at_ j vs hj
      refine ⟨sq, mq, by rw [hV, if_neg hji]; exact c1, c4, c5, c6, hw _ _ c8 (fun e => hji ?_) c7, c8, c9⟩
      subst e
      exact h.apart _ _ _ _ _ _ _ c1 hi
  · rw [hV] at hj hk
    split at hj
    · cases hj
    · split at hk
      · cases hk
      · exact h.apart _ _ _ _ _ _ _ hj hk
  · obtain ⟨g1, g2⟩ := h.others y hy
    cases hv : wordsOf M.sp y with
    | none => exact absurd hv g1
    | some v => rw [hw y v g2 (fun e => hsY (e ▸ hy)) hv]; simp
/-- so much of the sweep is done -/
structure Swp (σ : AH O) (lb pb mb : Nat) (M0 : MemS) (S : PoolS) (L : LarS) (X : List Nat) (Y : List Int) (σ0 : AH O) (k : Nat) (M : MemS) (w : List Int) : Prop where
  p : PoolAt σ pb mb M (S.gaves (L.W.take k)) w (lb :: X)
  b : σ.blk lb = σ0.blk lb
  o : Objs M (v5 (S.gaves (L.W.take k)).E) S.id (fun j => if j ∈ L.W.take k then none else L.ob j) L.ep L.H Y
  c : Beh Y M0 M (8 * k) (-((((L.W.take k).map L.len).sum : Nat) : Int)) (-(k : Int))
  x : Keep X σ0 σ
section
variable {σ : AH O} {lb pb mb : Nat} {M : MemS} {S : PoolS} {w : List Int} {L : LarS} {X : List Nat} {Y : List Int} (h : LarAt σ lb pb mb M S w L X Y) (hf : M.far 20000000)
include h hf
theorem lsweep_ok (hg : ∀ e ∈ S.E, e.gen < 4611686018427387903) :
    Ok (large_Large__Sweep [.p (some (.n lb, 0))] σ) fun r => r.1 = .tup [.i .i64 (L.W.length : Int), .i .i64 (((L.W.map L.len).sum : Nat) : Int)] ∧ ∃ M' w', LarAt r.2 lb pb mb M' (S.gaves L.W) w' { L with W := [], words := L.words - ((L.W.map L.len).sum : Nat), ob := fun j => if j ∈ L.W then none else L.ob j } X Y ∧ Beh Y M M' (8 * L.W.length) (-(((L.W.map L.len).sum : Nat) : Int)) (-(L.W.length : Int)) ∧ Keep X σ r.2 := by
  obtain ⟨el, hb⟩ := h.b
  have hb0 := hb
  simp only [LarS.cells] at hb
  have hhw := h.hw
  have hel := h.el
  have hwb := h.wb
  have hsum := h.sum
  have hsl : ∀ k, (((L.W.take k).map L.len).sum : Nat) ≤ (L.W.map L.len).sum := fun k => by
    rw [← List.take_append_drop k (L.W.map L.len), List.sum_append, ← List.map_take]; omega
  simp only [List.map_append, List.sum_append] at hsum
  simp (config := { maxSteps := 2000000 }) -implicitDefEqProofs (disch := (first | omega | rfl | assumption | (simp only [rsD]; first | omega | assumption))) only [large_Large__Sweep, large_Large__Sweep_c, hb, Nat.reduceAdd, Nat.reduceMul, Nat.reduceLT, Int.reduceToNat, Int.reduceAdd, Int.reduceSub, Int.reduceMul, rsU, rsC]
  refine Ok.step (Ok.count (Q := fun r => ∃ σ' M' w', r = ([.i .i64 (L.W.length : Int), .i .i64 (((L.W.map L.len).sum : Nat) : Int)], σ') ∧ Swp σ' lb pb mb M S L X Y σ L.W.length M' w') L.W.length
    (fun k s => ∃ σ' M' w', s = ([.i .i64 (k : Int), .i .i64 ((((L.W.take k).map L.len).sum : Nat) : Int), .i .i64 ((match L.W[k]? with | some i => i + 1 | none => 0 : Nat) : Int), .i .i64 (k : Int)], σ') ∧ Swp σ' lb pb mb M S L X Y σ k M' w') ?_ ?_ ?_) ?_
  · rintro k _ hk ⟨σ1, M1, w1, rfl, s⟩
    have hi := List.getElem?_eq_getElem hk
    generalize hii : L.W[k] = i at hi
    rw [hi]
    simp only
    have hiW := List.mem_of_getElem? hi
    have htk : L.W.take (k + 1) = L.W.take k ++ [i] := by rw [List.take_succ_eq_append_getElem hk, hii]
    have hit : i ∉ L.W.take k := fun hm => by
      obtain ⟨j, hj⟩ := List.getElem?_of_mem hm
      rw [List.getElem?_take] at hj
      split at hj
      · rename_i hjk
        have := nodup_at h.lW.nd hj hi
        omega
      · cases hj
    obtain ⟨e0, ws, he0, ht0, ho0⟩ := h.mem (.inr hiW)
    obtain ⟨gid, gw, gr, gl⟩ := gaves_id (L.W.take k) S
    have he : (S.gaves (L.W.take k)).E[i]? = some e0 := (gaves_other _ S i hit).trans he0
    obtain ⟨e0', sp, mk, he0', htk', a1, a2, a3, a4, a5, a6, a7, a8, a9⟩ := h.at ho0
    rw [he0] at he0'; cases he0'
    have hol := h.ol ho0
    obtain ⟨e1, he1, hlk⟩ := h.lW.at_ k i hi
    rw [he0] at he1; cases he1
    have f1 : M1.far 1000 := s.c.far (hf.less (by omega))
    obtain ⟨n1, n2, n3⟩ := h.lW.small (B := 699050) h.el
    have hnb := (n3 k).1
    have hgw : (S.gaves (L.W.take k)).words = 5 := gw.trans h.five
    have hb1 : σ1.blk lb = _ := s.b.trans hb
    have hs1 := hsl k
    have hs2 := hsl (k + 1)
    have hlen0 : L.len i = ws.length := by unfold LarS.len; rw [ho0]; rfl
    have hmk : (((L.W.take (k + 1)).map L.len).sum : Nat) = ((L.W.take k).map L.len).sum + ws.length := by rw [htk]; simp [hlen0]
    simp (config := { maxSteps := 2000000 }) -implicitDefEqProofs (disch := (first | omega | rfl | assumption | (simp only [rsD]; first | omega | assumption))) only [large_Large__Sweep_L1, Nat.reduceAdd, Nat.reduceMul, Nat.reduceLT, Int.reduceToNat, Int.reduceAdd, Int.reduceSub, Int.reduceMul, rsU, rsC]
    refine Ok.step (ltab_ok s.p hgw hb1) fun r ⟨g1, g2⟩ => ?_
    obtain ⟨q, σ2⟩ := r
    simp only [tbl] at g1 g2
    subst g1
    have hb2 : σ2.blk lb = _ := (g2.blk _ (s.p.mi.lt _ (by simp))).trans hb1
    simp (config := { maxSteps := 2000000 }) -implicitDefEqProofs (disch := (first | omega | rfl | assumption | (simp only [rsD]; first | omega | assumption))) only [Nat.reduceAdd, Nat.reduceMul, Nat.reduceLT, Int.reduceToNat, Int.reduceAdd, Int.reduceSub, Int.reduceMul, rsU, rsC]
    have ta := tafter_ok (s.p.ext g2) (nx := 2) (pv := 3) (by rw [hgw]; decide) (by rw [hgw]; decide) (by decide) (f1.calm (by decide)) he hlk.n (by omega)
    simp only [tbl] at ta
    refine Ok.step ta fun r ⟨k1, M2, p2, q2, k2⟩ => ?_
    obtain ⟨q, σ3⟩ := r
    simp only at k1 p2 k2
    subst k1
    have hb3 : σ3.blk lb = _ := k2.head.trans hb2
    have c2 : Beh Y M1 M2 1 0 0 := by
      have := Beh.wrt s.p.mi.ok p2.mi.ok s.p.now q2 (by decide) (by decide) (gid ▸ h.idY)
      rw [Int.sub_self] at this
      exact this.as (by decide) rfl rfl
    have f2 : M2.far 990 := c2.far (f1.less (by decide))
    simp (config := { maxSteps := 2000000 }) -implicitDefEqProofs (disch := (first | omega | rfl | assumption | (simp only [rsD]; first | omega | assumption))) only [hb3, Nat.reduceAdd, Nat.reduceMul, Nat.reduceLT, Int.reduceToNat, Int.reduceAdd, Int.reduceSub, Int.reduceMul, rsU, rsC]
    have pg := pget_ok p2 (f2.calm (by decide)) (k := 0) he ht0 (by rw [hgw]; decide) (by have := f2.1; omega)
    rw [show ((0 : Nat) : Int) = 0 from rfl, List.getD_eq_getElem?_getD, a1] at pg
    refine Ok.step pg fun r ⟨k1, M3, p3, q3, k3⟩ => ?_
    obtain ⟨q, σ4⟩ := r
    simp only [Option.getD_some] at k1 p3 k3
    subst k1
    have hb4 : σ4.blk lb = _ := k3.head.trans hb3
    have c3 : Beh Y M2 M3 2 0 0 := by
      have := Beh.wrt p2.mi.ok p3.mi.ok p2.now q3 (by decide) (by decide) (gid ▸ h.idY)
      rw [Int.sub_self] at this
      exact this.as (by decide) rfl rfl
    have f3 : M3.far 980 := c3.far (f2.less (by decide))
    simp (config := { maxSteps := 2000000 }) -implicitDefEqProofs (disch := (first | omega | rfl | assumption | (simp only [rsD]; first | omega | assumption))) only [hb4, Nat.reduceAdd, Nat.reduceMul, Nat.reduceLT, Int.reduceToNat, Int.reduceAdd, Int.reduceSub, Int.reduceMul, rsU, rsC]
    have pg := pget_ok p3 (f3.calm (by decide)) (k := 1) he ht0 (by rw [hgw]; decide) (by have := f3.1; omega)
    rw [show ((1 : Nat) : Int) = 1 from rfl, List.getD_eq_getElem?_getD, a2] at pg
    refine Ok.step pg fun r ⟨k1, M4, p4, q4, k4⟩ => ?_
    obtain ⟨q, σ5⟩ := r
    simp only [Option.getD_some] at k1 p4 k4
    subst k1
    have hb5 : σ5.blk lb = _ := k4.head.trans hb4
    have c4 : Beh Y M3 M4 2 0 0 := by
      have := Beh.wrt p3.mi.ok p4.mi.ok p3.now q4 (by decide) (by decide) (gid ▸ h.idY)
      rw [Int.sub_self] at this
      exact this.as (by decide) rfl rfl
    have f4 : M4.far 970 := c4.far (f3.less (by decide))
    -- its space
    have hoik : (fun j => if j ∈ L.W.take k then none else L.ob j) i = some ws := by simp only; rw [if_neg hit]; exact ho0
    have hvi : v5 (S.gaves (L.W.take k)).E i = some (sp, (ws.length : Int), mk) := v5_mk he ht0 a1 a2 a3
    obtain ⟨sq, mq, d1, d2, d3, d4, d5, d6, d7⟩ := s.o.at_ i ws hoik
    rw [hvi] at d1; cases d1
    have x2 := q2.oth s.p.now
    have x3 := q3.oth p2.now
    have x4 := q4.oth p3.now
    rw [gid] at x2 x3 x4
    have hw4 : wordsOf M4.sp sp = some ws := x4 _ _ a8 (x3 _ _ a8 (x2 _ _ a8 d5))
    have hsp := spSmall p4.mi.ok hw4
    simp (config := { maxSteps := 2000000 }) -implicitDefEqProofs (disch := (first | omega | rfl | assumption | (simp only [rsD]; first | omega | assumption))) only [hb5, Nat.reduceAdd, Nat.reduceMul, Nat.reduceLT, Int.reduceToNat, Int.reduceAdd, Int.reduceSub, Int.reduceMul, rsU, rsC]
    refine Ok.step (closeX p4.mi (f4.calm (by decide)) hw4 (by omega)) fun r ⟨k1, p5, k5⟩ => ?_
    obtain ⟨q, σ6⟩ := r
    simp only at k1 p5 k5
    subst k1
    have hb6 : σ6.blk lb = _ := k5.tail.head.trans hb5
    have c5 : Beh Y M4 (M4.close sp.toNat ws) 0 (-(ws.length : Int)) (-1) := Beh.close hsp.1 a9
    have f5 : (M4.close sp.toNat ws).far 960 := c5.far (f4.less (by decide))
    have x5 : ∀ y v, y ≠ sp → wordsOf M4.sp y = some v → wordsOf (M4.close sp.toNat ws).sp y = some v := fun y v hy hv => (cls_other hsp.1 hy).trans hv
    have p6 : PoolAt σ6 pb mb (M4.close sp.toNat ws) (S.gaves (L.W.take k)) w1 (lb :: X) := { p4 with mi := p5, b := k5.head.trans p4.b, now := x5 _ _ (by rw [gid]; exact Ne.symm a8) p4.now }
    generalize M4.close sp.toNat ws = M5 at *
    simp (config := { maxSteps := 2000000 }) -implicitDefEqProofs (disch := (first | omega | rfl | assumption | (simp only [rsD]; first | omega | assumption))) only [hb6, Nat.reduceAdd, Nat.reduceMul, Nat.reduceLT, Int.reduceToNat, Int.reduceAdd, Int.reduceSub, Int.reduceMul, rsU, rsC]
    have hgen := hg e0 (List.mem_of_getElem? he0)
    refine Ok.step (pgive_ok p6 (f5.calm (by decide)) he ht0 (by omega) ⟨by have := f5.1; omega, by have := f5.2; omega⟩) fun r ⟨k1, M6, w6, p7, q7, k7⟩ => ?_
    obtain ⟨q, σ7⟩ := r
    simp only at k1 p7 k7
    subst k1
    rw [← gave_of he, ← gaves_snoc, ← htk] at p7
    have c7 : Beh Y M5 M6 3 0 0 := by
      have := Beh.wrt p6.mi.ok p7.mi.ok p6.now q7 (by decide) (by decide) (gid ▸ h.idY)
      have l1 := p6.p.len
      have l2 := p7.p.len
      obtain ⟨_, gw', gr', _⟩ := gaves_id (L.W.take (k + 1)) S
      rw [gr', gw'] at l2
      rw [gr, gw] at l1
      rw [l1, l2, Int.sub_self] at this
      exact this.as (by decide) rfl rfl
    have x7 := q7.oth p6.now
    rw [gid] at x7
    simp (config := { maxSteps := 2000000 }) -implicitDefEqProofs (disch := (first | omega | rfl | assumption | (simp only [rsD]; first | omega | assumption))) only [Nat.reduceAdd, Nat.reduceMul, Nat.reduceLT, Int.reduceToNat, Int.reduceAdd, Int.reduceSub, Int.reduceMul, rsU, rsC]
    refine Ok_some.2 ⟨σ7, M6, w6, ?_, p7, (k7.head.trans hb6).trans hb.symm, ?_, ?_, ?_⟩
    · have hn : nid L.W k = (match L.W[k + 1]? with | some i => i + 1 | none => 0 : Nat) := rfl
      rw [hmk]
      simp only [← hn, Int.natCast_add]
      rfl
    · have hE : (S.gaves (L.W.take (k + 1))).E = (S.gaves (L.W.take k)).E.set i ⟨false, e0.gen + 1, e0.ws.set 0 (hd (S.gaves (L.W.take k)).free)⟩ := by rw [htk, gaves_snoc, gave_of he]
      refine s.o.gone hoik hvi (fun j => ?_) (fun j => ?_) (fun y v hy hy2 hv => x7 y v hy (x5 y v hy2 (x4 y v hy (x3 y v hy (x2 y v hy hv)))))
      · rw [hE, v5_set (List.getElem?_eq_some_iff.1 he).1]
        by_cases hj : j = i
        · subst hj; simp only [↓reduceIte]; rfl
        · simp only [if_neg hj]
      · rw [htk]
        by_cases hj : j = i
        · subst hj; simp
        · simp [hj]
    · rw [hmk]
      exact (((((s.c.trans c2).trans c3).trans c4).trans c5).trans c7).as (by omega) (by omega) (by omega)
    · exact (((((s.x.trans ⟨g2.next, fun b hb => g2.blk b (s.p.mi.lt b (by simp [hb]))⟩).trans k2.tail).trans k3.tail).trans k4.tail).trans k5.tail.tail).trans k7.tail
  · rintro _ ⟨σ1, M1, w1, rfl, s⟩
    rw [List.getElem?_eq_none (Nat.le_refl _)]
    simp (config := { maxSteps := 2000000 }) -implicitDefEqProofs (disch := (first | omega | rfl | assumption | (simp only [rsD]; first | omega | assumption))) only [large_Large__Sweep_L1, Nat.reduceAdd, Nat.reduceMul, Nat.reduceLT, Int.reduceToNat, Int.reduceAdd, Int.reduceSub, Int.reduceMul, rsU, rsC]
    exact Ok_some.2 ⟨σ1, M1, w1, rfl, s⟩
  · refine ⟨σ, M, w, ?_, ⟨?_, rfl, ?_, ?_, Keep.refl _ _⟩⟩
    · have : (hdI L.W : Nat) = (match L.W[0]? with | some i => i + 1 | none => 0 : Nat) := by cases L.W <;> rfl
      rw [← this]; rfl
    · rw [List.take_zero]; exact h.p
    · rw [List.take_zero]
      have : (fun j => if j ∈ ([] : List Nat) then none else L.ob j) = L.ob := by funext j; simp
      rw [this]; exact h.o
    · rw [List.take_zero]; exact (Beh.refl Y M).as (by decide) rfl rfl
  · rintro _ ⟨σ1, M1, w1, rfl, s⟩
    have hb1 : σ1.blk lb = _ := s.b.trans hb
    simp (config := { maxSteps := 2000000 }) -implicitDefEqProofs (disch := (first | omega | rfl | assumption | (simp only [rsD]; first | omega | assumption))) only [hb1, Nat.reduceAdd, Nat.reduceMul, Nat.reduceLT, Int.reduceToNat, Int.reduceAdd, Int.reduceSub, Int.reduceMul, rsU, rsC]
    have sp := s.p
    have so := s.o
    have sc := s.c
    rw [List.take_length] at sp so sc
    obtain ⟨gid, gw, gr, gl⟩ := gaves_id L.W S
    refine Ok_some.2 ⟨rfl, M1, w1, ⟨sp.turn (L := [lb]) ⟨by simp, fun b hb hm => by simp at hm; simp -implicitDefEqProofs (disch := omega) only [s_bn, s_bs, s_kn, bump_blk]⟩ (fun b hb => by simp at hb; subst hb; exact .inl (by simp)) fun b hb => .inl hb, ⟨_, s_bs⟩, h.nx, gw.trans h.five, h.lH.other fun j hj => gaves_other _ S j (h.dis j hj), Linked.nil _ _ _, fun i _ hm => by simp at hm, fun j hj => ?_, ?_, h.ep, h.last, ?_⟩, sc, s.x.trans (Keep.put h.nx _)⟩
    · simp only at hj
      by_cases hjW : j ∈ L.W
      · rw [if_pos hjW] at hj; exact absurd rfl hj
      · rw [if_neg hjW] at hj
        exact .inl ((h.all j hj).resolve_right hjW)
    · rw [gid]; exact so
    · have e1 := len_congr (L := L) (L' := { L with W := [], words := L.words - ((L.W.map L.len).sum : Nat), ob := fun j => if j ∈ L.W then none else L.ob j }) (l := L.H) (fun j hj => if_neg (h.dis j hj))
      simp only [List.append_nil]
      omega
end
end Go.Abs.Try
