/-
  Layer 15: large objects are marked. No conditions.
-/
import Derived.Test.YtgmffmgbaelohaaM15c
set_option linter.unusedVariables false
set_option linter.unusedSimpArgs false
set_option linter.constructorNameAsVariable false
set_option linter.unusedSimpArgs false
set_option linter.unusedVariables false
set_option linter.unusedSectionVars false
set_option maxHeartbeats 1000000
namespace Go.Abs.Try
open Go Go.Abs
variable {O : Type}

theorem Objs.begin {M : MemS} {V : Nat → Option (Int × Int × Int)} {sid : Int} {ob : Nat → Option (List Int)} {ep : Int} {H : List Nat} {Y : List Int} (h : Objs M V sid ob ep H Y) : Objs M V sid ob (ep + 1) [] Y :=
  ⟨h.non, fun i ws ho => by
    obtain ⟨sp, mk, a1, a2, a3, a4, a5, a6, a7⟩ := h.at_ i ws ho
    exact ⟨sp, mk, a1, a2, by omega, ⟨fun e => by omega, fun hm => by cases hm⟩, a5, a6, a7⟩, h.apart, h.others⟩
theorem Objs.mark {M : MemS} {V V' : Nat → Option (Int × Int × Int)} {sid : Int} {ob : Nat → Option (List Int)} {ep : Int} {H : List Nat} {Y : List Int} (h : Objs M V sid ob ep H Y) {i : Nat} {ws : List Int} (ho : ob i = some ws) {sp mk : Int} (h0 : 0 ≤ ep) (hi : V i = some (sp, (ws.length : Int), mk))
    (hV : ∀ j, V' j = if j = i then some (sp, (ws.length : Int), ep) else V j) : Objs M V' sid ob ep (H ++ [i]) Y := by
  have back : ∀ (j : Nat) (x a b : Int), V' j = some (x, a, b) → ∃ a' b', V j = some (x, a', b') := fun j x a b hj => by
    rw [hV] at hj
    split at hj
    · rename_i e; subst e; cases hj; exact ⟨_, _, hi⟩
    · exact ⟨_, _, hj⟩
  refine ⟨fun j hj => ?_, fun j vs hj => ?_, fun j k x a b c d hj hk => ?_, h.others⟩
  · rw [hV, if_neg (fun e => by subst e; rw [ho] at hj; cases hj)]; exact h.non j hj
  · obtain ⟨sq, mq, c1, c4, c5, c6, c7, c8, c9⟩ := h.at_ j vs hj
    by_cases hji : j = i
    · subst hji
      rw [ho] at hj; cases hj
      rw [hi] at c1
      simp only [Option.some.injEq, Prod.mk.injEq] at c1
      obtain ⟨rfl, _, rfl⟩ := c1
      exact ⟨sp, ep, by rw [hV, if_pos rfl], h0, Int.le_refl _, by simp, c7, c8, c9⟩
    · exact ⟨sq, mq, by rw [hV, if_neg hji]; exact c1, c4, c5, by rw [c6]; simp [hji], c7, c8, c9⟩
  · obtain ⟨a', b', g1⟩ := back j x a b hj
    obtain ⟨c', d', g2⟩ := back k x c d hk
    exact h.apart _ _ _ _ _ _ _ g1 g2
theorem eraseIdx_filter : ∀ {W : List Nat} {d i : Nat}, W.Nodup → W[d]? = some i → W.eraseIdx d = W.filter (fun j => j != i)
  | [], d, i, _, h => by simp at h
  | a :: W, 0, i, hn, h => by
    simp at h; subst h
    have := List.nodup_cons.1 hn
    simp only [List.eraseIdx_cons_zero]
    rw [List.filter_cons_of_neg (by simp)]
    exact (List.filter_eq_self.2 fun x hx => by simp; exact fun e => this.1 (e ▸ hx)).symm
  | a :: W, d + 1, i, hn, h => by
    have hn := List.nodup_cons.1 hn
    have hm := List.mem_of_getElem? (show W[d]? = some i by simpa using h)
    rw [List.eraseIdx_cons_succ, List.filter_cons_of_pos (by simp; exact fun e => hn.1 (e ▸ hm)), eraseIdx_filter hn.2 (by simpa using h)]
theorem sum_erase {f : Nat → Nat} : ∀ {W : List Nat} {d i : Nat}, W[d]? = some i → ((W.eraseIdx d).map f).sum + f i = (W.map f).sum
  | [], d, i, h => by simp at h
  | a :: W, 0, i, h => by simp at h; subst h; simp; omega
  | a :: W, d + 1, i, h => by
    simp only [List.eraseIdx_cons_succ, List.map_cons, List.sum_cons]
    have := sum_erase (f := f) (W := W) (d := d) (i := i) (by simpa using h)
    omega
theorem put_facts {σ σ1 : AH O} {b : Nat} {x : Blk O} (h : σ.put b x = σ1) : σ1.blk b = some x ∧ σ1.next = σ.next ∧ ∀ q, q ≠ b → σ1.blk q = σ.blk q := by
  subst h; exact ⟨s_bs, rfl, fun q hq => s_bn hq⟩
theorem hd_pid1 {H : List Nat} (h : 0 < H.length) : hdI H = pid H 1 := by
  cases H with
  | nil => simp at h
  | cons a r => rfl
section
variable {σ : AH O} {lb pb mb : Nat} {M : MemS} {S : PoolS} {w : List Int} {L : LarS} {X : List Nat} {Y : List Int} (h : LarAt σ lb pb mb M S w L X Y) (hf : M.far 1000)
include h hf
omit hf in
theorem LarAt.mid {σ' : AH O} {M' : MemS} {E' : List PE} {w' : List Int} {dr dw : Int} (hp : PoolAt σ' pb mb M' { S with E := E' } w' (lb :: X)) (hq : Wrt M M' S.id w' dr dw) (h0 : 0 ≤ dr) (h1 : 0 ≤ dw) (hs : SameBut 2 3 S.E E') : Beh Y M M' (dr + dw) 0 0 := by
  refine h.beh hq hp.mi.ok h0 h1 ?_
  have := hp.p.len
  simp only at this
  rw [this, h.five, h.wl]
theorem lbegin_ok (hep : L.ep + 1 < 4611686018427387904) :
    Ok (large_Large__Begin [.p (some (.n lb, 0))] σ) fun r => r.1 = .tup [] ∧ ∃ M' S' w', LarAt r.2 lb pb mb M' S' w' { L with H := [], W := L.W ++ L.H, ep := L.ep + 1, last := 0 } X Y ∧ Alike S S' ∧ Beh Y M M' 2 0 0 ∧ Keep X σ r.2 := by
  obtain ⟨el, hb⟩ := h.b
  simp only [LarS.cells] at hb
  have hel := h.el
  have hhw := h.hw
  have hep0 := h.ep
  simp (config := { maxSteps := 2000000 }) -implicitDefEqProofs (disch := (first | omega | rfl | assumption | (simp only [rsD]; first | omega | assumption))) only [large_Large__Begin, large_Large__Begin_c, hb, Nat.reduceAdd, Nat.reduceMul, Nat.reduceLT, Int.reduceToNat, Int.reduceAdd, Int.reduceSub, Int.reduceMul, rsU, rsC]
  generalize hσ : σ.put lb (.cells true el _) = σ1
  obtain ⟨hb1, n1, _⟩ := put_facts hσ
  have k1 : Keep X σ σ1 := by rw [← hσ]; exact Keep.put h.nx _
  have p1 : PoolAt σ1 pb mb M S w (lb :: X) := by
    rw [← hσ]
    exact h.p.turn (L := [lb]) ⟨by simp, fun b hb hm => by simp at hm; simp -implicitDefEqProofs (disch := omega) only [s_bn, s_bs, s_kn, bump_blk]⟩ (fun b hb => by simp at hb; subst hb; exact .inl (by simp)) fun b hb => .inl hb
  clear hσ
  refine Ok.step (ltab_ok p1 h.five hb1) fun r ⟨g1, g2⟩ => ?_
  obtain ⟨q, σ2⟩ := r
  simp only [tbl] at g1 g2
  subst g1
  have hlt1 := p1.mi.lt lb (by simp)
  have hb2 : σ2.blk lb = _ := (g2.blk _ hlt1).trans hb1
  simp (config := { maxSteps := 2000000 }) -implicitDefEqProofs (disch := (first | omega | rfl | assumption | (simp only [rsD]; first | omega | assumption))) only [hb2, Nat.reduceAdd, Nat.reduceMul, Nat.reduceLT, Int.reduceToNat, Int.reduceAdd, Int.reduceSub, Int.reduceMul, rsU, rsC]
  have tj := tjoin_ok (p1.ext g2) (nx := 2) (pv := 3) (by rw [h.five]; decide) (by rw [h.five]; decide) (by decide) h.lW h.lH (fun i hi hm => h.dis i hm hi) ⟨by have := hf.1; omega, by have := hf.2; omega⟩ (by omega) (by omega)
  simp only [tbl, chn] at tj
  refine Ok.step tj fun r ⟨s1, M3, w3, E3, dw3, p3, sb3, l3, q3, z1, z2, kp3, fr3⟩ => ?_
  obtain ⟨q, σ3⟩ := r
  simp only at s1 p3 kp3
  subst s1
  have hb3 : σ3.blk lb = _ := kp3.head.trans hb2
  simp (config := { maxSteps := 2000000 }) -implicitDefEqProofs (disch := (first | omega | rfl | assumption | (simp only [rsD]; first | omega | assumption))) only [hb3, Nat.reduceAdd, Nat.reduceMul, Nat.reduceLT, Int.reduceToNat, Int.reduceAdd, Int.reduceSub, Int.reduceMul, rsU, rsC]
  refine Ok_some.2 ⟨rfl, M3, _, w3, ⟨p3.turn (L := [lb]) ⟨by simp, fun b hb hm => by simp at hm; simp -implicitDefEqProofs (disch := omega) only [s_bn, s_bs, s_kn, bump_blk]⟩ (fun b hb => by simp at hb; subst hb; exact .inl (by simp)) fun b hb => .inl hb, ⟨_, s_bs⟩, h.nx, h.five, Linked.nil _ _ _, l3, fun i hi => by simp at hi, fun j hj => ?_, ?_, ⟨by simp only; omega, by simp only; omega⟩, by simp only; omega, ?_⟩, Alike.same sb3, (h.mid p3 q3 (by decide) z1 sb3).as (by omega) rfl rfl, ?_⟩
  · exact .inr (List.mem_append.2 ((h.all j hj).symm))
  · show Objs M3 (v5 E3) S.id _ _ _ _
    rw [v5_same sb3]
    exact (h.o.begin).mem (q3.oth h.p.now)
  · have hs := h.sum
    show L.words = (((([] ++ (L.W ++ L.H)).map L.len).sum : Nat) : Int)
    simp only [List.nil_append, List.map_append, List.sum_append] at hs ⊢
    omega
  · exact ((k1.trans ⟨g2.next, fun b hb => g2.blk b (p1.mi.lt b (by simp [hb]))⟩).trans kp3.tail).trans (Keep.put h.nx _)
theorem lmark_no {id : Int} (hn : ∀ i : Nat, id = (i : Int) + 1 → L.ob i = none) :
    Ok (large_Large__Mark [.p (some (.n lb, 0)), .i .i64 id] σ) fun r => r.1 = .tup [.b false, .i .i64 4] ∧ ∃ M', LarAt r.2 lb pb mb M' S w L X Y ∧ Beh Y M M' 1 0 0 ∧ Keep X σ r.2 := by
  have e4 : ((4 : Int) != 0) = true := rfl
  simp (config := { maxSteps := 2000000 }) -implicitDefEqProofs (disch := (first | omega | rfl | assumption | (simp only [rsD]; first | omega | assumption))) only [large_Large__Mark, large_Large__Mark_c, Nat.reduceAdd, Nat.reduceMul, Nat.reduceLT, Int.reduceToNat, Int.reduceAdd, Int.reduceSub, Int.reduceMul, rsU, rsC]
  refine Ok.step (lmarked_no h hf hn) fun r ⟨g1, M', g2, g3, g4⟩ => ?_
  obtain ⟨q, σ1⟩ := r
  simp only at g1 g2 g4
  subst g1
  simp (config := { maxSteps := 2000000 }) -implicitDefEqProofs (disch := (first | omega | rfl | assumption | (simp only [rsD]; first | omega | assumption))) only [e4, Nat.reduceAdd, Nat.reduceMul, Nat.reduceLT, Int.reduceToNat, Int.reduceAdd, Int.reduceSub, Int.reduceMul, rsU, rsC]
  exact Ok_some.2 ⟨rfl, M', g2, g3, g4⟩
theorem lmark_old {i : Nat} (hi : i ∈ L.H) :
    Ok (large_Large__Mark [.p (some (.n lb, 0)), .i .i64 ((i : Int) + 1)] σ) fun r => r.1 = .tup [.b false, .i .i64 0] ∧ ∃ M', LarAt r.2 lb pb mb M' S w L X Y ∧ Beh Y M M' 2 0 0 ∧ Keep X σ r.2 := by
  obtain ⟨e, ws, _, _, ho⟩ := h.mem (.inl hi)
  have g := lmarked_ok h hf ho
  rw [decide_eq_true hi] at g
  simp (config := { maxSteps := 2000000 }) -implicitDefEqProofs (disch := (first | omega | rfl | assumption | (simp only [rsD]; first | omega | assumption))) only [large_Large__Mark, large_Large__Mark_c, Nat.reduceAdd, Nat.reduceMul, Nat.reduceLT, Int.reduceToNat, Int.reduceAdd, Int.reduceSub, Int.reduceMul, rsU, rsC]
  refine Ok.step g fun r ⟨g1, M', g2, g3, g4⟩ => ?_
  obtain ⟨q, σ1⟩ := r
  simp only at g1 g2 g4
  subst g1
  simp (config := { maxSteps := 2000000 }) -implicitDefEqProofs (disch := (first | omega | rfl | assumption | (simp only [rsD]; first | omega | assumption))) only [Nat.reduceAdd, Nat.reduceMul, Nat.reduceLT, Int.reduceToNat, Int.reduceAdd, Int.reduceSub, Int.reduceMul, rsU, rsC]
  exact Ok_some.2 ⟨rfl, M', g2, h.beh2 hf g3 g2.p.mi.ok, g4.tail⟩
theorem lmark_ok {i : Nat} {ws : List Int} (ho : L.ob i = some ws) (hi : i ∉ L.H) :
    Ok (large_Large__Mark [.p (some (.n lb, 0)), .i .i64 ((i : Int) + 1)] σ) fun r => r.1 = .tup [.b true, .i .i64 0] ∧ ∃ M' S' w', LarAt r.2 lb pb mb M' S' w' { L with H := L.H ++ [i], W := L.W.filter (fun j => j != i) } X Y ∧ Alike S S' ∧ Beh Y M M' 12 0 0 ∧ Keep X σ r.2 := by
  have g := lmarked_ok h hf ho
  rw [decide_eq_false hi] at g
  have e0 : ((0 : Int) != 0) = false := rfl
  have hiW : i ∈ L.W := (h.all i (by rw [ho]; simp)).resolve_left hi
  obtain ⟨d, hd⟩ := List.getElem?_of_mem hiW
  have hel := h.el
  have hhw := h.hw
  have hep0 := h.ep
  simp (config := { maxSteps := 2000000 }) -implicitDefEqProofs (disch := (first | omega | rfl | assumption | (simp only [rsD]; first | omega | assumption))) only [large_Large__Mark, large_Large__Mark_c, Nat.reduceAdd, Nat.reduceMul, Nat.reduceLT, Int.reduceToNat, Int.reduceAdd, Int.reduceSub, Int.reduceMul, rsU, rsC]
  refine Ok.step g fun r ⟨g1, M1, p1, q1, k1⟩ => ?_
  obtain ⟨q, σ1⟩ := r
  simp only at g1 p1 k1
  subst g1
  have c1 := h.beh2 hf q1 p1.p.mi.ok
  have f1 : M1.far 998 := c1.far (hf.less (by decide))
  obtain ⟨el, hb1⟩ := p1.b
  simp only [LarS.cells] at hb1
  simp (config := { maxSteps := 2000000 }) -implicitDefEqProofs (disch := (first | omega | rfl | assumption | (simp only [rsD]; first | omega | assumption))) only [e0, hb1, Nat.reduceAdd, Nat.reduceMul, Nat.reduceLT, Int.reduceToNat, Int.reduceAdd, Int.reduceSub, Int.reduceMul, rsU, rsC]
  refine Ok.step (ltab_ok p1.p h.five hb1) fun r ⟨g1, g2⟩ => ?_
  obtain ⟨q, σ2⟩ := r
  simp only [tbl] at g1 g2
  subst g1
  have hb2 : σ2.blk lb = _ := (g2.blk _ p1.lt).trans hb1
  simp (config := { maxSteps := 2000000 }) -implicitDefEqProofs (disch := (first | omega | rfl | assumption | (simp only [rsD]; first | omega | assumption))) only [hb2, Nat.reduceAdd, Nat.reduceMul, Nat.reduceLT, Int.reduceToNat, Int.reduceAdd, Int.reduceSub, Int.reduceMul, rsU, rsC]
  have td := tdrop_okF (p1.p.ext g2) (nx := 2) (pv := 3) (by rw [h.five]; decide) (by rw [h.five]; decide) (by decide) h.lW ⟨by have := f1.1; omega, by have := f1.2; omega⟩ (by omega) hd
  simp only [tbl, chn] at td
  refine Ok.step td fun r ⟨s1, M3, w3, E3, dw3, p3, sb3, l3, q3, z1, z2, kp3, fr3⟩ => ?_
  obtain ⟨q, σ3⟩ := r
  simp only at s1 p3 kp3
  subst s1
  have hb3 : σ3.blk lb = _ := kp3.head.trans hb2
  have c3 := p1.mid p3 q3 (by decide) z1 sb3
  have f3 : M3.far 990 := c3.far (f1.less (by omega))
  simp (config := { maxSteps := 2000000 }) -implicitDefEqProofs (disch := (first | omega | rfl | assumption | (simp only [rsD]; first | omega | assumption))) only [hb3, Nat.reduceAdd, Nat.reduceMul, Nat.reduceLT, Int.reduceToNat, Int.reduceAdd, Int.reduceSub, Int.reduceMul, rsU, rsC]
  generalize hσ : σ3.put lb (.cells true el _) = σ4
  obtain ⟨hb4, _, _⟩ := put_facts hσ
  have k4 : Keep X σ3 σ4 := by rw [← hσ]; exact Keep.put h.nx _
  have p4 : PoolAt σ4 pb mb M3 { S with E := E3 } w3 (lb :: X) := by
    rw [← hσ]
    exact p3.turn (L := [lb]) ⟨by simp, fun b hb hm => by simp at hm; simp -implicitDefEqProofs (disch := omega) only [s_bn, s_bs, s_kn, bump_blk]⟩ (fun b hb => by simp at hb; subst hb; exact .inl (by simp)) fun b hb => .inl hb
  clear hσ
  refine Ok.step (ltab_ok p4 h.five hb4) fun r ⟨g1, g5⟩ => ?_
  obtain ⟨q, σ5⟩ := r
  simp only [tbl] at g1 g5
  subst g1
  have hlt4 := p4.mi.lt lb (by simp)
  have hb5 : σ5.blk lb = _ := (g5.blk _ hlt4).trans hb4
  simp (config := { maxSteps := 2000000 }) -implicitDefEqProofs (disch := (first | omega | rfl | assumption | (simp only [rsD]; first | omega | assumption))) only [hb5, Nat.reduceAdd, Nat.reduceMul, Nat.reduceLT, Int.reduceToNat, Int.reduceAdd, Int.reduceSub, Int.reduceMul, rsU, rsC]
  obtain ⟨e, sp, mk, he, htk, a1, a2, a3, a4, a5, a6, a7, a8, a9⟩ := h.at ho
  obtain ⟨e3, he3, ht3, hg3, hk3⟩ := sb3.at_ i e he
  have lH3 : Linked E3 2 3 L.H := h.lH.other fun j hj => fr3 j fun hm => h.dis j hj hm
  have hWd : ∀ j ∈ L.W.eraseIdx d, j ∈ L.W ∧ j ≠ i := fun j hj => by
    rw [eraseIdx_filter h.lW.nd hd] at hj
    obtain ⟨g1, g2⟩ := List.mem_filter.1 hj
    exact ⟨g1, by simpa using g2⟩
  have tp := tpush_okF (p4.ext g5) (nx := 2) (pv := 3) (by show 2 < S.words; rw [h.five]; decide) (by show 3 < S.words; rw [h.five]; decide) (by decide) lH3 ⟨by have := f3.1; omega, by have := f3.2; omega⟩ (by omega) hi he3 (ht3.trans htk)
  simp only [tbl, chn] at tp
  refine Ok.step tp fun r ⟨s1, M6, w6, E6, dw6, p6, sb6, l6, q6, y1, y2, kp6, fr6⟩ => ?_
  obtain ⟨q, σ6⟩ := r
  simp only at s1 p6 kp6
  subst s1
  have hb6 : σ6.blk lb = _ := kp6.head.trans hb5
  have c6 : Beh Y M3 M6 (0 + dw6) 0 0 := by
    have := Beh.wrt p4.mi.ok p6.mi.ok p4.now q6 (by decide) (by omega) h.idY
    have l1 := p4.p.len
    have l2 := p6.p.len
    simp only at l1 l2
    rw [l1, l2, Int.sub_self] at this
    exact this
  have f6 : M6.far 980 := c6.far (f3.less (by omega))
  simp (config := { maxSteps := 2000000 }) -implicitDefEqProofs (disch := (first | omega | rfl | assumption | (simp only [rsD]; first | omega | assumption))) only [hb6, Nat.reduceAdd, Nat.reduceMul, Nat.reduceLT, Int.reduceToNat, Int.reduceAdd, Int.reduceSub, Int.reduceMul, rsU, rsC]
  generalize hσ : σ6.put lb (.cells true el _) = σ7
  obtain ⟨hb7, _, _⟩ := put_facts hσ
  have k7 : Keep X σ6 σ7 := by rw [← hσ]; exact Keep.put h.nx _
  have p7 : PoolAt σ7 pb mb M6 { S with E := E6 } w6 (lb :: X) := by
    rw [← hσ]
    exact p6.turn (L := [lb]) ⟨by simp, fun b hb hm => by simp at hm; simp -implicitDefEqProofs (disch := omega) only [s_bn, s_bs, s_kn, bump_blk]⟩ (fun b hb => by simp at hb; subst hb; exact .inl (by simp)) fun b hb => .inl hb
  clear hσ
  obtain ⟨e6, he6, ht6, hg6, hk6⟩ := sb6.at_ i e3 he3
  have hi6 := (List.getElem?_eq_some_iff.1 he6).1
  have ps := pset_ok p7 (f6.calm (by decide)) (k := 4) (x := L.ep) he6 (ht6.trans (ht3.trans htk)) (by show 4 < S.words; rw [h.five]; decide) (by have := f6.1; omega)
  rw [show ((4 : Nat) : Int) = 4 from rfl] at ps
  refine Ok.step ps fun r ⟨s1, M8, w8, p8, q8, kp8⟩ => ?_
  obtain ⟨q, σ8⟩ := r
  simp only at s1 p8 kp8
  subst s1
  have hb8 : σ8.blk lb = _ := kp8.head.trans hb7
  have c8 : Beh Y M6 M8 2 0 0 := by
    have := Beh.wrt p7.mi.ok p8.mi.ok p7.now q8 (by decide) (by decide) h.idY
    have l1 := p7.p.len
    have l2 := p8.p.len
    simp only at l1 l2
    rw [l1, l2, Int.sub_self] at this
    exact this.as (by decide) rfl rfl
  simp (config := { maxSteps := 2000000 }) -implicitDefEqProofs (disch := (first | omega | rfl | assumption | (simp only [rsD]; first | omega | assumption))) only [Nat.reduceAdd, Nat.reduceMul, Nat.reduceLT, Int.reduceToNat, Int.reduceAdd, Int.reduceSub, Int.reduceMul, rsU, rsC]
  have hv8 : v5 (E6.set i { e6 with ws := e6.ws.set 4 L.ep }) = fun j => if j = i then some (sp, (ws.length : Int), L.ep) else v5 S.E j := by
    rw [v5_set hi6]
    funext j
    by_cases hj : j = i
    · subst hj
      rw [if_pos rfl, if_pos rfl]
      have l6' : e6.ws.length = 5 := by have := p6.p.wl e6 (List.mem_of_getElem? he6); simp only at this; rw [this]; exact h.five
      refine v5_mk (e := { e6 with ws := e6.ws.set 4 L.ep }) rfl (ht6.trans (ht3.trans htk)) ?_ ?_ ?_
      · simp only; rw [List.getElem?_set, if_neg (by decide), hk6 0 (by decide) (by decide), hk3 0 (by decide) (by decide)]; exact a1
      · simp only; rw [List.getElem?_set, if_neg (by decide), hk6 1 (by decide) (by decide), hk3 1 (by decide) (by decide)]; exact a2
      · simp only; rw [List.getElem?_set, if_pos rfl, if_pos (by omega)]
    · rw [if_neg hj, if_neg hj, v5_same sb6, v5_same sb3]
  have lW6 : Linked E6 2 3 (L.W.eraseIdx d) := l3.other fun j hj => fr6 j (fun hm => h.dis j hm (hWd j hj).1) (hWd j hj).2
  have oth8 : ∀ y v, y ≠ S.id → wordsOf M.sp y = some v → wordsOf M8.sp y = some v := fun y v hy hv =>
    q8.oth p7.now y v hy (q6.oth p4.now y v hy (q3.oth p1.p.now y v hy (q1.oth h.p.now y v hy hv)))
  refine Ok_some.2 ⟨rfl, M8, _, w8, ⟨p8, ⟨_, hb8.trans (by rw [← eraseIdx_filter h.lW.nd hd]; rfl)⟩, h.nx, h.five, l6.words he6 (by decide) (by decide), ?_, fun j hj hjW => ?_, fun j hj => ?_, ?_, h.ep, h.last, ?_⟩, ((Alike.same sb3).trans (Alike.same (S := { S with E := E3 }) sb6)).trans (Alike.set (S := { S with E := E6 }) he6), (((c1.trans c3).trans c6).trans c8).as (by omega) rfl rfl, ?_⟩
  · simp only
    rw [← eraseIdx_filter h.lW.nd hd]
    exact lW6.words he6 (by decide) (by decide)
  · simp only at hj hjW
    obtain ⟨g1, g2⟩ := List.mem_filter.1 hjW
    rcases List.mem_append.1 hj with hj | hj
    · exact h.dis j hj g1
    · simp at hj; subst hj; simp at g2
  · simp only at hj ⊢
    rcases h.all j hj with g | g
    · exact .inl (by simp [g])
    · by_cases hji : j = i
      · exact .inl (by simp [hji])
      · exact .inr (List.mem_filter.2 ⟨g, by simpa using hji⟩)
  · show Objs M8 (v5 (E6.set i { e6 with ws := e6.ws.set 4 L.ep })) S.id _ _ _ _
    exact (h.o.mark ho hep0.1 (v5_mk he htk a1 a2 a3) fun j => by rw [hv8]).mem oth8
  · have hs := h.sum
    show L.words = (((((L.H ++ [i]) ++ L.W.filter (fun j => j != i)).map L.len).sum : Nat) : Int)
    have hs2 : ((L.W.filter fun j => j != i).map L.len).sum + L.len i = (L.W.map L.len).sum := by
      rw [← eraseIdx_filter h.lW.nd hd]; exact sum_erase hd
    simp only [List.map_append, List.sum_append, List.map_cons, List.map_nil, List.sum_cons, List.sum_nil] at hs ⊢
    omega
  · exact (((((((k1.tail.trans ⟨g2.next, fun b hb => g2.blk b (p1.p.mi.lt b (by simp [hb]))⟩).trans kp3.tail).trans k4).trans ⟨g5.next, fun b hb => g5.blk b (p4.mi.lt b (by simp [hb]))⟩).trans kp6.tail).trans k7).trans kp8.tail)
/-- the next one that was marked -/
theorem lgrey_ok {t : Nat} (ht : t < L.H.length) (hl : L.last = (pid L.H t : Int)) :
    Ok (large_Large__Grey [.p (some (.n lb, 0))] σ) fun r => r.1 = .tup [.i .i64 (pid L.H (t + 1) : Int), .b true] ∧ ∃ M', LarAt r.2 lb pb mb M' S w { L with last := (pid L.H (t + 1) : Int) } X Y ∧ Beh Y M M' 1 0 0 ∧ Keep X σ r.2 := by
  obtain ⟨el, hb⟩ := h.b
  simp only [LarS.cells] at hb
  have hi := List.getElem?_eq_getElem ht
  have hp1 : pid L.H (t + 1) = L.H[t] + 1 := pid_some hi
  have hne : ((pid L.H (t + 1) : Int) == 0) = false := beq_eq_false_iff_ne.2 (by omega)
  obtain ⟨s1, s2, s3⟩ := h.lH.small (B := 699050) h.el
  cases t with
  | zero =>
    have e0 : ((L.last : Int) == 0) = true := by rw [hl]; rfl
    have eh : (hdI L.H : Int) = (pid L.H (0 + 1) : Int) := by rw [hd_pid1 ht]
    simp (config := { maxSteps := 2000000 }) -implicitDefEqProofs (disch := (first | omega | rfl | assumption | (simp only [rsD]; first | omega | assumption))) only [large_Large__Grey, large_Large__Grey_c, hb, e0, Nat.reduceAdd, Nat.reduceMul, Nat.reduceLT, Int.reduceToNat, Int.reduceAdd, Int.reduceSub, Int.reduceMul, rsU, rsC]
    rw [eh]
    simp (config := { maxSteps := 2000000 }) -implicitDefEqProofs (disch := (first | omega | rfl | assumption | (simp only [rsD]; first | omega | assumption))) only [hne, hb, Nat.reduceAdd, Nat.reduceMul, Nat.reduceLT, Int.reduceToNat, Int.reduceAdd, Int.reduceSub, Int.reduceMul, rsU, rsC]
    refine Ok_some.2 ⟨rfl, M, { h with p := h.p.turn (L := [lb]) ⟨by simp, fun b hb hm => by simp at hm; simp -implicitDefEqProofs (disch := omega) only [s_bn, s_bs, s_kn, bump_blk]⟩ (fun b hb => by simp at hb; subst hb; exact .inl (by simp)) (fun b hb => .inl hb), b := ⟨_, s_bs.trans (by rw [LarS.cells, eh])⟩, last := ⟨by simp only; omega, by have := (s3 1).2; simp only; omega⟩ }, (Beh.refl Y M).as (by decide) rfl rfl, Keep.put h.nx _⟩
  | succ t =>
    have hi0 := List.getElem?_eq_getElem (show t < L.H.length by omega)
    have e0 : ((L.last : Int) == 0) = false := beq_eq_false_iff_ne.2 (by rw [hl, pid_some hi0]; omega)
    have el1 : L.last = (L.H[t] : Int) + 1 := by rw [hl, pid_some hi0]; simp
    obtain ⟨e, he, hlk⟩ := h.lH.at_ t _ hi0
    have hn : nid L.H t = L.H[t + 1] + 1 := nid_some hi
    have hnb := (s3 t).1
    simp (config := { maxSteps := 2000000 }) -implicitDefEqProofs (disch := (first | omega | rfl | assumption | (simp only [rsD]; first | omega | assumption))) only [large_Large__Grey, large_Large__Grey_c, hb, e0, Nat.reduceAdd, Nat.reduceMul, Nat.reduceLT, Int.reduceToNat, Int.reduceAdd, Int.reduceSub, Int.reduceMul, rsU, rsC]
    refine Ok.step (ltable_ok h) fun r ⟨g1, g2⟩ => ?_
    obtain ⟨q, σ1⟩ := r
    simp only [tbl] at g1 g2
    subst g1
    have hb1 : σ1.blk lb = _ := (g2.blk _ h.lt).trans hb
    simp (config := { maxSteps := 2000000 }) -implicitDefEqProofs (disch := (first | omega | rfl | assumption | (simp only [rsD]; first | omega | assumption))) only [hb1, Nat.reduceAdd, Nat.reduceMul, Nat.reduceLT, Int.reduceToNat, Int.reduceAdd, Int.reduceSub, Int.reduceMul, rsU, rsC]
    have ta := tafter_ok (h.p.ext g2) (nx := 2) (pv := 3) (by rw [h.five]; decide) (by rw [h.five]; decide) (by decide) (hf.calm (by decide)) he hlk.n (by omega)
    simp only [tbl] at ta
    rw [← el1] at ta
    refine Ok.step ta fun r ⟨k1, M2, p2, q2, k2⟩ => ?_
    obtain ⟨q, σ2⟩ := r
    simp only at k1 p2 k2
    subst k1
    have hb2 : σ2.blk lb = _ := k2.head.trans hb1
    have en : (nid L.H t : Int) = (pid L.H (t + 1 + 1) : Int) := by rw [hn, hp1]
    rw [en]
    simp (config := { maxSteps := 2000000 }) -implicitDefEqProofs (disch := (first | omega | rfl | assumption | (simp only [rsD]; first | omega | assumption))) only [hne, hb2, Nat.reduceAdd, Nat.reduceMul, Nat.reduceLT, Int.reduceToNat, Int.reduceAdd, Int.reduceSub, Int.reduceMul, rsU, rsC]
    have r2 := h.read p2 ⟨by have := g2.next; have := k2.next; omega, fun b hb => (k2.blk b hb).trans (g2.blk b (h.p.mi.lt b (List.mem_cons_of_mem _ hb)))⟩ q2
    refine Ok_some.2 ⟨rfl, M2, { r2 with p := p2.turn (L := [lb]) ⟨by simp, fun b hb hm => by simp at hm; simp -implicitDefEqProofs (disch := omega) only [s_bn, s_bs, s_kn, bump_blk]⟩ (fun b hb => by simp at hb; subst hb; exact .inl (by simp)) (fun b hb => .inl hb), b := ⟨_, s_bs⟩, last := ⟨by simp only; omega, by have := (s3 (t + 1 + 1)).2; simp only; omega⟩ }, (h.beh q2 p2.mi.ok (by decide) (by decide) rfl).as (by decide) rfl rfl, (Keep.trans ⟨g2.next, fun b hb => g2.blk b (h.lX b hb)⟩ k2.tail).trans (Keep.put h.nx _)⟩
theorem lgrey_no (hl : L.last = (pid L.H L.H.length : Int)) :
    Ok (large_Large__Grey [.p (some (.n lb, 0))] σ) fun r => r.1 = .tup [.i .i64 0, .b false] ∧ ∃ M', LarAt r.2 lb pb mb M' S w L X Y ∧ Beh Y M M' 1 0 0 ∧ Keep X σ r.2 := by
  obtain ⟨el, hb⟩ := h.b
  simp only [LarS.cells] at hb
  have z0 : ((0 : Int) == 0) = true := rfl
  rcases Nat.eq_zero_or_pos L.H.length with hz | hz
  · have hH := List.eq_nil_of_length_eq_zero hz
    have e0 : ((L.last : Int) == 0) = true := by rw [hl, hH]; rfl
    have eh : (hdI L.H : Int) = 0 := by rw [hH]; rfl
    simp (config := { maxSteps := 2000000 }) -implicitDefEqProofs (disch := (first | omega | rfl | assumption | (simp only [rsD]; first | omega | assumption))) only [large_Large__Grey, large_Large__Grey_c, hb, e0, Nat.reduceAdd, Nat.reduceMul, Nat.reduceLT, Int.reduceToNat, Int.reduceAdd, Int.reduceSub, Int.reduceMul, rsU, rsC]
    exact Ok_some.2 ⟨rfl, M, h, (Beh.refl Y M).as (by decide) rfl rfl, Keep.refl _ _⟩
  · obtain ⟨t, htl⟩ : ∃ t, L.H.length = t + 1 := ⟨L.H.length - 1, by omega⟩
    have hi0 := List.getElem?_eq_getElem (show t < L.H.length by omega)
    rw [htl] at hl
    have e0 : ((L.last : Int) == 0) = false := beq_eq_false_iff_ne.2 (by rw [hl, pid_some hi0]; omega)
    have el1 : L.last = (L.H[t] : Int) + 1 := by rw [hl, pid_some hi0]; simp
    obtain ⟨e, he, hlk⟩ := h.lH.at_ t _ hi0
    have hn : nid L.H t = 0 := nid_none (by omega)
    have hln := hlk.n
    rw [hn] at hln
    simp (config := { maxSteps := 2000000 }) -implicitDefEqProofs (disch := (first | omega | rfl | assumption | (simp only [rsD]; first | omega | assumption))) only [large_Large__Grey, large_Large__Grey_c, hb, e0, Nat.reduceAdd, Nat.reduceMul, Nat.reduceLT, Int.reduceToNat, Int.reduceAdd, Int.reduceSub, Int.reduceMul, rsU, rsC]
    refine Ok.step (ltable_ok h) fun r ⟨g1, g2⟩ => ?_
    obtain ⟨q, σ1⟩ := r
    simp only [tbl] at g1 g2
    subst g1
    have hb1 : σ1.blk lb = _ := (g2.blk _ h.lt).trans hb
    simp (config := { maxSteps := 2000000 }) -implicitDefEqProofs (disch := (first | omega | rfl | assumption | (simp only [rsD]; first | omega | assumption))) only [hb1, Nat.reduceAdd, Nat.reduceMul, Nat.reduceLT, Int.reduceToNat, Int.reduceAdd, Int.reduceSub, Int.reduceMul, rsU, rsC]
    have ta := tafter_ok (h.p.ext g2) (nx := 2) (pv := 3) (by rw [h.five]; decide) (by rw [h.five]; decide) (by decide) (hf.calm (by decide)) he hln (by omega)
    simp only [tbl] at ta
    rw [← el1, show ((0 : Nat) : Int) = 0 from rfl] at ta
    refine Ok.step ta fun r ⟨k1, M2, p2, q2, k2⟩ => ?_
    obtain ⟨q, σ2⟩ := r
    simp only at k1 p2 k2
    subst k1
    simp (config := { maxSteps := 2000000 }) -implicitDefEqProofs (disch := (first | omega | rfl | assumption | (simp only [rsD]; first | omega | assumption))) only [z0, Nat.reduceAdd, Nat.reduceMul, Nat.reduceLT, Int.reduceToNat, Int.reduceAdd, Int.reduceSub, Int.reduceMul, rsU, rsC]
    have r2 := h.read p2 ⟨by have := g2.next; have := k2.next; omega, fun b hb => (k2.blk b hb).trans (g2.blk b (h.p.mi.lt b (List.mem_cons_of_mem _ hb)))⟩ q2
    exact Ok_some.2 ⟨rfl, M2, r2, (h.beh q2 p2.mi.ok (by decide) (by decide) rfl).as (by decide) rfl rfl, Keep.trans ⟨g2.next, fun b hb => g2.blk b (h.lX b hb)⟩ k2.tail⟩
end
end Go.Abs.Try
