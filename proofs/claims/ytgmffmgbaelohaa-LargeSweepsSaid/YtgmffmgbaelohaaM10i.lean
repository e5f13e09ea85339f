/-
  Layer 9 over layer 10: a chain is laid behind another one. No conditions.
-/
import Derived.Test.YtgmffmgbaelohaaM10h
set_option linter.unusedVariables false
set_option linter.unusedSimpArgs false
set_option linter.constructorNameAsVariable false
set_option linter.unusedSimpArgs false
set_option linter.unusedVariables false
set_option linter.unusedSectionVars false
set_option maxHeartbeats 2000000
namespace Go.Abs.Try
open Go Go.Abs
variable {O : Type}

theorem getLast_at {A : List Nat} {t : Nat} (h : A.getLast? = some t) : A[A.length - 1]? = some t := by
  rw [← h, List.getLast?_eq_getElem?]
theorem Linked.join {E E' : List PE} {nx pv : Nat} {A B : List Nat} (hA : Linked E nx pv A) (hB : Linked E nx pv B) (hne : nx ≠ pv) (hd : ∀ i ∈ A, i ∉ B) {t c : Nat} (ht : A.getLast? = some t) (hc : B[0]? = some c)
    (o : ∀ j, j ≠ t → j ≠ c → E'[j]? = E[j]?) (l1 : ∀ x, E[t]? = some x → E'[t]? = some { x with ws := x.ws.set nx ((c : Int) + 1) }) (l2 : ∀ x, E[c]? = some x → E'[c]? = some { x with ws := x.ws.set pv ((t : Int) + 1) }) : Linked E' nx pv (A ++ B) := by
  have hla := getLast_at ht
  have hApos : 0 < A.length := by
    have := (List.getElem?_eq_some_iff.1 hla).1
    omega
  have hBpos : 0 < B.length := (List.getElem?_eq_some_iff.1 hc).1
  have htA : t ∈ A := List.mem_of_getElem? hla
  have hcB : c ∈ B := List.mem_of_getElem? hc
  refine ⟨List.nodup_append.2 ⟨hA.nd, hB.nd, fun a ha b hb e => hd a ha (e ▸ hb)⟩, fun j i hj => ?_⟩
  rcases Nat.lt_or_ge j A.length with hjA | hjA
  · have hj' : A[j]? = some i := by rw [← hj, List.getElem?_append_left hjA]
    obtain ⟨e, he, hl⟩ := hA.at_ j i hj'
    have hpid : pid (A ++ B) j = pid A j := by
      unfold pid
      cases j with
      | zero => rfl
      | succ j => simp only; rw [List.getElem?_append_left (by omega)]
    have hic : i ≠ c := fun e => hd i (List.mem_of_getElem? hj') (e ▸ hcB)
    by_cases hlast : j + 1 = A.length
    · have hit : i = t := by
        have : j = A.length - 1 := by omega
        rw [this, hla] at hj'; cases hj'; rfl
      subst hit
      have hn : nid (A ++ B) j = c + 1 := nid_some (by rw [List.getElem?_append_right (by omega), hlast, Nat.sub_self]; exact hc)
      refine ⟨_, l1 e he, ⟨hl.tk, ?_, ?_⟩⟩
      · show (e.ws.set nx ((c : Int) + 1))[nx]? = _
        have := (List.getElem?_eq_some_iff.1 hl.n).1
        rw [List.getElem?_set, if_pos rfl, if_pos this, hn]; simp
      · show (e.ws.set nx ((c : Int) + 1))[pv]? = _
        rw [List.getElem?_set, if_neg hne, hl.p, hpid]
    · have hit : i ≠ t := fun e => hlast (by
        subst e
        have := nodup_at hA.nd hj' hla
        omega)
      have hn : nid (A ++ B) j = nid A j := by unfold nid; rw [List.getElem?_append_left (by omega)]
      exact ⟨e, (o i hit hic).trans he, by rw [hn, hpid]; exact hl⟩
  · have hj' : B[j - A.length]? = some i := by rw [← hj, List.getElem?_append_right hjA]
    obtain ⟨e, he, hl⟩ := hB.at_ _ i hj'
    have hit : i ≠ t := fun e => hd t htA (e ▸ List.mem_of_getElem? hj')
    have hn : nid (A ++ B) j = nid B (j - A.length) := by
      unfold nid
      rw [List.getElem?_append_right (by omega), show j + 1 - A.length = j - A.length + 1 by omega]
    by_cases hj0 : j = A.length
    · subst hj0
      rw [Nat.sub_self] at hj' hl hn
      rw [hc] at hj'; cases hj'
      have hp : pid (A ++ B) A.length = t + 1 := by
        obtain ⟨m, hm⟩ : ∃ m, A.length = m + 1 := ⟨A.length - 1, by omega⟩
        rw [hm]
        refine pid_some ?_
        rw [List.getElem?_append_left (by omega), ← hla, hm, Nat.add_sub_cancel]
      refine ⟨_, l2 e he, ⟨hl.tk, ?_, ?_⟩⟩
      · show (e.ws.set pv ((t : Int) + 1))[nx]? = _
        rw [List.getElem?_set, if_neg (Ne.symm hne), hl.n, hn]
      · show (e.ws.set pv ((t : Int) + 1))[pv]? = _
        have := (List.getElem?_eq_some_iff.1 hl.p).1
        rw [List.getElem?_set, if_pos rfl, if_pos this, hp]; simp
    · have hic : i ≠ c := fun e => hj0 (by
        subst e
        have := nodup_at hB.nd hj' hc
        omega)
      have hp : pid (A ++ B) j = pid B (j - A.length) := by
        obtain ⟨m, hm⟩ : ∃ m, j = A.length + (m + 1) := ⟨j - A.length - 1, by omega⟩
        subst hm
        rw [show A.length + (m + 1) - A.length = m + 1 by omega, show A.length + (m + 1) = A.length + m + 1 by omega]
        unfold pid
        simp only
        rw [List.getElem?_append_right (by omega), Nat.add_sub_cancel_left]
      exact ⟨e, (o i hit hic).trans he, by rw [hn, hp]; exact hl⟩
theorem boxed4 {σ σ1 : AH O} {t1 t2 t3 t4 : TypeId} {c1 c2 c3 c4 : List AV} (h : ((((σ.bump 4).put σ.next (.cells true t1 c1)).put (σ.next + 1) (.cells true t2 c2)).put (σ.next + 1 + 1) (.cells true t3 c3)).put (σ.next + 1 + 1 + 1) (.cells true t4 c4) = σ1) :
    Ext σ σ1 ∧ σ1.blk σ.next = some (.cells true t1 c1) ∧ σ1.blk (σ.next + 1) = some (.cells true t2 c2) ∧ σ1.blk (σ.next + 1 + 1) = some (.cells true t3 c3) ∧ σ1.blk (σ.next + 1 + 1 + 1) = some (.cells true t4 c4) ∧ σ1.next = σ.next + 4 := by
  subst h
  refine ⟨(((((Ext.refl σ).bump 4).put (Nat.le_refl _) _).put (by omega) _).put (by omega) _).put (by omega) _, ?_, ?_, ?_, s_bs, rfl⟩
  · rw [s_bn (by omega), s_bn (by omega), s_bn (by omega), s_bs]
  · rw [s_bn (by omega), s_bn (by omega), s_bs]
  · rw [s_bn (by omega), s_bs]
theorem tjoin_ok {σ : AH O} {pb mb : Nat} {M : MemS} {S : PoolS} {w : List Int} {X : List Nat} (h : PoolAt σ pb mb M S w X) {nx pv : Nat} (h1 : nx < S.words) (h2 : pv < S.words) (hne : nx ≠ pv) {A B : List Nat} (hA : Linked S.E nx pv A) (hB : Linked S.E nx pv B) (hd : ∀ i ∈ A, i ∉ B) (hm : M.met.r + 100 < 85070591730234615865843651857942052864 ∧ M.met.w + 100 < 85070591730234615865843651857942052864)
    (hAl : A.length ≤ 4194304) (hBl : B.length ≤ 4194304) :
    Ok (chain_Table__Join [tbl S mb nx pv, chn A, chn B] σ) fun r => r.1 = .tup [chn (A ++ B), .i .i64 0] ∧ ∃ M' w' E' dw, PoolAt r.2 pb mb M' { S with E := E' } w' X ∧ SameBut nx pv S.E E' ∧ Linked E' nx pv (A ++ B) ∧ Wrt M M' S.id w' 0 dw ∧ 0 ≤ dw ∧ dw ≤ 2 ∧ Keep X σ r.2 ∧ ∀ j, j ∉ A → j ∉ B → E'[j]? = S.E[j]? := by
  have hw := h.p.words
  have hE4 := h.e4 h1 h2 hne hA hm
  obtain ⟨s1, s2, s3⟩ := hA.small (B := 4194304) hE4
  obtain ⟨s4, s5, s6⟩ := hB.small (B := 4194304) hE4
  simp (config := { maxSteps := 2000000 }) -implicitDefEqProofs (disch := (first | omega | rfl | assumption | (simp only [rsD]; first | omega | assumption))) only [chain_Table__Join, chain_Table__Join_c, tbl, chn, Nat.reduceAdd, Nat.reduceMul, Nat.reduceLT, Int.reduceToNat, Int.reduceAdd, Int.reduceSub, Int.reduceMul, rsU, rsC]
  generalize hσ : ((((σ.bump 4).put σ.next (.cells true _ _)).put (σ.next + 1) (.cells true _ _)).put (σ.next + 1 + 1) (.cells true _ _)).put (σ.next + 1 + 1 + 1) (.cells true _ _) = σ1
  obtain ⟨E1, b1, c1, d1, f1, n1⟩ := boxed4 hσ
  clear hσ
  have p1 : PoolAt σ1 pb mb M S w (σ.next :: (σ.next + 1) :: (σ.next + 1 + 1) :: (σ.next + 1 + 1 + 1) :: X) := h.turn (L := []) E1.chg (by simp) fun b hb => by
    simp only [List.mem_cons] at hb
    rcases hb with rfl | rfl | rfl | rfl | hb
    · exact .inr (by omega)
    · exact .inr (by omega)
    · exact .inr (by omega)
    · exact .inr (by omega)
    · exact .inl hb
  refine Ok.step (tright_ok (by omega) (by omega) (by omega) (by omega)) fun r ⟨g1, g2⟩ => ?_
  obtain ⟨q, σ2⟩ := r
  simp only at g1 g2
  subst g1
  have p2 := p1.ext g2
  have b2 : σ2.blk σ.next = _ := (g2.blk _ (by omega)).trans b1
  have c2 : σ2.blk (σ.next + 1) = _ := (g2.blk _ (by omega)).trans c1
  have d2 : σ2.blk (σ.next + 1 + 1) = _ := (g2.blk _ (by omega)).trans d1
  have f2 : σ2.blk (σ.next + 1 + 1 + 1) = _ := (g2.blk _ (by omega)).trans f1
  have kx2 : Keep X σ σ2 := h.mi.tail.keepExt (E1.trans g2)
  have hX : ∀ b ∈ X, b < σ.next := fun b hb => h.mi.lt _ (List.mem_cons_of_mem _ hb)
  have fin : ∀ (σ' : AH O) (M' : MemS) (w' : List Int) (E' : List PE) (x : Blk O), PoolAt σ' pb mb M' { S with E := E' } w' (σ.next :: (σ.next + 1) :: (σ.next + 1 + 1) :: (σ.next + 1 + 1 + 1) :: X) → PoolAt (σ'.put (σ.next + 1 + 1 + 1) x) pb mb M' { S with E := E' } w' X := fun σ' M' w' E' x hp =>
    hp.turn (L := [σ.next + 1 + 1 + 1]) ⟨by simp, fun b hb hm => s_bn (by simpa using hm)⟩ (fun b hb => by simp at hb; subst hb; exact .inl (by simp)) fun b hb => .inl (by simp [hb])
  have kfin : ∀ (σ' : AH O) (x : Blk O), Keep X σ' (σ'.put (σ.next + 1 + 1 + 1) x) := fun σ' x => Keep.put (fun hm => by have := hX _ hm; omega) x
  rcases A with _ | ⟨a, A'⟩
  · have ez : ((([] : List Nat).length : Nat) : Int) = 0 := rfl
    have ez2 : ((0 : Int) == 0) = true := rfl
    rw [ez] at c2
    simp (config := { maxSteps := 2000000 }) -implicitDefEqProofs (disch := (first | omega | rfl | assumption | (simp only [rsD]; first | omega | assumption))) only [c2, d2, f2, ez2, Nat.reduceAdd, Nat.reduceMul, Nat.reduceLT, Int.reduceToNat, Int.reduceAdd, Int.reduceSub, Int.reduceMul, rsU, rsC]
    exact Ok_some.2 ⟨by simp [chn], M, w, S.E, 0, fin _ _ _ _ _ p2, SameBut.refl _ _ _, by simpa using hB, Wrt.refl h.now, by omega, by omega, kx2.trans (kfin _ _), fun _ _ _ => rfl⟩
  have ez : (((a :: A').length : Nat) : Int) = (A'.length : Int) + 1 := by simp
  have ez2 : ((A'.length : Int) + 1 == 0) = false := beq_eq_false_iff_ne.2 (by omega)
  rcases B with _ | ⟨c, B'⟩
  · have ey : ((([] : List Nat).length : Nat) : Int) = 0 := rfl
    have ey2 : ((0 : Int) == 0) = true := rfl
    rw [ez] at c2
    rw [ey] at d2
    simp (config := { maxSteps := 2000000 }) -implicitDefEqProofs (disch := (first | omega | rfl | assumption | (simp only [rsD]; first | omega | assumption))) only [c2, d2, f2, ez2, ey2, Nat.reduceAdd, Nat.reduceMul, Nat.reduceLT, Int.reduceToNat, Int.reduceAdd, Int.reduceSub, Int.reduceMul, rsU, rsC]
    exact Ok_some.2 ⟨by simp [chn], M, w, S.E, 0, fin _ _ _ _ _ p2, SameBut.refl _ _ _, by simpa using hA, Wrt.refl h.now, by omega, by omega, kx2.trans (kfin _ _), fun _ _ _ => rfl⟩
  have ey : (((c :: B').length : Nat) : Int) = (B'.length : Int) + 1 := by simp
  have ey2 : ((B'.length : Int) + 1 == 0) = false := beq_eq_false_iff_ne.2 (by omega)
  obtain ⟨t, hlast⟩ : ∃ t, (a :: A').getLast? = some t := ⟨_, List.getLast?_cons⟩
  have et : ((tlI (a :: A') : Nat) : Int) = (t : Int) + 1 := by unfold tlI; rw [hlast]; simp
  have eh : ((hdI (c :: B') : Nat) : Int) = (c : Int) + 1 := by simp [hdI]
  have htA : t ∈ (a :: A') := List.mem_of_getLast? hlast
  have hcB : c ∈ (c :: B') := List.mem_cons_self
  have htc : t ≠ c := fun e => hd t htA (e ▸ hcB)
  obtain ⟨jt, hjt⟩ := List.getElem?_of_mem htA
  obtain ⟨y, hy, hyl⟩ := hA.at_ jt t hjt
  obtain ⟨z, hz, hzl⟩ := hB.at_ 0 c rfl
  have htE := (List.getElem?_eq_some_iff.1 hy).1
  have hcE := (List.getElem?_eq_some_iff.1 hz).1
  have hA4 : A'.length ≤ 4194304 := by simp at hAl; omega
  have hB4 : B'.length ≤ 4194304 := by simp at hBl; omega
  rw [ez, et] at c2
  rw [ey, eh] at d2
  simp (config := { maxSteps := 2000000 }) -implicitDefEqProofs (disch := (first | omega | rfl | assumption | (simp only [rsD]; first | omega | assumption))) only [b2, c2, d2, ez2, ey2, Nat.reduceAdd, Nat.reduceMul, Nat.reduceLT, Int.reduceToNat, Int.reduceAdd, Int.reduceSub, Int.reduceMul, rsU, rsC]
  have ts := tset_ok p2 ⟨by omega, by omega⟩ (nx := nx) (pv := pv) (i := t) (k := nx) (x := c + 1) hy hyl.tk h1 (by omega)
  unfold tbl at ts
  rw [show ((c + 1 : Nat) : Int) = (c : Int) + 1 by simp] at ts
  refine Ok.step ts fun r ⟨k1, M3, w3, p3, q3, kp3⟩ => ?_
  obtain ⟨q, σ3⟩ := r
  simp only at k1 p3 kp3
  subst k1
  have r3 := q3.r
  have v3 := q3.w
  have b3 : σ3.blk σ.next = _ := (kp3.blk _ (by simp)).trans b2
  have c3 : σ3.blk (σ.next + 1) = _ := (kp3.blk _ (by simp)).trans c2
  have d3 : σ3.blk (σ.next + 1 + 1) = _ := (kp3.blk _ (by simp)).trans d2
  have f3 : σ3.blk (σ.next + 1 + 1 + 1) = _ := (kp3.blk _ (by simp)).trans f2
  have hz3 : (S.E.set t { y with ws := y.ws.set nx ((c : Int) + 1) })[c]? = some z := by rw [List.getElem?_set, if_neg htc]; exact hz
  simp (config := { maxSteps := 2000000 }) -implicitDefEqProofs (disch := (first | omega | rfl | assumption | (simp only [rsD]; first | omega | assumption))) only [b3, c3, d3, Nat.reduceAdd, Nat.reduceMul, Nat.reduceLT, Int.reduceToNat, Int.reduceAdd, Int.reduceSub, Int.reduceMul, rsU, rsC]
  have ts := tset_ok p3 ⟨by omega, by omega⟩ (nx := nx) (pv := pv) (i := c) (k := pv) (x := t + 1) hz3 hzl.tk h2 (by omega)
  unfold tbl at ts
  rw [show ((t + 1 : Nat) : Int) = (t : Int) + 1 by simp] at ts
  refine Ok.step ts fun r ⟨k1, M4, w4, p4, q4, kp4⟩ => ?_
  obtain ⟨q, σ4⟩ := r
  simp only at k1 p4 kp4
  subst k1
  have c4 : σ4.blk (σ.next + 1) = _ := (kp4.blk _ (by simp)).trans c3
  have d4 : σ4.blk (σ.next + 1 + 1) = _ := (kp4.blk _ (by simp)).trans d3
  have f4 : σ4.blk (σ.next + 1 + 1 + 1) = _ := (kp4.blk _ (by simp)).trans f3
  simp (config := { maxSteps := 2000000 }) -implicitDefEqProofs (disch := (first | omega | rfl | assumption | (simp only [rsD]; first | omega | assumption))) only [c4, d4, f4, Nat.reduceAdd, Nat.reduceMul, Nat.reduceLT, Int.reduceToNat, Int.reduceAdd, Int.reduceSub, Int.reduceMul, rsU, rsC]
  have kx4 := (kx2.trans kp3.tail.tail.tail.tail).trans kp4.tail.tail.tail.tail
  refine Ok_some.2 ⟨?_, M4, w4, _, 2, fin _ _ _ _ _ p4, ((SameBut.refl nx pv S.E).set hy (.inl rfl)).set hz3 (.inr rfl), hA.join hB hne hd hlast rfl (fun j hj1 hj2 => ?_) (fun x hx => ?_) (fun x hx => ?_), (q3.trans q4).as rfl (by omega) (by omega), by omega, by omega, kx4.trans (kfin _ _), fun j hA hB => by rw [List.getElem?_set, if_neg (fun e : c = j => hB (by rw [← e]; exact hcB)), List.getElem?_set, if_neg (fun e : t = j => hA (by rw [← e]; exact htA))]⟩
  · have e7 : ((tlI (a :: (A' ++ c :: B')) : Nat) : Int) = (tlI (c :: B') : Int) := by
      unfold tlI
      rw [show a :: (A' ++ c :: B') = (a :: A') ++ (c :: B') from rfl, List.getLast?_append]
      cases hh : (c :: B').getLast? with
      | none => simp at hh
      | some v => rfl
    simp [chn, e7, hdI]
    omega
  · rw [List.getElem?_set, if_neg (Ne.symm hj2), List.getElem?_set, if_neg (Ne.symm hj1)]
  · rw [hy] at hx; cases hx
    rw [List.getElem?_set, if_neg (Ne.symm htc), List.getElem?_set, if_pos rfl, if_pos htE]
  · rw [hz] at hx; cases hx
    rw [List.getElem?_set, if_pos rfl, if_pos (by rw [List.length_set]; exact hcE)]
end Go.Abs.Try
