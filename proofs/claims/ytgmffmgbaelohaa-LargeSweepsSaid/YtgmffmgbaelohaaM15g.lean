/-
  Layer 15: all large objects are told: the function of the statements. No conditions.
-/
import Derived.Test.YtgmffmgbaelohaaM15f
set_option linter.unusedVariables false
set_option linter.unusedSimpArgs false
set_option linter.constructorNameAsVariable false
set_option linter.unusedSimpArgs false
set_option linter.unusedVariables false
set_option linter.unusedSectionVars false
set_option maxHeartbeats 2000000
namespace Go.Abs.Try
open Go Go.Abs
variable {O : Type}

theorem all_step {σ : AH O} {lb pb mb : Nat} {M : MemS} {S : PoolS} {w : List Int} {L : LarS} {X : List Nat} {Y : List Int} {x0 x1 ob b1 : Nat} {a : SA} {l : List Nat} (t : Tl σ lb pb mb M S w L X Y x0 x1 ob b1 a l) (hf : M.far 1000) {C : List Nat} (hL : Linked S.E 2 3 C) (hl : l.length + C.length ≤ 201)
    {fb cap arr : Nat} (hfX : fb ∈ X) (hcX : cap ∈ X) (haX : arr ∈ X) (hfb : σ.blk fb = some (.cells true 217 [.fn (some (.yield b1, [], []))])) {elc : TypeId} (hcap : σ.blk cap = some (.cells true elc [.p (some (.n lb, 0))]))
    {ela : TypeId} {cs : List AV} (harr : σ.blk arr = some (.cells true ela cs)) {k : Int} (k0 : 0 ≤ k) (k2 : k < 2) (g0 : cs[k.toNat * 3]? = some (.i .i64 (hdI C : Int))) (g1 : cs[k.toNat * 3 + 1]? = some (.i .i64 (tlI C : Int))) (g2 : cs[k.toNat * 3 + 1 + 1]? = some (.i .i64 (C.length : Int)))
    {σ2 σ0 : AH O} (h2 : σ2.next = arr) (h0 : σ0.next = fb) {f : AV} :
    Ok (large_Large__All_1_L1 σ2 [f, .p (some (.n cap, 0))] large_Large__table chain_Table__All (chain_Table__All_1 (large_Large__All_1_R0 law15_told_R0)) law15_told_R0 σ0 ([.i .i64 k], σ)) fun r => ∃ σ' M' a', r = .inl ([.i .i64 (k + 1)], σ') ∧ Tl σ' lb pb mb M' S w L X Y x0 x1 ob b1 a' (l ++ C) ∧ Beh Y M M' C.length 0 0 ∧ Keep X σ σ' := by
  have hltX : ∀ b ∈ X, b < σ.next := fun b hb => t.p.lX _ (by simp [hb])
  have lf := hltX _ hfX
  have lc := hltX _ hcX
  have la := hltX _ haX
  simp (config := { maxSteps := 2000000 }) -implicitDefEqProofs (disch := (first | omega | rfl | assumption | (simp only [rsD]; first | omega | assumption))) only [large_Large__All_1_L1, h2, h0, harr, hcap, g0, g1, g2, Nat.reduceAdd, Nat.reduceMul, Nat.reduceLT, Int.reduceToNat, Int.reduceAdd, Int.reduceSub, Int.reduceMul, rsU, rsC]
  generalize hσ : (σ.bump 1).put σ.next (.cells true _ _) = σ3
  obtain ⟨E3, c3, n3⟩ := boxed hσ
  clear hσ
  have t3 := t.chg (Z := X) (K := []) E3.chg (by simp) fun b hb => .inl hb
  refine Ok.step (ltable_ok t3.p) fun r ⟨s1, E4⟩ => ?_
  obtain ⟨q, σ4⟩ := r
  simp only [tbl] at s1 E4
  subst s1
  have c4 : σ4.blk σ.next = _ := (E4.blk _ (by omega)).trans c3
  have n4 := E4.next
  have ta := tall_ok (σ := σ4) (S := S) (mb := mb) (nx := 2) (pv := 3) (C := C)
  simp only [tbl, chn] at ta
  simp (config := { maxSteps := 2000000 }) -implicitDefEqProofs (disch := (first | omega | rfl | assumption | (simp only [rsD]; first | omega | assumption))) only [c4, ta, s_rangeV, getG, s_nf, Nat.reduceAdd, Nat.reduceMul, Nat.reduceLT, Int.reduceToNat, Int.reduceAdd, Int.reduceSub, Int.reduceMul, rsU, rsC]
  generalize hσ : ((((σ4.bump 2).put σ4.next (.cells true _ _)).put (σ4.next + 1) (.cells true _ _)).bump 1).put (σ4.next + 2) (.loop _ _ _) = σ5
  have n5 : σ5.next = σ4.next + 3 := by rw [← hσ]; rfl
  have o5 : ∀ b, b < σ4.next → σ5.blk b = σ4.blk b := fun b hb => by rw [← hσ]; simp -implicitDefEqProofs (disch := omega) only [s_bn, s_bs, s_kn, bump_blk]
  have bt5 : σ5.blk σ4.next = some (.cells true T_chain_Table (tblc S mb 2 3)) := by rw [← hσ]; simp -implicitDefEqProofs (disch := omega) only [s_bn, s_bs, s_kn, bump_blk]
  have bc5 : σ5.blk (σ4.next + 1) = some (.cells true T_chain_Chain (chnc C)) := by rw [← hσ]; simp -implicitDefEqProofs (disch := omega) only [s_bn, s_bs, s_kn, bump_blk]
  have bl5 : σ5.blk (σ4.next + 2) = some (.loop 144000 [(2, .p (some (.n fb, 0)))] .ready) := by rw [← hσ]; exact s_bs
  clear hσ
  have E5 : Ext σ4 σ5 := ext_of (by omega) o5
  have E35 := (E3.trans E4).trans E5
  have t5 := t.chg (Z := (σ4.next + 2) :: σ4.next :: X) (K := []) (σ' := σ5) E35.chg (by simp) fun b hb => by
    simp only [List.mem_cons] at hb
    rcases hb with rfl | rfl | hb
    · exact .inr (by omega)
    · exact .inr (by omega)
    · exact .inl hb
  refine Ok.step (chain_told t5 hf hL hl (fb := fb) (b2 := σ4.next + 2) (tb := σ4.next) (cb := σ4.next + 1) (by simp [hfX]) (by simp) (by simp) (by omega) ((E35.blk _ lf).trans hfb) bl5 bt5 bc5) fun r ⟨u1, M6, a6, u2, u3, u4⟩ => ?_
  obtain ⟨q, σ6⟩ := r
  simp only at u1 u2 u4
  subst u1
  have bl6 : σ6.blk (σ4.next + 2) = _ := (u4.blk _ (by simp)).trans bl5
  have n6 := u4.next
  simp (config := { maxSteps := 2000000 }) -implicitDefEqProofs (disch := (first | omega | rfl | assumption | (simp only [rsD]; first | omega | assumption))) only [lstN, bl6, LSt.code, Nat.reduceAdd, Nat.reduceMul, Nat.reduceLT, Int.reduceToNat, Int.reduceAdd, Int.reduceSub, Int.reduceMul, rsU, rsC]
  refine Ok_some.2 ⟨_, M6, a6, rfl, u2.chg (Z := X) (K := [σ4.next + 2]) ⟨Nat.le_refl _, fun b hb hm => s_kn (by simpa using hm)⟩ (fun b hb => .inl (by simp at hb; simp [hb])) (fun b hb => .inl (by simp [hb])), u3, ⟨by simp only [kill_next]; omega, fun b hb => ?_⟩⟩
  have := hltX b hb
  rw [s_kn (by omega), u4.blk b (by simp [hb]), E35.blk b this]
theorem all1_ok {σ : AH O} {lb pb mb : Nat} {M : MemS} {S : PoolS} {w : List Int} {L : LarS} {X : List Nat} {Y : List Int} {x0 x1 ob b1 : Nat} {a : SA} {l : List Nat} (t : Tl σ lb pb mb M S w L X Y x0 x1 ob b1 a l) (hf : M.far 2000) (hl : l.length + L.H.length + L.W.length ≤ 201)
    {cap : Nat} (hcX : cap ∈ X) {elc : TypeId} (hcap : σ.blk cap = some (.cells true elc [.p (some (.n lb, 0))])) :
    Ok (large_Large__All_1 law15_told_R0 [.fn (some (.yield b1, [], [])), .p (some (.n cap, 0))] σ) fun r => r.1 = .tup [] ∧ ∃ M' a', Tl r.2 lb pb mb M' S w L X Y x0 x1 ob b1 a' (l ++ (L.H ++ L.W)) ∧ Beh Y M M' (L.H.length + L.W.length) 0 0 ∧ Keep X σ r.2 := by
  obtain ⟨el, hb⟩ := t.p.b
  simp only [LarS.cells] at hb
  have hlt := t.p.lt
  have hltX : ∀ b ∈ X, b < σ.next := fun b hb => t.p.lX _ (by simp [hb])
  have lc := hltX _ hcX
  simp (config := { maxSteps := 2000000 }) -implicitDefEqProofs (disch := (first | omega | rfl | assumption | (simp only [rsD]; first | omega | assumption))) only [large_Large__All_1, large_Large__All_1_c, hcap, hb, Nat.reduceAdd, Nat.reduceMul, Nat.reduceLT, Int.reduceToNat, Int.reduceAdd, Int.reduceSub, Int.reduceMul, rsU, rsC]
  generalize hσ : (((σ.bump 1).put σ.next (.cells true _ _)).bump 1).put (σ.next + 1) (.cells true _ _) = σ1
  have n1 : σ1.next = σ.next + 2 := by rw [← hσ]; rfl
  have o1 : ∀ b, b < σ.next → σ1.blk b = σ.blk b := fun b hb => by rw [← hσ]; simp -implicitDefEqProofs (disch := omega) only [s_bn, s_bs, s_kn, bump_blk]
  have bf1 : σ1.blk σ.next = some (.cells true 217 [.fn (some (.yield b1, [], []))]) := by rw [← hσ]; simp -implicitDefEqProofs (disch := omega) only [s_bn, s_bs, s_kn, bump_blk]
  have ba1 : σ1.blk (σ.next + 1) = some (.cells true 130 [.i .i64 (hdI L.H : Int), .i .i64 (tlI L.H : Int), .i .i64 (L.H.length : Int), .i .i64 (hdI L.W : Int), .i .i64 (tlI L.W : Int), .i .i64 (L.W.length : Int)]) := by rw [← hσ]; exact s_bs
  clear hσ
  have E1 : Ext σ σ1 := ext_of (by omega) o1
  have t1 := t.chg (Z := σ.next :: (σ.next + 1) :: X) (K := []) E1.chg (by simp) fun b hb => by
    simp only [List.mem_cons] at hb
    rcases hb with rfl | rfl | hb
    · exact .inr (by omega)
    · exact .inr (by omega)
    · exact .inl hb
  refine Ok.bindS (Q := fun r => ∃ σ' M' a', r = .inl ([], σ') ∧ Tl σ' lb pb mb M' S w L (σ.next :: (σ.next + 1) :: X) Y x0 x1 ob b1 a' (l ++ (L.H ++ L.W)) ∧ Beh Y M M' (L.H.length + L.W.length) 0 0 ∧ Keep (σ.next :: (σ.next + 1) :: X) σ1 σ') ?_ ?_ (fun r h => by obtain ⟨_, _, _, e, _⟩ := h; cases e)
  · rw [loopF_eq]
    refine Ok.bindS (all_step t1 (hf.less (by decide)) t1.p.lH (by omega) (fb := σ.next) (cap := cap) (arr := σ.next + 1) (by simp) (by simp [hcX]) (by simp) bf1 ((E1.blk _ lc).trans hcap) ba1 (k := 0) (by decide) (by decide) rfl rfl rfl rfl rfl) ?_ (fun r h => by obtain ⟨_, _, _, e, _⟩ := h; cases e)
    rintro _ ⟨σ2, M2, a2, e, t2, c2, k2⟩
    simp only [Sum.inl.injEq] at e
    subst e
    rw [loopF_eq]
    refine Ok.bindS (all_step t2 (c2.far (hf.less (by omega))) t2.p.lW (by simp only [List.length_append]; omega) (fb := σ.next) (cap := cap) (arr := σ.next + 1) (by simp) (by simp [hcX]) (by simp) ((k2.blk _ (by simp)).trans bf1) ((k2.blk _ (by simp [hcX])).trans ((E1.blk _ lc).trans hcap)) ((k2.blk _ (by simp)).trans ba1) (k := 0 + 1) (by decide) (by decide) rfl rfl rfl rfl rfl) ?_ (fun r h => by obtain ⟨_, _, _, e, _⟩ := h; cases e)
    rintro _ ⟨σ3, M3, a3, e, t3, c3, k3⟩
    simp only [Sum.inl.injEq] at e
    subst e
    rw [loopF_eq]
    rw [show (0 + 1 + 1 : Int) = 2 from rfl]
    simp (config := { maxSteps := 2000000 }) -implicitDefEqProofs (disch := (first | omega | rfl | assumption | (simp only [rsD]; first | omega | assumption))) only [large_Large__All_1_L1, Nat.reduceAdd, Nat.reduceMul, Nat.reduceLT, Int.reduceToNat, Int.reduceAdd, Int.reduceSub, Int.reduceMul, rsU, rsC]
    exact Ok_some.2 ⟨σ3, M3, a3, rfl, by rw [← List.append_assoc]; exact t3, c2.trans c3, k2.trans k3⟩
  · rintro _ ⟨σ', M', a', e, t', c', k'⟩
    simp only [Sum.inl.injEq] at e
    subst e
    simp (config := { maxSteps := 2000000 }) -implicitDefEqProofs (disch := (first | omega | rfl | assumption | (simp only [rsD]; first | omega | assumption))) only [Nat.reduceAdd, Nat.reduceMul, Nat.reduceLT, Int.reduceToNat, Int.reduceAdd, Int.reduceSub, Int.reduceMul, rsU, rsC]
    refine Ok_some.2 ⟨rfl, M', a', t'.chg (Z := X) (K := []) (Chg.refl _ _) (by simp) (fun b hb => .inl (by simp [hb])), c', ⟨by have := k'.next; simp only; omega, fun b hb => (k'.blk b (by simp [hb])).trans (o1 b (hltX b hb))⟩⟩
theorem told15_ok {σ : AH O} {lb pb mb : Nat} {M : MemS} {S : PoolS} {w : List Int} {L : LarS} {X : List Nat} {Y : List Int} (h : LarAt σ lb pb mb M S w L X Y) (hf : M.far 2000) (hl : L.H.length + L.W.length ≤ 201) :
    Ok (law15_told [.p (some (.n lb, 0))] σ) fun r => ∃ a M', r.1 = .tup [.sl a (L.H.length + L.W.length), .b true] ∧ LarAt r.2 lb pb mb M' S w L (SA.bk a ++ X) Y ∧ OwnS r.2 3 1 a (L.H.length + L.W.length) ((nums (L.H ++ L.W)).map (AV.i .i64)) ∧ Beh Y M M' (L.H.length + L.W.length) 0 0 ∧ Keep X σ r.2 ∧ ∀ b ∈ SA.bk a, b ∉ X := by
  have hlt := h.lt
  have hltX := h.lX
  simp (config := { maxSteps := 2000000 }) -implicitDefEqProofs (disch := (first | omega | rfl | assumption | (simp only [rsD]; first | omega | assumption))) only [law15_told, law15_told_c, large_Large__All, large_Large__All_c, s_rangeV, getG, s_nf, Nat.reduceAdd, Nat.reduceMul, Nat.reduceLT, Int.reduceToNat, Int.reduceAdd, Int.reduceSub, Int.reduceMul, rsU, rsC]
  generalize hσ : ((((((((σ.bump 2).put σ.next (.cells true _ _)).put (σ.next + 1) (.cells true _ _)).bump 1).put (σ.next + 2) (.cells true _ _)).bump 1).put (σ.next + 2 + 1) (.cells true _ _)).bump 1).put (σ.next + 2 + 1 + 1) (.loop _ _ _) = σ1
  have n1 : σ1.next = σ.next + 5 := by rw [← hσ]; rfl
  have o1 : ∀ b, b < σ.next → σ1.blk b = σ.blk b := fun b hb => by rw [← hσ]; simp -implicitDefEqProofs (disch := omega) only [s_bn, s_bs, s_kn, bump_blk]
  have b0 : σ1.blk σ.next = some (.cells true 29 [.sl .nil 0]) := by rw [← hσ]; simp -implicitDefEqProofs (disch := omega) only [s_bn, s_bs, s_kn, bump_blk]
  have b1 : σ1.blk (σ.next + 1) = some (.cells true 4 [.b false]) := by rw [← hσ]; simp -implicitDefEqProofs (disch := omega) only [s_bn, s_bs, s_kn, bump_blk]
  have bc : σ1.blk (σ.next + 2) = some (.cells true 67 [.p (some (.n lb, 0))]) := by rw [← hσ]; simp -implicitDefEqProofs (disch := omega) only [s_bn, s_bs, s_kn, bump_blk]
  have bo : σ1.blk (σ.next + 2 + 1) = some (.cells true 29 [.sl .nil 0]) := by rw [← hσ]; simp -implicitDefEqProofs (disch := omega) only [s_bn, s_bs, s_kn, bump_blk]
  have bl : σ1.blk (σ.next + 2 + 1 + 1) = some (.loop 35000 (toldEnv σ.next (σ.next + 1) (σ.next + 2 + 1)) .ready) := by rw [← hσ]; exact s_bs
  clear hσ
  have E1 : Ext σ σ1 := ext_of (by omega) o1
  have hnX : ∀ b, σ.next ≤ b → b ∉ X := fun b hb hm => by have := hltX b hm; omega
  have p1 := h.turn (Z := (σ.next + 2 + 1) :: (σ.next + 2 + 1 + 1) :: (SA.bk .nil ++ ((σ.next + 2) :: σ.next :: (σ.next + 1) :: X))) (K := []) E1.chg (by simp) fun b hb => by
    simp only [SA.bk, List.nil_append, List.mem_cons] at hb
    rcases hb with rfl | rfl | rfl | rfl | rfl | hb
    · exact .inr (by omega)
    · exact .inr (by omega)
    · exact .inr (by omega)
    · exact .inr (by omega)
    · exact .inr (by omega)
    · exact .inl hb
  have t1 : Tl σ1 lb pb mb M S w L ((σ.next + 2) :: σ.next :: (σ.next + 1) :: X) Y σ.next (σ.next + 1) (σ.next + 2 + 1) (σ.next + 2 + 1 + 1) .nil [] :=
    ⟨p1, bo, OwnS.nil _ _ _, bl, by omega, by simp [SA.bk], ⟨fun hm => ?_, fun hm => ?_⟩, by simp [SA.bk]⟩
  · refine Ok.step (all1_ok t1 hf (by simp; omega) (cap := σ.next + 2) (by simp) bc) fun r ⟨u1, M2, a2, t2, c2, k2⟩ => ?_
    obtain ⟨q, σ2⟩ := r
    simp only [List.nil_append] at u1 t2 k2
    subst u1
    have bl2 := t2.l1
    have bo2 := t2.o
    have n2 := k2.next
    have b02 : σ2.blk σ.next = _ := (k2.blk _ (by simp)).trans b0
    have b12 : σ2.blk (σ.next + 1) = _ := (k2.blk _ (by simp)).trans b1
    simp only [List.length_append] at bo2
    simp (config := { maxSteps := 2000000 }) -implicitDefEqProofs (disch := (first | omega | rfl | assumption | (simp only [rsD]; first | omega | assumption))) only [lstN, bl2, LSt.code, bo2, b02, b12, s_kn, Nat.reduceAdd, Nat.reduceMul, Nat.reduceLT, Int.reduceToNat, Int.reduceAdd, Int.reduceSub, Int.reduceMul, rsU, rsC]
    have hna : ∀ b ∈ SA.bk a2, b ≠ σ.next ∧ b ≠ σ.next + 1 ∧ b ≠ σ.next + 2 + 1 + 1 := fun b hb => ⟨fun e => t2.n4 b hb (by simp [e]), fun e => t2.n4 b hb (by simp [e]), fun e => t2.n2.2 (e ▸ hb)⟩
    refine Ok_some.2 ⟨a2, M2, rfl, t2.p.turn (K := [σ.next + 2 + 1 + 1, σ.next, σ.next + 1]) ⟨by simp, fun b hb hm => ?_⟩ (fun b hb => .inl ?_) (fun b hb => .inl ?_), ?_, c2, ⟨by simp; omega, fun b hb => ?_⟩, fun b hb hm => t2.n4 b hb (by simp [hm])⟩
    · simp only [List.mem_cons, List.not_mem_nil, or_false, not_or] at hm
      rw [s_bn hm.2.2, s_bn hm.2.1, s_kn hm.1]
    · simp only [List.mem_cons, List.not_mem_nil, or_false] at hb
      rcases hb with rfl | rfl | rfl <;> simp
    · rcases List.mem_append.1 hb with hb | hb <;> simp [hb]
    · have := t2.own
      simp only [List.length_append] at this
      exact this.of (by simp) fun b hb => by
        obtain ⟨e1, e2, e3⟩ := hna b hb
        rw [s_bn e2, s_bn e1, s_kn e3]
    · have := hltX b hb
      rw [s_bn (by omega), s_bn (by omega), s_kn (by omega), k2.blk b (by simp [hb]), o1 b this]
  · simp only [List.mem_cons] at hm
    rcases hm with e | e | e | hm
    · omega
    · omega
    · omega
    · exact hnX _ (by omega) hm
  · simp only [List.mem_cons] at hm
    rcases hm with e | e | e | hm
    · omega
    · omega
    · omega
    · exact hnX _ (by omega) hm
end Go.Abs.Try
