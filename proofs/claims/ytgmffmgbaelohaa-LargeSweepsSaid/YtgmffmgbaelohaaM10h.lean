/-
  Layer 9 over layer 10: a chain's entries are handed out one after the other. No conditions.
-/
import Derived.Test.YtgmffmgbaelohaaM10g
set_option linter.unusedVariables false
set_option linter.unusedSimpArgs false
set_option linter.constructorNameAsVariable false
set_option linter.unusedSimpArgs false
set_option linter.unusedVariables false
set_option linter.unusedSectionVars false
set_option maxHeartbeats 2000000
namespace Go.Abs.Try
open Go Go.Abs
variable {O : Type}

def tblc (S : PoolS) (mb nx pv : Nat) : List AV := [.p (some (.n mb, 0)), .i .i64 S.id, .i .i64 ((S.words : Int) + 1), .i .i64 ((nx : Int) + 1), .i .i64 ((pv : Int) + 1)]
def chnc (C : List Nat) : List AV := [.i .i64 (hdI C : Int), .i .i64 (tlI C : Int), .i .i64 (C.length : Int)]
section
variable {σ : AH O} {pb mb : Nat} {M : MemS} {S : PoolS} {w : List Int} {X : List Nat} (h : PoolAt σ pb mb M S w X) {nx pv : Nat} (h1 : nx < S.words) (h2 : pv < S.words) (hne : nx ≠ pv)
include h h1 h2 hne
theorem tafter_ok (hc : M.calm) {i x : Nat} {e : PE} (he : S.E[i]? = some e) (hv : e.ws[nx]? = some (x : Int)) (hx : x ≤ 4611686018427387904) :
    Ok (chain_Table__After [tbl S mb nx pv, .i .i64 ((i : Int) + 1)] σ) fun r => r.1 = .tup [.i .i64 (x : Int), .i .i64 0] ∧ ∃ M', PoolAt r.2 pb mb M' S w X ∧ Wrt M M' S.id w 1 0 ∧ Keep X σ r.2 := by
  have hiE := (List.getElem?_eq_some_iff.1 he).1
  have hmd := h.p.made
  have e0 : ((0 : Int) != 0) = false := rfl
  simp (config := { maxSteps := 2000000 }) -implicitDefEqProofs (disch := (first | omega | rfl | assumption | (simp only [rsD]; first | omega | assumption))) only [chain_Table__After, chain_Table__After_c, tbl, Nat.reduceAdd, Nat.reduceMul, Nat.reduceLT, Int.reduceToNat, Int.reduceAdd, Int.reduceSub, Int.reduceMul, rsU, rsC]
  generalize hσ : (σ.bump 1).put σ.next (.cells true _ _) = σ1
  obtain ⟨E1, b1, n1⟩ := boxed hσ
  clear hσ
  have ck := tcheck_ok (h.ext E1) h1 h2 hne (i := i) (by omega)
  unfold tbl at ck
  refine Ok.step ck fun r ⟨g1, g2⟩ => ?_
  obtain ⟨q, σ2⟩ := r
  simp only at g1 g2
  subst g1
  have b2 : σ2.blk σ.next = _ := (g2.blk _ (by omega)).trans b1
  have p2 := h.ext (E1.trans g2)
  simp (config := { maxSteps := 2000000 }) -implicitDefEqProofs (disch := (first | omega | rfl | assumption | (simp only [rsD]; first | omega | assumption))) only [e0, b2, Nat.reduceAdd, Nat.reduceMul, Nat.reduceLT, Int.reduceToNat, Int.reduceAdd, Int.reduceSub, Int.reduceMul, rsU, rsC]
  have ts := tget_ok p2 hc (nx := nx) (pv := pv) (i := i) (k := nx) (x := x) he h1 hv hx
  unfold tbl at ts
  refine Ok.step ts fun r ⟨k1, M3, p3, q3, kp3⟩ => ?_
  obtain ⟨q, σ3⟩ := r
  simp only at k1 p3 kp3
  subst k1
  simp (config := { maxSteps := 2000000 }) -implicitDefEqProofs (disch := (first | omega | rfl | assumption | (simp only [rsD]; first | omega | assumption))) only [Nat.reduceAdd, Nat.reduceMul, Nat.reduceLT, Int.reduceToNat, Int.reduceAdd, Int.reduceSub, Int.reduceMul, rsU, rsC]
  exact Ok_some.2 ⟨rfl, M3, p3, q3, (h.mi.tail.keepExt (E1.trans g2)).trans kp3⟩
end
theorem tall_ok {σ : AH O} {S : PoolS} {mb nx pv : Nat} {C : List Nat} : chain_Table__All [tbl S mb nx pv, chn C] σ = some (.fn (some (.func 158, [], [.p (some (.n (σ.next + 1), 0)), .p (some (.n σ.next, 0))])), ((σ.bump 2).put σ.next (.cells true T_chain_Table (tblc S mb nx pv))).put (σ.next + 1) (.cells true T_chain_Chain (chnc C))) := by
  simp (config := { maxSteps := 2000000 }) -implicitDefEqProofs (disch := (first | omega | rfl | assumption | (simp only [rsD]; first | omega | assumption))) only [chain_Table__All, chain_Table__All_c, tbl, chn, tblc, chnc, Nat.reduceAdd, Nat.reduceMul, Nat.reduceLT, Int.reduceToNat, Int.reduceAdd, Int.reduceSub, Int.reduceMul, rsU, rsC]
/-- a chain's entries are handed out: I k: k of them were -/
theorem tallr_ok {ky : Sm O} {b pb mb nx pv : Nat} {S : PoolS} {w : List Int} {X0 : List Nat} {C : List Nat} {cb tb : Nat} (I : Nat → AH O → MemS → Prop)
    (h1 : nx < S.words) (h2 : pv < S.words) (hne : nx ≠ pv) (hL : Linked S.E nx pv C) (hC : C.length ≤ 4194304)
    (hy : ∀ (k i : Nat) (σ : AH O) (M : MemS), C[k]? = some i → I k σ M → Ok (ky [.p (some (.n b, 0)), .i .i64 ((i : Int) + 1)] σ) fun r => r.1 = .b true ∧ ∃ M' X, PoolAt r.2 pb mb M' S w X ∧ M'.calm ∧ (∃ el, r.2.blk tb = some (.cells true el (tblc S mb nx pv))) ∧
      ∀ σ' M'', PoolAt σ' pb mb M'' S w X → Wrt M' M'' S.id w 1 0 → Keep X r.2 σ' → I (k + 1) σ' M'')
    {σ : AH O} {M : MemS} (p0 : PoolAt σ pb mb M S w X0) {el : TypeId} (hcb : σ.blk cb = some (.cells true el (chnc C))) (h0 : I 0 σ M) {x y : List AV} :
    Ok (chain_Table__All_1 ky [.fn (some (.yield b, x, y)), .p (some (.n cb, 0)), .p (some (.n tb, 0))] σ) fun r => r.1 = .tup [] ∧ ∃ M', I C.length r.2 M' := by
  have hE4 : S.E.length ≤ 4194304 := by
    have hmd := p0.p.made
    have hlen := p0.p.len
    have hwl := p0.wle
    have h3 : S.room * 1 ≤ S.room * (S.words + 1) := Nat.mul_le_mul_left _ (by omega)
    omega
  obtain ⟨s1, s2, s3⟩ := hL.small (B := 4194304) hE4
  simp only [chnc] at hcb
  simp (config := { maxSteps := 2000000 }) -implicitDefEqProofs (disch := (first | omega | rfl | assumption | (simp only [rsD]; first | omega | assumption))) only [chain_Table__All_1, chain_Table__All_1_c, hcb, Nat.reduceAdd, Nat.reduceMul, Nat.reduceLT, Int.reduceToNat, Int.reduceAdd, Int.reduceSub, Int.reduceMul, rsU, rsC]
  refine Ok.bindS (Q := fun r => ∃ σ' M', r = .inl ([], σ') ∧ I C.length σ' M') ?_ ?_ ?_
  · refine Ok.count C.length (fun k s => ∃ σ' M', s = ([.i .i64 (match C[k]? with | some i => (i : Int) + 1 | none => 0), .i .i64 (k : Int)], σ') ∧ I k σ' M') ?_ ?_ ⟨σ, M, ?_, h0⟩
    · rintro k s hk ⟨σ1, M1, rfl, hI⟩
      have hx := List.getElem?_eq_getElem hk
      generalize C[k] = i at hx
      obtain ⟨e, he, hl⟩ := hL.at_ k i hx
      have hiE := (List.getElem?_eq_some_iff.1 he).1
      rw [hx]
      simp (config := { maxSteps := 2000000 }) -implicitDefEqProofs (disch := (first | omega | rfl | assumption | (simp only [rsD]; first | omega | assumption))) only [chain_Table__All_1_L1, callV, getG, yKey, Nat.reduceAdd, Nat.reduceMul, Nat.reduceLT, Int.reduceToNat, Int.reduceAdd, Int.reduceSub, Int.reduceMul, rsU, rsC]
      refine Ok.step (hy k i σ1 M1 hx hI) fun r ⟨g1, M2, X2, g2, hc2, ⟨el2, htb⟩, g7⟩ => ?_
      obtain ⟨q, σ2⟩ := r
      simp only at g1 g2 htb g7
      subst g1
      simp only [tblc] at htb
      simp (config := { maxSteps := 2000000 }) -implicitDefEqProofs (disch := (first | omega | rfl | assumption | (simp only [rsD]; first | omega | assumption))) only [htb, Nat.reduceAdd, Nat.reduceMul, Nat.reduceLT, Int.reduceToNat, Int.reduceAdd, Int.reduceSub, Int.reduceMul, rsU, rsC]
      have ta := tafter_ok g2 h1 h2 hne hc2 (i := i) (x := nid C k) he hl.n (by have := (s3 k).1; omega)
      unfold tbl at ta
      refine Ok.step ta fun r ⟨g3, M3, g4, g5, g6⟩ => ?_
      obtain ⟨q, σ3⟩ := r
      simp only at g3 g4 g6
      subst g3
      have e0 : ((0 : Int) != 0) = false := rfl
      simp (config := { maxSteps := 2000000 }) -implicitDefEqProofs (disch := (first | omega | rfl | assumption | (simp only [rsD]; first | omega | assumption))) only [e0, Nat.reduceAdd, Nat.reduceMul, Nat.reduceLT, Int.reduceToNat, Int.reduceAdd, Int.reduceSub, Int.reduceMul, rsU, rsC]
      have hn : ((nid C k : Nat) : Int) = (match C[k + 1]? with | some i => (i : Int) + 1 | none => 0) := by
        unfold nid
        cases C[k + 1]? with
        | none => rfl
        | some i => simp
      exact Ok_some.2 ⟨σ3, M3, by rw [hn]; rfl, g7 σ3 M3 g4 g5 g6⟩
    · rintro s ⟨σ1, M1, rfl, hI⟩
      have hx : C[C.length]? = none := by simp
      rw [hx]
      simp (config := { maxSteps := 2000000 }) -implicitDefEqProofs (disch := (first | omega | rfl | assumption | (simp only [rsD]; first | omega | assumption))) only [chain_Table__All_1_L1, Nat.reduceAdd, Nat.reduceMul, Nat.reduceLT, Int.reduceToNat, Int.reduceAdd, Int.reduceSub, Int.reduceMul, rsU, rsC]
      exact Ok_some.2 ⟨σ1, M1, rfl, hI⟩
    · cases C with
      | nil => simp [hdI]
      | cons c C => simp [hdI]
  · rintro s ⟨σ1, M1, e, hI⟩
    simp only [Sum.inl.injEq] at e
    subst e
    simp (config := { maxSteps := 2000000 }) -implicitDefEqProofs (disch := (first | omega | rfl | assumption | (simp only [rsD]; first | omega | assumption))) only [Nat.reduceAdd, Nat.reduceMul, Nat.reduceLT, Int.reduceToNat, Int.reduceAdd, Int.reduceSub, Int.reduceMul, rsU, rsC]
    exact Ok_some.2 ⟨rfl, M1, hI⟩
  · rintro s ⟨σ1, M1, e, hI⟩
    cases e
end Go.Abs.Try
