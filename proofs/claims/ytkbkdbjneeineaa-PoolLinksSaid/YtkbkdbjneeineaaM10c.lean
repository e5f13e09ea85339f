/-
  Layer 10: entries' words; a pool is made; the example of the page. No conditions.
-/
import Derived.Test.YtkbkdbjneeineaaM10b
set_option linter.unusedVariables false
set_option linter.unusedSimpArgs false
set_option linter.constructorNameAsVariable false
set_option linter.unusedSimpArgs false
set_option linter.unusedVariables false
set_option linter.unusedSectionVars false
set_option maxHeartbeats 1000000
namespace Go.Abs.Try
open Go Go.Abs
variable {O : Type}

theorem pool_bump_ext (σ : AH O) (k : Nat) : Ext σ (σ.bump k) := (Ext.refl σ).bump k
theorem pool_box_ext (σ : AH O) (x : Blk O) : Ext σ ((σ.bump 1).put σ.next x) := (pool_bump_ext σ 1).put (Nat.le_refl _) x
/-- what is wrong with a word of an entry -/
def pwrong (S : PoolS) (e : PE) (k : Int) : Int := if e.tk = true then (if k < 0 ∨ k ≥ S.words then 32 else 0) else 4
section
variable {σ : AH O} {pb mb : Nat} {M : MemS} {S : PoolS} {w : List Int} {X : List Nat} (h : PoolAt σ pb mb M S w X) (hc : M.calm)
include h hc
theorem pcheck_ok {i : Nat} {e : PE} {k : Int} (he : S.E[i]? = some e) :
    Ok (pool_Pool__check [.p (some (.n pb, 0)), .i .i64 ((i : Int) + 1), .i .i64 k] σ) fun q => q.1 = .i .i64 (pwrong S e k) ∧ ∃ M', PoolAt q.2 pb mb M' S w X ∧ Wrt M M' S.id w 1 0 ∧ Keep X σ q.2 := by
  simp (config := { maxSteps := 2000000 }) -implicitDefEqProofs (disch := (first | omega | rfl | assumption | (simp only [rsD]; first | omega | assumption))) only [pool_Pool__check, pool_Pool__check_c, Nat.reduceAdd, Nat.reduceMul, Nat.reduceLT, Int.reduceToNat, Int.reduceAdd, Int.reduceSub, Int.reduceMul, rsU, rsC]
  refine Ok.step (ptaken_ok h hc he) fun q ⟨p1, M1, p2, p3⟩ => ?_
  obtain ⟨q, σ1⟩ := q
  simp only at p1 p2 p3
  subst p1
  have hb1 := p2.b
  simp only [PoolS.cells] at hb1
  cases ht : e.tk with
  | false =>
    have : pwrong S e k = 4 := by simp [pwrong, ht]
    rw [this]
    simp (config := { maxSteps := 2000000 }) -implicitDefEqProofs (disch := (first | omega | rfl | assumption | (simp only [rsD]; first | omega | assumption))) only [Nat.reduceAdd, Nat.reduceMul, Nat.reduceLT, Int.reduceToNat, Int.reduceAdd, Int.reduceSub, Int.reduceMul, rsU, rsC]
    exact Ok_some.2 ⟨rfl, M1, p2, p3⟩
  | true =>
    by_cases c1 : k < 0
    · have : pwrong S e k = 32 := by simp [pwrong, ht, c1]
      rw [this]
      simp (config := { maxSteps := 2000000 }) -implicitDefEqProofs (disch := (first | omega | rfl | assumption | (simp only [rsD]; first | omega | assumption))) only [Nat.reduceAdd, Nat.reduceMul, Nat.reduceLT, Int.reduceToNat, Int.reduceAdd, Int.reduceSub, Int.reduceMul, rsU, rsC]
      exact Ok_some.2 ⟨rfl, M1, p2, p3⟩
    · by_cases c2 : k ≥ S.words
      · have : pwrong S e k = 32 := by simp [pwrong, ht, c2]
        rw [this]
        simp (config := { maxSteps := 2000000 }) -implicitDefEqProofs (disch := (first | omega | rfl | assumption | (simp only [rsD]; first | omega | assumption))) only [hb1, Nat.reduceAdd, Nat.reduceMul, Nat.reduceLT, Int.reduceToNat, Int.reduceAdd, Int.reduceSub, Int.reduceMul, rsU, rsC]
        exact Ok_some.2 ⟨rfl, M1, p2, p3⟩
      · have : pwrong S e k = 0 := by simp [pwrong, ht]; omega
        rw [this]
        simp (config := { maxSteps := 2000000 }) -implicitDefEqProofs (disch := (first | omega | rfl | assumption | (simp only [rsD]; first | omega | assumption))) only [hb1, Nat.reduceAdd, Nat.reduceMul, Nat.reduceLT, Int.reduceToNat, Int.reduceAdd, Int.reduceSub, Int.reduceMul, rsU, rsC]
        exact Ok_some.2 ⟨rfl, M1, p2, p3⟩
theorem pget_ok {i : Nat} {e : PE} {k : Nat} (he : S.E[i]? = some e) (htk : e.tk = true) (hk : k < S.words) (hm : M.met.r + 100 < 85070591730234615865843651857942052864) :
    Ok (pool_Pool__Get [.p (some (.n pb, 0)), .i .i64 ((i : Int) + 1), .i .i64 (k : Int)] σ) fun q => q.1 = .tup [.i .u64 (e.ws.getD k 0), .i .i64 0] ∧ ∃ M', PoolAt q.2 pb mb M' S w X ∧ Wrt M M' S.id w 2 0 ∧ Keep X σ q.2 := by
  have z : pwrong S e k = 0 := by simp [pwrong, htk]; omega
  have e0 : ((0 : Int) != 0) = false := rfl
  have hpos := h.p.pos he
  have hwl := h.wle
  have hw := h.p.words
  have hlen := h.p.len
  have hmd := h.p.made
  have hiE := (List.getElem?_eq_some_iff.1 he).1
  have h3 : S.room * 1 ≤ S.room * (S.words + 1) := Nat.mul_le_mul_left _ (by omega)
  have hl := h.p.at he hk
  have hwl1 := h.p.wl e (List.mem_of_getElem? he)
  have hx := List.getElem?_eq_getElem (show k < e.ws.length by omega)
  rw [hx] at hl
  simp (config := { maxSteps := 2000000 }) -implicitDefEqProofs (disch := (first | omega | rfl | assumption | (simp only [rsD]; first | omega | assumption))) only [pool_Pool__Get, pool_Pool__Get_c, Nat.reduceAdd, Nat.reduceMul, Nat.reduceLT, Int.reduceToNat, Int.reduceAdd, Int.reduceSub, Int.reduceMul, rsU, rsC]
  refine Ok.step (pcheck_ok h hc (k := (k : Int)) he) fun q ⟨p1, M1, p2, p3, p4⟩ => ?_
  obtain ⟨q, σ1⟩ := q
  simp only at p1 p2 p4
  rw [z] at p1
  subst p1
  have hb1 := p2.b
  simp only [PoolS.cells] at hb1
  have pa := pat_ok p2 (i := i) (k := (k : Int)) (by omega) (by omega) ⟨by omega, by omega⟩
  have t0 : ((i * (S.words + 1) : Nat) : Int) + 1 + (k : Int) = ((i * (S.words + 1) + 1 + k : Nat) : Int) := by omega
  rw [t0] at pa
  generalize i * (S.words + 1) = P at *
  have hr1 := p3.r
  have hw1 := p3.w
  simp (config := { maxSteps := 2000000 }) -implicitDefEqProofs (disch := (first | omega | rfl | assumption | (simp only [rsD]; first | omega | assumption))) only [e0, hb1, pa, Nat.reduceAdd, Nat.reduceMul, Nat.reduceLT, Int.reduceToNat, Int.reduceAdd, Int.reduceSub, Int.reduceMul, rsU, rsC]
  refine Ok.step (readX p2.mi ⟨by omega, by have := hc.w; omega⟩ p2.now (at_ := ((P + 1 + k : Nat) : Int)) (by omega) (by omega)) fun q ⟨q1, M2, q2, q3, q4⟩ => ?_
  obtain ⟨q, σ2⟩ := q
  simp only at q1 q2 q4
  rw [Int.toNat_natCast, List.getD_eq_getElem?_getD, hl] at q1
  simp only [Option.getD_some] at q1
  subst q1
  simp (config := { maxSteps := 2000000 }) -implicitDefEqProofs (disch := (first | omega | rfl | assumption | (simp only [rsD]; first | omega | assumption))) only [Nat.reduceAdd, Nat.reduceMul, Nat.reduceLT, Int.reduceToNat, Int.reduceAdd, Int.reduceSub, Int.reduceMul, rsU, rsC]
  refine Ok_some.2 ⟨?_, M2, { p2 with mi := q2, b := q4.head.trans p2.b, now := q3.words p2.now }, (p3.trans q3).as rfl (by omega) (by omega), p4.trans q4.tail⟩
  rw [List.getD_eq_getElem?_getD, hx]; rfl
end
theorem pnew_bad {σ : AH O} {p : Option (Bid × Nat)} {n : Int} (h : p = none ∨ n < 1 ∨ n > 60) : pool_New [.p p, .i .i64 n] σ = some (.tup [.p none, .i .i64 1], σ) := by
  cases p with
  | none => simp (config := { maxSteps := 2000000 }) -implicitDefEqProofs (disch := (first | omega | rfl | assumption | (simp only [rsD]; first | omega | assumption))) only [pool_New, pool_New_c, Option.isNone_none, Nat.reduceAdd, Nat.reduceMul, Nat.reduceLT, Int.reduceToNat, Int.reduceAdd, Int.reduceSub, Int.reduceMul, rsU, rsC]
  | some q =>
    have h : n < 1 ∨ n > 60 := by simpa using h
    by_cases c : n < 1
    · simp (config := { maxSteps := 2000000 }) -implicitDefEqProofs (disch := (first | omega | rfl | assumption | (simp only [rsD]; first | omega | assumption))) only [pool_New, pool_New_c, Option.isNone_some, Nat.reduceAdd, Nat.reduceMul, Nat.reduceLT, Int.reduceToNat, Int.reduceAdd, Int.reduceSub, Int.reduceMul, rsU, rsC]
    · simp (config := { maxSteps := 2000000 }) -implicitDefEqProofs (disch := (first | omega | rfl | assumption | (simp only [rsD]; first | omega | assumption))) only [pool_New, pool_New_c, Option.isNone_some, Nat.reduceAdd, Nat.reduceMul, Nat.reduceLT, Int.reduceToNat, Int.reduceAdd, Int.reduceSub, Int.reduceMul, rsU, rsC]
theorem pnew_ok {σ : AH O} {mb : Nat} {M : MemS} {X : List Nat} {n : Nat} (h : MemIn σ mb M X) (hc : M.calm) (hcnt : M.count < 262144) (hn : 1 ≤ n ∧ n ≤ 60) :
    Ok (pool_New [.p (some (.n mb, 0)), .i .i64 (n : Int)] σ) fun r => ∃ pb, r.1 = .tup [.p (some (.n pb, 0)), .i .i64 0] ∧ PoolAt r.2 pb mb (M.opn (ff M.sp) 0) ⟨ff M.sp, n, 0, [], [], 0⟩ [] X ∧ σ.next ≤ pb ∧ Keep X σ r.2 := by
  simp (config := { maxSteps := 2000000 }) -implicitDefEqProofs (disch := (first | omega | rfl | assumption | (simp only [rsD]; first | omega | assumption))) only [pool_New, pool_New_c, Option.isNone_some, Nat.reduceAdd, Nat.reduceMul, Nat.reduceLT, Int.reduceToNat, Int.reduceAdd, Int.reduceSub, Int.reduceMul, rsU, rsC]
  refine Ok.step (openX h hc (n := 0) (by decide) (by decide) hcnt) fun r ⟨p1, p2, p3⟩ => ?_
  obtain ⟨q, σ1⟩ := r
  simp only at p1 p2 p3
  subst p1
  have e0 : ((0 : Int) != 0) = false := rfl
  simp (config := { maxSteps := 2000000 }) -implicitDefEqProofs (disch := (first | omega | rfl | assumption | (simp only [rsD]; first | omega | assumption))) only [e0, Nat.reduceAdd, Nat.reduceMul, Nat.reduceLT, Int.reduceToNat, Int.reduceAdd, Int.reduceSub, Int.reduceMul, rsU, rsC]
  refine Ok_some.2 ⟨σ1.next, rfl, ⟨p2.new (pool_box_ext _ _) (Nat.le_refl _) (by simp), s_bs, fun hm => by have := p2.lt _ hm; omega, opn_words, hn, by simp, Nat.le_refl _, .inl rfl, by simp, trivial, by simp, rfl, by simp⟩, p3.next, p3.trans (p2.keepExt (pool_box_ext _ _))⟩
end Go.Abs.Try
