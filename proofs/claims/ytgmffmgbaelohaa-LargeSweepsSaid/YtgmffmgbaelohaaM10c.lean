/-
  Layer 10: entries' words; a pool is made; the example of the page. No conditions.
-/
import Derived.Test.YtgmffmgbaelohaaM10b
set_option linter.unusedVariables false
set_option linter.unusedSimpArgs false
set_option linter.constructorNameAsVariable false
set_option linter.unusedSimpArgs false
set_option linter.unusedVariables false
set_option linter.unusedSectionVars false
set_option maxHeartbeats 1000000
namespace Go.Abs.Try
open Go Go.Abs
variable {O : Type}

theorem pool_bump_ext (σ : AH O) (k : Nat) : Ext σ (σ.bump k) := (Ext.refl σ).bump k
theorem pool_box_ext (σ : AH O) (x : Blk O) : Ext σ ((σ.bump 1).put σ.next x) := (pool_bump_ext σ 1).put (Nat.le_refl _) x
/-- what is wrong with a word of an entry -/
def pwrong (S : PoolS) (e : PE) (k : Int) : Int := if e.tk = true then (if k < 0 ∨ k ≥ S.words then 32 else 0) else 4
section
variable {σ : AH O} {pb mb : Nat} {M : MemS} {S : PoolS} {w : List Int} {X : List Nat} (h : PoolAt σ pb mb M S w X) (hc : M.calm)
include h hc
theorem pcheck_no {id k : Int} (hn : id < 1 ∨ id > S.E.length) : pool_Pool__check [.p (some (.n pb, 0)), .i .i64 id, .i .i64 k] σ = some (.i .i64 4, σ) := by
  have tk := ptaken_no h hc hn
  simp (config := { maxSteps := 2000000 }) -implicitDefEqProofs (disch := (first | omega | rfl | assumption | (simp only [rsD]; first | omega | assumption))) only [pool_Pool__check, pool_Pool__check_c, tk, Nat.reduceAdd, Nat.reduceMul, Nat.reduceLT, Int.reduceToNat, Int.reduceAdd, Int.reduceSub, Int.reduceMul, rsU, rsC]
theorem pcheck_ok {i : Nat} {e : PE} {k : Int} (he : S.E[i]? = some e) :
    Ok (pool_Pool__check [.p (some (.n pb, 0)), .i .i64 ((i : Int) + 1), .i .i64 k] σ) fun q => q.1 = .i .i64 (pwrong S e k) ∧ ∃ M', PoolAt q.2 pb mb M' S w X ∧ Wrt M M' S.id w 1 0 ∧ Keep X σ q.2 := by
  simp (config := { maxSteps := 2000000 }) -implicitDefEqProofs (disch := (first | omega | rfl | assumption | (simp only [rsD]; first | omega | assumption))) only [pool_Pool__check, pool_Pool__check_c, Nat.reduceAdd, Nat.reduceMul, Nat.reduceLT, Int.reduceToNat, Int.reduceAdd, Int.reduceSub, Int.reduceMul, rsU, rsC]
  refine Ok.step (ptaken_ok h hc he) fun q ⟨p1, M1, p2, p3⟩ => ?_
  obtain ⟨q, σ1⟩ := q
  simp only at p1 p2 p3
  subst p1
  have hb1 := p2.b
  simp only [PoolS.cells] at hb1
  cases ht : e.tk with
  | false =>
    have : pwrong S e k = 4 := by simp [pwrong, ht]
    rw [this]
    simp (config := { maxSteps := 2000000 }) -implicitDefEqProofs (disch := (first | omega | rfl | assumption | (simp only [rsD]; first | omega | assumption))) only [Nat.reduceAdd, Nat.reduceMul, Nat.reduceLT, Int.reduceToNat, Int.reduceAdd, Int.reduceSub, Int.reduceMul, rsU, rsC]
    exact Ok_some.2 ⟨rfl, M1, p2, p3⟩
  | true =>
    by_cases c1 : k < 0
    · have : pwrong S e k = 32 := by simp [pwrong, ht, c1]
      rw [this]
      simp (config := { maxSteps := 2000000 }) -implicitDefEqProofs (disch := (first | omega | rfl | assumption | (simp only [rsD]; first | omega | assumption))) only [Nat.reduceAdd, Nat.reduceMul, Nat.reduceLT, Int.reduceToNat, Int.reduceAdd, Int.reduceSub, Int.reduceMul, rsU, rsC]
      exact Ok_some.2 ⟨rfl, M1, p2, p3⟩
    · by_cases c2 : k ≥ S.words
      · have : pwrong S e k = 32 := by simp [pwrong, ht, c2]
        rw [this]
        simp (config := { maxSteps := 2000000 }) -implicitDefEqProofs (disch := (first | omega | rfl | assumption | (simp only [rsD]; first | omega | assumption))) only [hb1, Nat.reduceAdd, Nat.reduceMul, Nat.reduceLT, Int.reduceToNat, Int.reduceAdd, Int.reduceSub, Int.reduceMul, rsU, rsC]
        exact Ok_some.2 ⟨rfl, M1, p2, p3⟩
      · have : pwrong S e k = 0 := by simp [pwrong, ht]; omega
        rw [this]
        simp (config := { maxSteps := 2000000 }) -implicitDefEqProofs (disch := (first | omega | rfl | assumption | (simp only [rsD]; first | omega | assumption))) only [hb1, Nat.reduceAdd, Nat.reduceMul, Nat.reduceLT, Int.reduceToNat, Int.reduceAdd, Int.reduceSub, Int.reduceMul, rsU, rsC]
        exact Ok_some.2 ⟨rfl, M1, p2, p3⟩
theorem pget_no {id k : Int} (hn : id < 1 ∨ id > S.E.length) : pool_Pool__Get [.p (some (.n pb, 0)), .i .i64 id, .i .i64 k] σ = some (.tup [.i .u64 0, .i .i64 4], σ) := by
  have ck := pcheck_no h hc (k := k) hn
  have e4 : ((4 : Int) != 0) = true := rfl
  simp (config := { maxSteps := 2000000 }) -implicitDefEqProofs (disch := (first | omega | rfl | assumption | (simp only [rsD]; first | omega | assumption))) only [pool_Pool__Get, pool_Pool__Get_c, ck, e4, Nat.reduceAdd, Nat.reduceMul, Nat.reduceLT, Int.reduceToNat, Int.reduceAdd, Int.reduceSub, Int.reduceMul, rsU, rsC]
theorem pget_bad {i : Nat} {e : PE} {k : Int} (he : S.E[i]? = some e) (hk : pwrong S e k ≠ 0) :
    Ok (pool_Pool__Get [.p (some (.n pb, 0)), .i .i64 ((i : Int) + 1), .i .i64 k] σ) fun q => q.1 = .tup [.i .u64 0, .i .i64 (pwrong S e k)] ∧ ∃ M', PoolAt q.2 pb mb M' S w X ∧ Wrt M M' S.id w 1 0 ∧ Keep X σ q.2 := by
  simp (config := { maxSteps := 2000000 }) -implicitDefEqProofs (disch := (first | omega | rfl | assumption | (simp only [rsD]; first | omega | assumption))) only [pool_Pool__Get, pool_Pool__Get_c, Nat.reduceAdd, Nat.reduceMul, Nat.reduceLT, Int.reduceToNat, Int.reduceAdd, Int.reduceSub, Int.reduceMul, rsU, rsC]
  refine Ok.step (pcheck_ok h hc he) fun q ⟨p1, p2⟩ => ?_
  obtain ⟨q, σ1⟩ := q
  simp only at p1 p2
  subst p1
  have e1 : (pwrong S e k != 0) = true := by simp [hk]
  simp (config := { maxSteps := 2000000 }) -implicitDefEqProofs (disch := (first | omega | rfl | assumption | (simp only [rsD]; first | omega | assumption))) only [e1, Nat.reduceAdd, Nat.reduceMul, Nat.reduceLT, Int.reduceToNat, Int.reduceAdd, Int.reduceSub, Int.reduceMul, rsU, rsC]
  exact Ok_some.2 ⟨rfl, p2⟩
theorem pget_ok {i : Nat} {e : PE} {k : Nat} (he : S.E[i]? = some e) (htk : e.tk = true) (hk : k < S.words) (hm : M.met.r + 100 < 85070591730234615865843651857942052864) :
    Ok (pool_Pool__Get [.p (some (.n pb, 0)), .i .i64 ((i : Int) + 1), .i .i64 (k : Int)] σ) fun q => q.1 = .tup [.i .u64 (e.ws.getD k 0), .i .i64 0] ∧ ∃ M', PoolAt q.2 pb mb M' S w X ∧ Wrt M M' S.id w 2 0 ∧ Keep X σ q.2 := by
  have z : pwrong S e k = 0 := by simp [pwrong, htk]; omega
  have e0 : ((0 : Int) != 0) = false := rfl
  have hpos := h.p.pos he
  have hwl := h.wle
  have hw := h.p.words
  have hlen := h.p.len
  have hmd := h.p.made
  have hiE := (List.getElem?_eq_some_iff.1 he).1
  have h3 : S.room * 1 ≤ S.room * (S.words + 1) := Nat.mul_le_mul_left _ (by omega)
  have hl := h.p.at he hk
  have hwl1 := h.p.wl e (List.mem_of_getElem? he)
  have hx := List.getElem?_eq_getElem (show k < e.ws.length by omega)
  rw [hx] at hl
  simp (config := { maxSteps := 2000000 }) -implicitDefEqProofs (disch := (first | omega | rfl | assumption | (simp only [rsD]; first | omega | assumption))) only [pool_Pool__Get, pool_Pool__Get_c, Nat.reduceAdd, Nat.reduceMul, Nat.reduceLT, Int.reduceToNat, Int.reduceAdd, Int.reduceSub, Int.reduceMul, rsU, rsC]
  refine Ok.step (pcheck_ok h hc (k := (k : Int)) he) fun q ⟨p1, M1, p2, p3, p4⟩ => ?_
  obtain ⟨q, σ1⟩ := q
  simp only at p1 p2 p4
  rw [z] at p1
  subst p1
  have hb1 := p2.b
  simp only [PoolS.cells] at hb1
  have pa := pat_ok p2 (i := i) (k := (k : Int)) (by omega) (by omega) ⟨by omega, by omega⟩
  have t0 : ((i * (S.words + 1) : Nat) : Int) + 1 + (k : Int) = ((i * (S.words + 1) + 1 + k : Nat) : Int) := by omega
  rw [t0] at pa
  generalize i * (S.words + 1) = P at *
  have hr1 := p3.r
  have hw1 := p3.w
  simp (config := { maxSteps := 2000000 }) -implicitDefEqProofs (disch := (first | omega | rfl | assumption | (simp only [rsD]; first | omega | assumption))) only [e0, hb1, pa, Nat.reduceAdd, Nat.reduceMul, Nat.reduceLT, Int.reduceToNat, Int.reduceAdd, Int.reduceSub, Int.reduceMul, rsU, rsC]
  refine Ok.step (readX p2.mi ⟨by omega, by have := hc.w; omega⟩ p2.now (at_ := ((P + 1 + k : Nat) : Int)) (by omega) (by omega)) fun q ⟨q1, M2, q2, q3, q4⟩ => ?_
  obtain ⟨q, σ2⟩ := q
  simp only at q1 q2 q4
  rw [Int.toNat_natCast, List.getD_eq_getElem?_getD, hl] at q1
  simp only [Option.getD_some] at q1
  subst q1
  simp (config := { maxSteps := 2000000 }) -implicitDefEqProofs (disch := (first | omega | rfl | assumption | (simp only [rsD]; first | omega | assumption))) only [Nat.reduceAdd, Nat.reduceMul, Nat.reduceLT, Int.reduceToNat, Int.reduceAdd, Int.reduceSub, Int.reduceMul, rsU, rsC]
  refine Ok_some.2 ⟨?_, M2, { p2 with mi := q2, b := q4.head.trans p2.b, now := q3.words p2.now }, (p3.trans q3).as rfl (by omega) (by omega), p4.trans q4.tail⟩
  rw [List.getD_eq_getElem?_getD, hx]; rfl
theorem pset_ok {i : Nat} {e : PE} {k : Nat} {x : Int} (he : S.E[i]? = some e) (htk : e.tk = true) (hk : k < S.words) (hm : M.met.r + 100 < 85070591730234615865843651857942052864) :
    Ok (pool_Pool__Set [.p (some (.n pb, 0)), .i .i64 ((i : Int) + 1), .i .i64 (k : Int), .i .u64 x] σ) fun q => q.1 = .i .i64 0 ∧ ∃ M' w', PoolAt q.2 pb mb M' { S with E := S.E.set i { e with ws := e.ws.set k x } } w' X ∧ Wrt M M' S.id w' 1 1 ∧ Keep X σ q.2 := by
  have z : pwrong S e k = 0 := by simp [pwrong, htk]; omega
  have e0 : ((0 : Int) != 0) = false := rfl
  have hpos := h.p.pos he
  have hwl := h.wle
  have hw := h.p.words
  have hlen := h.p.len
  have hmd := h.p.made
  have hiE := (List.getElem?_eq_some_iff.1 he).1
  have h3 : S.room * 1 ≤ S.room * (S.words + 1) := Nat.mul_le_mul_left _ (by omega)
  have hwl1 := h.p.wl e (List.mem_of_getElem? he)
  have hlay := h.p.lay
  have hni : ∀ j ∈ S.free, j ≠ i + 1 := fun j hj e1 => by
    obtain ⟨e2, h1, h2, h3⟩ := fchain_tk h.p.ch _ hj
    rw [e1, Nat.add_sub_cancel, he] at h2
    cases h2; rw [htk] at h3; cases h3
  have hcn := cnt_set (p := fun x : PE => x.tk) (x := { e with ws := e.ws.set k x }) he
  simp only [htk] at hcn
  have hfin : w.set (i * (S.words + 1) + 1 + k) x = (S.E.set i { e with ws := e.ws.set k x }).flatMap PE.enc ++ List.replicate ((S.room - S.E.length) * (S.words + 1)) 0 := by
    have s1 := fl_put h.p.el he (j := k + 1) (by omega) (List.replicate ((S.room - S.E.length) * (S.words + 1)) 0) (x := x) (y := { e with ws := e.ws.set k x }) (by simp [PE.enc, PE.st])
    rw [← hlay] at s1
    rw [show i * (S.words + 1) + 1 + k = i * (S.words + 1) + (k + 1) by omega]; exact s1
  simp (config := { maxSteps := 2000000 }) -implicitDefEqProofs (disch := (first | omega | rfl | assumption | (simp only [rsD]; first | omega | assumption))) only [pool_Pool__Set, pool_Pool__Set_c, Nat.reduceAdd, Nat.reduceMul, Nat.reduceLT, Int.reduceToNat, Int.reduceAdd, Int.reduceSub, Int.reduceMul, rsU, rsC]
  refine Ok.step (pcheck_ok h hc (k := (k : Int)) he) fun q ⟨p1, M1, p2, p3, p4⟩ => ?_
  obtain ⟨q, σ1⟩ := q
  simp only at p1 p2 p4
  rw [z] at p1
  subst p1
  have hb1 := p2.b
  simp only [PoolS.cells] at hb1
  have pa := pat_ok p2 (i := i) (k := (k : Int)) (by omega) (by omega) ⟨by omega, by omega⟩
  have t0 : ((i * (S.words + 1) : Nat) : Int) + 1 + (k : Int) = ((i * (S.words + 1) + 1 + k : Nat) : Int) := by omega
  rw [t0] at pa
  generalize i * (S.words + 1) = P at *
  have hr1 := p3.r
  have hw1 := p3.w
  simp (config := { maxSteps := 2000000 }) -implicitDefEqProofs (disch := (first | omega | rfl | assumption | (simp only [rsD]; first | omega | assumption))) only [e0, hb1, pa, Nat.reduceAdd, Nat.reduceMul, Nat.reduceLT, Int.reduceToNat, Int.reduceAdd, Int.reduceSub, Int.reduceMul, rsU, rsC]
  refine Ok.step (writeX p2.mi ⟨by omega, by have := hc.w; omega⟩ p2.now (at_ := ((P + 1 + k : Nat) : Int)) (x := x) (by omega) (by omega)) fun q ⟨q1, M2, q2, q3, q4⟩ => ?_
  obtain ⟨q, σ2⟩ := q
  simp only at q1 q2 q4
  subst q1
  rw [Int.toNat_natCast, hfin] at q3
  simp (config := { maxSteps := 2000000 }) -implicitDefEqProofs (disch := (first | omega | rfl | assumption | (simp only [rsD]; first | omega | assumption))) only [Nat.reduceAdd, Nat.reduceMul, Nat.reduceLT, Int.reduceToNat, Int.reduceAdd, Int.reduceSub, Int.reduceMul, rsU, rsC]
  refine Ok_some.2 ⟨rfl, M2, _, ⟨q2, (q4.head.trans p2.b).trans ?_, h.nx, q3.words p2.now, ?_⟩, (p3.trans q3).as rfl (by omega) (by omega), p4.trans q4.tail⟩
  · simp [PoolS.cells]
  · exact h.p.set (free' := S.free) (taken' := S.taken) he rfl (by simp [hwl1]) (h.p.gen e (List.mem_of_getElem? he)) (fchain_set h.p.ch hni) h.p.nd (by rw [h.p.cnt]; simp [htk] at hcn ⊢; omega)
end
theorem pnew_bad {σ : AH O} {p : Option (Bid × Nat)} {n : Int} (h : p = none ∨ n < 1 ∨ n > 60) : pool_New [.p p, .i .i64 n] σ = some (.tup [.p none, .i .i64 1], σ) := by
  cases p with
  | none => simp (config := { maxSteps := 2000000 }) -implicitDefEqProofs (disch := (first | omega | rfl | assumption | (simp only [rsD]; first | omega | assumption))) only [pool_New, pool_New_c, Option.isNone_none, Nat.reduceAdd, Nat.reduceMul, Nat.reduceLT, Int.reduceToNat, Int.reduceAdd, Int.reduceSub, Int.reduceMul, rsU, rsC]
  | some q =>
    have h : n < 1 ∨ n > 60 := by simpa using h
    by_cases c : n < 1
    · simp (config := { maxSteps := 2000000 }) -implicitDefEqProofs (disch := (first | omega | rfl | assumption | (simp only [rsD]; first | omega | assumption))) only [pool_New, pool_New_c, Option.isNone_some, Nat.reduceAdd, Nat.reduceMul, Nat.reduceLT, Int.reduceToNat, Int.reduceAdd, Int.reduceSub, Int.reduceMul, rsU, rsC]
    · simp (config := { maxSteps := 2000000 }) -implicitDefEqProofs (disch := (first | omega | rfl | assumption | (simp only [rsD]; first | omega | assumption))) only [pool_New, pool_New_c, Option.isNone_some, Nat.reduceAdd, Nat.reduceMul, Nat.reduceLT, Int.reduceToNat, Int.reduceAdd, Int.reduceSub, Int.reduceMul, rsU, rsC]
theorem pnew_ok {σ : AH O} {mb : Nat} {M : MemS} {X : List Nat} {n : Nat} (h : MemIn σ mb M X) (hc : M.calm) (hcnt : M.count < 262144) (hn : 1 ≤ n ∧ n ≤ 60) :
    Ok (pool_New [.p (some (.n mb, 0)), .i .i64 (n : Int)] σ) fun r => ∃ pb, r.1 = .tup [.p (some (.n pb, 0)), .i .i64 0] ∧ PoolAt r.2 pb mb (M.opn (ff M.sp) 0) ⟨ff M.sp, n, 0, [], [], 0⟩ [] X ∧ σ.next ≤ pb ∧ Keep X σ r.2 := by
  simp (config := { maxSteps := 2000000 }) -implicitDefEqProofs (disch := (first | omega | rfl | assumption | (simp only [rsD]; first | omega | assumption))) only [pool_New, pool_New_c, Option.isNone_some, Nat.reduceAdd, Nat.reduceMul, Nat.reduceLT, Int.reduceToNat, Int.reduceAdd, Int.reduceSub, Int.reduceMul, rsU, rsC]
  refine Ok.step (openX h hc (n := 0) (by decide) (by decide) hcnt) fun r ⟨p1, p2, p3⟩ => ?_
  obtain ⟨q, σ1⟩ := r
  simp only at p1 p2 p3
  subst p1
  have e0 : ((0 : Int) != 0) = false := rfl
  simp (config := { maxSteps := 2000000 }) -implicitDefEqProofs (disch := (first | omega | rfl | assumption | (simp only [rsD]; first | omega | assumption))) only [e0, Nat.reduceAdd, Nat.reduceMul, Nat.reduceLT, Int.reduceToNat, Int.reduceAdd, Int.reduceSub, Int.reduceMul, rsU, rsC]
  refine Ok_some.2 ⟨σ1.next, rfl, ⟨p2.new (pool_box_ext _ _) (Nat.le_refl _) (by simp), s_bs, fun hm => by have := p2.lt _ hm; omega, opn_words, hn, by simp, Nat.le_refl _, .inl rfl, by simp, trivial, by simp, rfl, by simp⟩, p3.next, p3.trans (p2.keepExt (pool_box_ext _ _))⟩
end Go.Abs.Try
