/-
  Layer 9 over layer 10: entries of a pool are linked, as it is run. No conditions.
-/
import Derived.Test.YtgmffmgbaelohaaM10e
set_option linter.unusedVariables false
set_option linter.unusedSimpArgs false
set_option linter.constructorNameAsVariable false
set_option linter.unusedSimpArgs false
set_option linter.unusedVariables false
set_option linter.unusedSectionVars false
set_option maxHeartbeats 1000000
namespace Go.Abs.Try
open Go Go.Abs
variable {O : Type}

theorem boxed {σ σ1 : AH O} {el : TypeId} {cs : List AV} (h : (σ.bump 1).put σ.next (.cells true el cs) = σ1) : Ext σ σ1 ∧ σ1.blk σ.next = some (.cells true el cs) ∧ σ1.next = σ.next + 1 := by
  subst h
  exact ⟨pool_box_ext _ _, s_bs, rfl⟩
def tbl (S : PoolS) (mb nx pv : Nat) : AV := .agg [.p (some (.n mb, 0)), .i .i64 S.id, .i .i64 ((S.words : Int) + 1), .i .i64 ((nx : Int) + 1), .i .i64 ((pv : Int) + 1)]
theorem tright_ok {σ : AH O} {mb : Nat} {id W a b : Int} (hW : 2 ≤ W ∧ W ≤ 64) (ha : 0 ≤ a ∧ a < W) (hb : 0 ≤ b ∧ b < W) (hne : a ≠ b) :
    Ok (chain_Table__Right [.agg [.p (some (.n mb, 0)), .i .i64 id, .i .i64 W, .i .i64 a, .i .i64 b]] σ) fun r => r.1 = .b true ∧ Ext σ r.2 := by
  have e1 : (a != b) = true := by simp [hne]
  have e2 : (a == b) = false := by simp [hne]
  simp (config := { maxSteps := 2000000 }) -implicitDefEqProofs (disch := (first | omega | rfl | assumption | (simp only [rsD]; first | omega | assumption))) only [chain_Table__Right, chain_Table__Right_c, chain_Table__Right_1, chain_Table__Right_1_c, Option.isNone_some, e1, e2, Nat.reduceAdd, Nat.reduceMul, Nat.reduceLT, Int.reduceToNat, Int.reduceAdd, Int.reduceSub, Int.reduceMul, rsU, rsC]
  exact Ok_some.2 ⟨rfl, pool_box_ext _ _⟩
theorem PoolP.poke {S : PoolS} {w : List Int} (h : PoolP S w) {i k : Nat} {e : PE} {x : Int} (he : S.E[i]? = some e) (htk : e.tk = true) (hk : k < S.words) :
    PoolP { S with E := S.E.set i { e with ws := e.ws.set k x } } (w.set (i * (S.words + 1) + 1 + k) x) := by
  have hni : ∀ j ∈ S.free, j ≠ i + 1 := fun j hj e1 => by
    obtain ⟨e2, h1, h2, h3⟩ := fchain_tk h.ch _ hj
    rw [e1, Nat.add_sub_cancel, he] at h2
    cases h2; rw [htk] at h3; cases h3
  have hcn := cnt_set (p := fun x : PE => x.tk) (x := { e with ws := e.ws.set k x }) he
  simp only [htk] at hcn
  refine h.set (free' := S.free) (taken' := S.taken) he ?_ (by simp [h.wl e (List.mem_of_getElem? he)]) (h.gen e (List.mem_of_getElem? he)) (fchain_set h.ch hni) h.nd (by rw [h.cnt]; simp [htk] at hcn ⊢; omega)
  have s1 := fl_put h.el he (j := k + 1) (by omega) (List.replicate ((S.room - S.E.length) * (S.words + 1)) 0) (x := x) (y := { e with ws := e.ws.set k x }) (by simp [PE.enc, PE.st])
  rw [← h.lay] at s1
  rw [show i * (S.words + 1) + 1 + k = i * (S.words + 1) + (k + 1) by omega]; exact s1
section
variable {σ : AH O} {pb mb : Nat} {M : MemS} {S : PoolS} {w : List Int} {X : List Nat} (h : PoolAt σ pb mb M S w X) {nx pv : Nat} (h1 : nx < S.words) (h2 : pv < S.words) (hne : nx ≠ pv)
include h h1 h2
theorem ptable_ok : Ok (pool_Pool__Table [.p (some (.n pb, 0)), .i .i64 (nx : Int), .i .i64 (pv : Int)] σ) fun r => r.1 = tbl S mb nx pv ∧ Ext σ r.2 := by
  have hb := h.b
  simp only [PoolS.cells] at hb
  have hw := h.p.words
  have hlt := h.lt
  simp (config := { maxSteps := 2000000 }) -implicitDefEqProofs (disch := (first | omega | rfl | assumption | (simp only [rsD]; first | omega | assumption))) only [pool_Pool__Table, pool_Pool__Table_c, hb, Nat.reduceAdd, Nat.reduceMul, Nat.reduceLT, Int.reduceToNat, Int.reduceAdd, Int.reduceSub, Int.reduceMul, rsU, rsC]
  generalize hσ : (σ.bump 1).put σ.next (.cells true _ _) = σ1
  obtain ⟨E1, b1, n1⟩ := boxed hσ
  clear hσ
  have wd := pwidth_ok (h.ext E1)
  have hb1 := (h.ext E1).b
  simp only [PoolS.cells] at hb1
  simp (config := { maxSteps := 2000000 }) -implicitDefEqProofs (disch := (first | omega | rfl | assumption | (simp only [rsD]; first | omega | assumption))) only [wd, hb1, b1, Nat.reduceAdd, Nat.reduceMul, Nat.reduceLT, Int.reduceToNat, Int.reduceAdd, Int.reduceSub, Int.reduceMul, rsU, rsC]
  exact Ok_some.2 ⟨rfl, E1.put (Nat.le_refl _) _⟩
include hne
theorem tentries_ok : Ok (chain_Table__Entries [tbl S mb nx pv] σ) fun r => r.1 = .i .i64 (S.room : Int) ∧ Ext σ r.2 := by
  have hw := h.p.words
  have hlen := h.p.len
  have hwl := h.wle
  unfold tbl
  simp (config := { maxSteps := 2000000 }) -implicitDefEqProofs (disch := (first | omega | rfl | assumption | (simp only [rsD]; first | omega | assumption))) only [chain_Table__Entries, chain_Table__Entries_c, Nat.reduceAdd, Nat.reduceMul, Nat.reduceLT, Int.reduceToNat, Int.reduceAdd, Int.reduceSub, Int.reduceMul, rsU, rsC]
  generalize hσ : (σ.bump 1).put σ.next (.cells true _ _) = σ1
  obtain ⟨E1, b1, n1⟩ := boxed hσ
  clear hσ
  refine Ok.step (tright_ok (by omega) (by omega) (by omega) (by omega)) fun r ⟨g1, g2⟩ => ?_
  obtain ⟨q, σ2⟩ := r
  simp only at g1 g2
  subst g1
  have b2 : σ2.blk σ.next = _ := (g2.blk _ (by omega)).trans b1
  have E2 := E1.trans g2
  have sz := sizeX (h.ext E2).mi (h.ext E2).now
  have ez : ((S.words : Int) + 1 == 0) = false := beq_eq_false_iff_ne.2 (by omega)
  have ed : Int.tdiv (w.length : Int) ((S.words : Int) + 1) = S.room := by
    rw [hlen, show ((S.room * (S.words + 1) : Nat) : Int) = (S.room : Int) * ((S.words : Int) + 1) by simp]
    exact Int.mul_tdiv_cancel _ (by omega)
  have h3 : S.room * 1 ≤ S.room * (S.words + 1) := Nat.mul_le_mul_left _ (by omega)
  simp (config := { maxSteps := 2000000 }) -implicitDefEqProofs (disch := (first | omega | rfl | assumption | (simp only [rsD]; first | omega | assumption))) only [b2, sz, ez, ed, Nat.reduceAdd, Nat.reduceMul, Nat.reduceLT, Int.reduceToNat, Int.reduceAdd, Int.reduceSub, Int.reduceMul, rsU, rsC]
  exact Ok_some.2 ⟨rfl, E2⟩
theorem tcheck_ok {i : Nat} (hi : i < S.room) : Ok (chain_Table__check [tbl S mb nx pv, .i .i64 ((i : Int) + 1)] σ) fun r => r.1 = .i .i64 0 ∧ Ext σ r.2 := by
  have hw := h.p.words
  unfold tbl
  simp (config := { maxSteps := 2000000 }) -implicitDefEqProofs (disch := (first | omega | rfl | assumption | (simp only [rsD]; first | omega | assumption))) only [chain_Table__check, chain_Table__check_c, Nat.reduceAdd, Nat.reduceMul, Nat.reduceLT, Int.reduceToNat, Int.reduceAdd, Int.reduceSub, Int.reduceMul, rsU, rsC]
  generalize hσ : (σ.bump 1).put σ.next (.cells true _ _) = σ1
  obtain ⟨E1, b1, n1⟩ := boxed hσ
  clear hσ
  refine Ok.step (tright_ok (by omega) (by omega) (by omega) (by omega)) fun r ⟨g1, g2⟩ => ?_
  obtain ⟨q, σ2⟩ := r
  simp only at g1 g2
  subst g1
  have b2 : σ2.blk σ.next = _ := (g2.blk _ (by omega)).trans b1
  have E2 := E1.trans g2
  simp (config := { maxSteps := 2000000 }) -implicitDefEqProofs (disch := (first | omega | rfl | assumption | (simp only [rsD]; first | omega | assumption))) only [b2, Nat.reduceAdd, Nat.reduceMul, Nat.reduceLT, Int.reduceToNat, Int.reduceAdd, Int.reduceSub, Int.reduceMul, rsU, rsC]
  have te := tentries_ok (h.ext E2) h1 h2 hne
  unfold tbl at te
  refine Ok.step te fun r ⟨g3, g4⟩ => ?_
  obtain ⟨q, σ3⟩ := r
  simp only at g3 g4
  subst g3
  simp (config := { maxSteps := 2000000 }) -implicitDefEqProofs (disch := (first | omega | rfl | assumption | (simp only [rsD]; first | omega | assumption))) only [Nat.reduceAdd, Nat.reduceMul, Nat.reduceLT, Int.reduceToNat, Int.reduceAdd, Int.reduceSub, Int.reduceMul, rsU, rsC]
  exact Ok_some.2 ⟨rfl, E2.trans g4⟩
end
theorem tat_ok {σ : AH O} {S : PoolS} {mb nx pv i k : Nat} (hw : S.words ≤ 60) (hi : i * (S.words + 1) ≤ 4194304) (hi2 : i ≤ 4194304) (hk : k ≤ 100) : Ok (chain_Table__at [tbl S mb nx pv, .i .i64 ((i : Int) + 1), .i .i64 ((k : Int) + 1)] σ) fun r => r.1 = .i .i64 ((i * (S.words + 1) + 1 + k : Nat) : Int) ∧ Ext σ r.2 := by
  have e1 : (i : Int) + 1 - 1 = i := by omega
  have e2 : (i : Int) * ((S.words : Int) + 1) = ((i * (S.words + 1) : Nat) : Int) := by simp
  have e3 : ((i * (S.words + 1) : Nat) : Int) + ((k : Int) + 1) = ((i * (S.words + 1) + 1 + k : Nat) : Int) := by omega
  unfold tbl
  generalize i * (S.words + 1) = P at *
  simp (config := { maxSteps := 2000000 }) -implicitDefEqProofs (disch := (first | omega | rfl | assumption | (simp only [rsD]; first | omega | assumption))) only [chain_Table__at, chain_Table__at_c, e1, e2, e3, Nat.reduceAdd, Nat.reduceMul, Nat.reduceLT, Int.reduceToNat, Int.reduceAdd, Int.reduceSub, Int.reduceMul, rsU, rsC]
  exact Ok_some.2 ⟨rfl, pool_box_ext _ _⟩
section
variable {σ : AH O} {pb mb : Nat} {M : MemS} {S : PoolS} {w : List Int} {X : List Nat} (h : PoolAt σ pb mb M S w X) (hc : M.calm) {nx pv : Nat}
include h hc
theorem tset_ok {i k x : Nat} {e : PE} (he : S.E[i]? = some e) (htk : e.tk = true) (hk : k < S.words) (hx : x ≤ 4611686018427387904) :
    Ok (chain_Table__set [tbl S mb nx pv, .i .i64 ((i : Int) + 1), .i .i64 ((k : Int) + 1), .i .i64 (x : Int)] σ) fun r => r.1 = .tup [] ∧ ∃ M' w', PoolAt r.2 pb mb M' { S with E := S.E.set i { e with ws := e.ws.set k (x : Int) } } w' X ∧ Wrt M M' S.id w' 0 1 ∧ Keep X σ r.2 := by
  have hw := h.p.words
  have hpos := h.p.pos he
  have hwl := h.wle
  have hiE := (List.getElem?_eq_some_iff.1 he).1
  have hmd := h.p.made
  have hlen := h.p.len
  have h3 : S.room * 1 ≤ S.room * (S.words + 1) := Nat.mul_le_mul_left _ (by omega)
  have hpk := h.p.poke (x := (x : Int)) he htk hk
  simp (config := { maxSteps := 2000000 }) -implicitDefEqProofs (disch := (first | omega | rfl | assumption | (simp only [rsD]; first | omega | assumption))) only [chain_Table__set, chain_Table__set_c, tbl, Nat.reduceAdd, Nat.reduceMul, Nat.reduceLT, Int.reduceToNat, Int.reduceAdd, Int.reduceSub, Int.reduceMul, rsU, rsC]
  generalize hσ : (σ.bump 1).put σ.next (.cells true _ _) = σ1
  obtain ⟨E1, b1, n1⟩ := boxed hσ
  clear hσ
  have ta := tat_ok (σ := σ1) (S := S) (mb := mb) (nx := nx) (pv := pv) (i := i) (k := k) hw.2 (by omega) (by omega) (by omega)
  unfold tbl at ta
  refine Ok.step ta fun r ⟨g1, g2⟩ => ?_
  obtain ⟨q, σ2⟩ := r
  simp only at g1 g2
  subst g1
  have b2 : σ2.blk σ.next = _ := (g2.blk _ (by omega)).trans b1
  have h2 := h.ext (E1.trans g2)
  generalize i * (S.words + 1) = P at *
  simp (config := { maxSteps := 2000000 }) -implicitDefEqProofs (disch := (first | omega | rfl | assumption | (simp only [rsD]; first | omega | assumption))) only [b2, Nat.reduceAdd, Nat.reduceMul, Nat.reduceLT, Int.reduceToNat, Int.reduceAdd, Int.reduceSub, Int.reduceMul, rsU, rsC]
  refine Ok.step (writeX h2.mi hc h2.now (at_ := ((P + 1 + k : Nat) : Int)) (x := (x : Int)) (by omega) (by omega)) fun q ⟨q1, M2, q2, q3, q4⟩ => ?_
  obtain ⟨q, σ3⟩ := q
  simp only at q1 q2 q4
  subst q1
  rw [Int.toNat_natCast] at q3
  simp (config := { maxSteps := 2000000 }) -implicitDefEqProofs (disch := (first | omega | rfl | assumption | (simp only [rsD]; first | omega | assumption))) only [Nat.reduceAdd, Nat.reduceMul, Nat.reduceLT, Int.reduceToNat, Int.reduceAdd, Int.reduceSub, Int.reduceMul, rsU, rsC]
  refine Ok_some.2 ⟨rfl, M2, _, ⟨q2, (q4.head.trans h2.b).trans ?_, h.nx, q3.words h2.now, hpk⟩, q3, (h.mi.tail.keepExt (E1.trans g2)).trans q4.tail⟩
  simp [PoolS.cells]
theorem tget_ok {i k x : Nat} {e : PE} (he : S.E[i]? = some e) (hk : k < S.words) (hv : e.ws[k]? = some (x : Int)) (hx : x ≤ 4611686018427387904) :
    Ok (chain_Table__get [tbl S mb nx pv, .i .i64 ((i : Int) + 1), .i .i64 ((k : Int) + 1)] σ) fun r => r.1 = .i .i64 (x : Int) ∧ ∃ M', PoolAt r.2 pb mb M' S w X ∧ Wrt M M' S.id w 1 0 ∧ Keep X σ r.2 := by
  have hw := h.p.words
  have hpos := h.p.pos he
  have hwl := h.wle
  have hiE := (List.getElem?_eq_some_iff.1 he).1
  have hmd := h.p.made
  have hlen := h.p.len
  have h3 : S.room * 1 ≤ S.room * (S.words + 1) := Nat.mul_le_mul_left _ (by omega)
  have hl := h.p.at he hk
  rw [hv] at hl
  simp (config := { maxSteps := 2000000 }) -implicitDefEqProofs (disch := (first | omega | rfl | assumption | (simp only [rsD]; first | omega | assumption))) only [chain_Table__get, chain_Table__get_c, tbl, Nat.reduceAdd, Nat.reduceMul, Nat.reduceLT, Int.reduceToNat, Int.reduceAdd, Int.reduceSub, Int.reduceMul, rsU, rsC]
  generalize hσ : (σ.bump 1).put σ.next (.cells true _ _) = σ1
  obtain ⟨E1, b1, n1⟩ := boxed hσ
  clear hσ
  have ta := tat_ok (σ := σ1) (S := S) (mb := mb) (nx := nx) (pv := pv) (i := i) (k := k) hw.2 (by omega) (by omega) (by omega)
  unfold tbl at ta
  refine Ok.step ta fun r ⟨g1, g2⟩ => ?_
  obtain ⟨q, σ2⟩ := r
  simp only at g1 g2
  subst g1
  have b2 : σ2.blk σ.next = _ := (g2.blk _ (by omega)).trans b1
  have h2 := h.ext (E1.trans g2)
  generalize i * (S.words + 1) = P at *
  simp (config := { maxSteps := 2000000 }) -implicitDefEqProofs (disch := (first | omega | rfl | assumption | (simp only [rsD]; first | omega | assumption))) only [b2, Nat.reduceAdd, Nat.reduceMul, Nat.reduceLT, Int.reduceToNat, Int.reduceAdd, Int.reduceSub, Int.reduceMul, rsU, rsC]
  refine Ok.step (readX h2.mi hc h2.now (at_ := ((P + 1 + k : Nat) : Int)) (by omega) (by omega)) fun q ⟨q1, M2, q2, q3, q4⟩ => ?_
  obtain ⟨q, σ3⟩ := q
  simp only at q1 q2 q4
  rw [Int.toNat_natCast, List.getD_eq_getElem?_getD, hl] at q1
  simp only [Option.getD_some] at q1
  subst q1
  simp (config := { maxSteps := 2000000 }) -implicitDefEqProofs (disch := (first | omega | rfl | assumption | (simp only [rsD]; first | omega | assumption))) only [Nat.reduceAdd, Nat.reduceMul, Nat.reduceLT, Int.reduceToNat, Int.reduceAdd, Int.reduceSub, Int.reduceMul, rsU, rsC]
  exact Ok_some.2 ⟨rfl, M2, { h2 with mi := q2, b := q4.head.trans h2.b, now := q3.words h2.now }, q3, (h.mi.tail.keepExt (E1.trans g2)).trans q4.tail⟩
end
end Go.Abs.Try
