/-
  Layer 18: handles. No conditions.
-/
import Derived.Test.YtgmffmgbaelohaaM10
import Derived.Test.YtgmffmgbaelohaaR10
set_option linter.unusedVariables false
set_option linter.unusedSimpArgs false
set_option linter.constructorNameAsVariable false
set_option linter.unusedSimpArgs false
set_option linter.unusedVariables false
set_option linter.unusedSectionVars false
set_option maxHeartbeats 1000000
namespace Go.Abs.Try
open Go Go.Abs
variable {O : Type}

/-! ### Tokens -/
theorem and20 {t : Int} (h : -9223372036854775808 ≤ t ∧ t ≤ 9223372036854775807) : ibits .and .i64 t 1048575 = t % 1048576 := by
  show IntKind.i64.wrap (((BitVec.ofInt 64 t &&& BitVec.ofInt 64 1048575).toNat : Nat) : Int) = _
  rw [BitVec.toNat_and, bv_nat (x := 1048575) (by decide) (by decide), BitVec.toNat_ofInt, show (1048575 : Int).toNat = 2 ^ 20 - 1 from rfl, Nat.and_two_pow_sub_one_eq_mod]
  have h1 : 0 ≤ t % ((2 ^ 64 : Nat) : Int) := Int.emod_nonneg _ (by decide)
  have h2 : (((t % ((2 ^ 64 : Nat) : Int)).toNat % 2 ^ 20 : Nat) : Int) = t % 1048576 := by
    rw [Int.natCast_emod, Int.toNat_of_nonneg h1]
    have : ((2 ^ 64 : Nat) : Int) = 18446744073709551616 := by decide
    have : ((2 ^ 20 : Nat) : Int) = 1048576 := by decide
    omega
  rw [h2]
  exact s_i64 (by omega)
theorem or20 {g i : Nat} (hg : g < 4398046511104) (hi : i < 1048576) : ibits .or .i64 ((g : Int) * 1048576) (i : Int) = ((g * 1048576 + i : Nat) : Int) := by
  show IntKind.i64.wrap (((BitVec.ofInt 64 ((g : Int) * 1048576) ||| BitVec.ofInt 64 (i : Int)).toNat : Nat) : Int) = _
  rw [BitVec.toNat_or, bv_nat (by omega) (by simp; omega), bv_nat (by omega) (by simp; omega)]
  have := Nat.two_pow_add_eq_or_of_lt (i := 20) (b := i) (by simpa using hi) g
  have e : ((g : Int) * 1048576).toNat = 2 ^ 20 * g := by omega
  rw [e, Int.toNat_natCast, ← this]
  rw [s_i64 (by omega)]
  omega
def tok (i g : Nat) : Int := ((g * 1048576 + i : Nat) : Int)
theorem tok_mod {i g : Nat} (hi : i < 1048576) : tok i g % 1048576 = i := by unfold tok; omega
theorem tok_div {i g : Nat} (hi : i < 1048576) : tok i g / 1048576 = g := by unfold tok; omega
theorem tok_inj {i g i' g' : Nat} (hi : i < 1048576) (hi' : i' < 1048576) (h : tok i g = tok i' g') : i = i' ∧ g = g' := by unfold tok at h; omega
/-- what is told of an entry: is it taken, its generation, its first word -/
def vw (E : List PE) (j : Nat) : Option (Bool × Nat × Option Int) := (E[j]?).map fun e => (e.tk, e.gen, e.ws[0]?)
theorem vw_some {E : List PE} {j : Nat} {t : Bool} {g : Nat} {x : Option Int} (h : vw E j = some (t, g, x)) : ∃ e, E[j]? = some e ∧ e.tk = t ∧ e.gen = g ∧ e.ws[0]? = x := by
  unfold vw at h
  obtain ⟨e, h1, h2⟩ := Option.map_eq_some_iff.1 h
  simp only [Prod.mk.injEq] at h2
  exact ⟨e, h1, h2.1, h2.2.1, h2.2.2⟩
theorem vw_mk {E : List PE} {j : Nat} {e : PE} (h : E[j]? = some e) : vw E j = some (e.tk, e.gen, e.ws[0]?) := by simp [vw, h]
theorem vw_none {E : List PE} {j : Nat} : vw E j = none ↔ E[j]? = none := by simp [vw]
theorem SameBut.vw {E E' : List PE} {nx pv : Nat} (h : SameBut nx pv E E') (h1 : 0 ≠ nx) (h2 : 0 ≠ pv) (j : Nat) : vw E' j = vw E j := by
  cases hj : E[j]? with
  | none => rw [vw_none.2 hj, vw_none.2 (List.getElem?_eq_none (by rw [h.len]; exact List.getElem?_eq_none_iff.1 hj))]
  | some x =>
    obtain ⟨y, g1, g2, g3, g4⟩ := h.at_ j x hj
    rw [vw_mk g1, vw_mk hj, g2, g3, g4 0 h1 h2]
/-- handles: a pool of three words each, the taken entries in a chain -/
structure HanAt (σ : AH O) (hb pb mb : Nat) (M : MemS) (P : PoolS) (C : List Nat) (w : List Int) (X : List Nat) : Prop where
  p : PoolAt σ pb mb M P w (hb :: X)
  words : P.words = 3
  b : ∃ el, σ.blk hb = some (.cells true el [.p (some (.n pb, 0)), .i .i64 (hdI C : Int), .i .i64 (tlI C : Int), .i .i64 (C.length : Int)])
  nx : hb ∉ X
  l : Linked P.E 1 2 C
  all : ∀ i e, P.E[i]? = some e → e.tk = true → i ∈ C
  few : P.E.length ≤ 1048576
  gen : ∀ e ∈ P.E, e.gen < 4398046511104
theorem HanAt.ce {σ : AH O} {hb pb mb : Nat} {M : MemS} {P : PoolS} {C : List Nat} {w : List Int} {X : List Nat} (h : HanAt σ hb pb mb M P C w X) : C.length ≤ P.E.length := by
  have key : ∀ (n : Nat) (l : List Nat), l.Nodup → (∀ x ∈ l, x < n) → l.length ≤ n := by
    intro n
    induction n with
    | zero => intro l _ hx; cases l with | nil => simp | cons a l => exact absurd (hx a List.mem_cons_self) (by omega)
    | succ n ih =>
      intro l hn hx
      by_cases hm : n ∈ l
      · have h1 := ih (l.erase n) (hn.erase n) fun x hx' => by
          have := hx x (List.mem_of_mem_erase hx')
          have hne : x ≠ n := fun e => by subst e; exact (List.Nodup.not_mem_erase hn) hx'
          omega
        rw [List.length_erase_of_mem hm] at h1; omega
      · have := ih l hn fun x hx' => by
          have := hx x hx'
          have hne : x ≠ n := fun e => hm (e ▸ hx')
          omega
        omega
  have := key P.E.length C h.l.nd fun x hx => by
    obtain ⟨j, hj⟩ := List.getElem?_of_mem hx
    obtain ⟨e, he, _⟩ := h.l.at_ j x hj
    exact (List.getElem?_eq_some_iff.1 he).1
  exact this
theorem HanAt.cl {σ : AH O} {hb pb mb : Nat} {M : MemS} {P : PoolS} {C : List Nat} {w : List Int} {X : List Nat} (h : HanAt σ hb pb mb M P C w X) : C.length ≤ 1048576 := Nat.le_trans h.ce h.few
section
variable {σ : AH O} {hb pb mb : Nat} {M : MemS} {P : PoolS} {C : List Nat} {w : List Int} {X : List Nat} (h : HanAt σ hb pb mb M P C w X)
include h
theorem HanAt.lt : hb < σ.next := h.p.mi.lt _ (by simp)
theorem HanAt.kp {σ' : AH O} {M' : MemS} (hp : PoolAt σ' pb mb M' P w (hb :: X)) (hk : Keep (hb :: X) σ σ') : HanAt σ' hb pb mb M' P C w X := { h with p := hp, b := by obtain ⟨el, hb⟩ := h.b; exact ⟨el, hk.head.trans hb⟩ }
theorem htable_ok : Ok (handles_Handles__table [.p (some (.n hb, 0))] σ) fun r => r.1 = tbl P mb 1 2 ∧ Ext σ r.2 := by
  obtain ⟨el, hbb⟩ := h.b
  have hw := h.words
  have hlt := h.lt
  simp (config := { maxSteps := 2000000 }) -implicitDefEqProofs (disch := (first | omega | rfl | assumption | (simp only [rsD]; first | omega | assumption))) only [handles_Handles__table, handles_Handles__table_c, hbb, Nat.reduceAdd, Nat.reduceMul, Nat.reduceLT, Int.reduceToNat, Int.reduceAdd, Int.reduceSub, Int.reduceMul, rsU, rsC]
  generalize hσ : (σ.bump 1).put σ.next (.cells true _ _) = σ1
  obtain ⟨E1, b1, n1⟩ := boxed hσ
  clear hσ
  have pt := ptable_ok (h.p.ext E1) (nx := 1) (pv := 2) (by omega) (by omega)
  rw [show ((1 : Nat) : Int) = 1 from rfl, show ((2 : Nat) : Int) = 2 from rfl] at pt
  refine Ok.step pt fun r ⟨g1, g2⟩ => ?_
  obtain ⟨q, σ2⟩ := r
  simp only [tbl] at g1 g2
  subst g1
  have b2 : σ2.blk σ.next = _ := (g2.blk _ (by omega)).trans b1
  have n2 := g2.next
  simp (config := { maxSteps := 2000000 }) -implicitDefEqProofs (disch := (first | omega | rfl | assumption | (simp only [rsD]; first | omega | assumption))) only [b2, Nat.reduceAdd, Nat.reduceMul, Nat.reduceLT, Int.reduceToNat, Int.reduceAdd, Int.reduceSub, Int.reduceMul, rsU, rsC]
  exact Ok_some.2 ⟨rfl, (E1.trans g2).put (Nat.le_refl _) _⟩
theorem hcount_ok : handles_Handles__Count [.p (some (.n hb, 0))] σ = some (.i .i64 (C.length : Int), σ) := by
  obtain ⟨el, hbb⟩ := h.b
  simp (config := { maxSteps := 2000000 }) -implicitDefEqProofs (disch := (first | omega | rfl | assumption | (simp only [rsD]; first | omega | assumption))) only [handles_Handles__Count, handles_Handles__Count_c, hbb, Nat.reduceAdd, Nat.reduceMul, Nat.reduceLT, Int.reduceToNat, Int.reduceAdd, Int.reduceSub, Int.reduceMul, rsU, rsC]
end
section
variable {σ : AH O} {hb pb mb : Nat} {M : MemS} {P : PoolS} {C : List Nat} {w : List Int} {X : List Nat} (h : HanAt σ hb pb mb M P C w X) (hm : M.met.r + 1000 < 85070591730234615865843651857942052864 ∧ M.met.w + 1000 < 85070591730234615865843651857942052864)
include h hm
theorem hid_yes {i g : Nat} {x : Option Int} (hv : vw P.E i = some (true, g, x)) : Ok (handles_Handles__id [.p (some (.n hb, 0)), .i .i64 (tok i g)] σ) fun r => r.1 = .tup [.i .i64 ((i : Int) + 1), .i .i64 0] ∧ ∃ M', HanAt r.2 hb pb mb M' P C w X ∧ Wrt M M' P.id w 2 0 ∧ Keep X σ r.2 := by
  obtain ⟨e, he, htk, hg, _⟩ := vw_some hv
  obtain ⟨el, hbb⟩ := h.b
  have hiE := (List.getElem?_eq_some_iff.1 he).1
  have hfew := h.few
  have hgen := h.gen e (List.mem_of_getElem? he)
  rw [hg] at hgen
  have ht : 0 ≤ tok i g ∧ tok i g ≤ 9223372036854775807 := by unfold tok; omega
  have a1 : ibits .and .i64 (tok i g) 1048575 = i := by rw [and20 (by omega), tok_mod (by omega)]
  have a2 : Int.fdiv (tok i g) (2 ^ 20) = g := by
    rw [Int.fdiv_eq_ediv_of_nonneg _ (by decide), show (2 : Int) ^ 20 = 1048576 from rfl, tok_div (by omega)]
  simp (config := { maxSteps := 2000000 }) -implicitDefEqProofs (disch := (first | omega | rfl | assumption | (simp only [rsD]; first | omega | assumption))) only [handles_Handles__id, handles_Handles__id_c, a1, a2, hbb, Nat.reduceAdd, Nat.reduceMul, Nat.reduceLT, Int.reduceToNat, Int.reduceAdd, Int.reduceSub, Int.reduceMul, rsU, rsC]
  refine Ok.step (ptaken_ok h.p ⟨by omega, by omega⟩ he) fun r ⟨k1, M1, k2, k3, k4⟩ => ?_
  obtain ⟨q, σ1⟩ := r
  simp only at k1 k2 k4
  rw [htk] at k1
  subst k1
  have hb1 : σ1.blk hb = _ := k4.head.trans hbb
  have r1 := k3.r
  have w1 := k3.w
  simp (config := { maxSteps := 2000000 }) -implicitDefEqProofs (disch := (first | omega | rfl | assumption | (simp only [rsD]; first | omega | assumption))) only [hb1, Nat.reduceAdd, Nat.reduceMul, Nat.reduceLT, Int.reduceToNat, Int.reduceAdd, Int.reduceSub, Int.reduceMul, rsU, rsC]
  refine Ok.step (pgen_ok k2 ⟨by omega, by omega⟩ he) fun r ⟨q1, M2, q2, q3, q4⟩ => ?_
  obtain ⟨q, σ2⟩ := r
  simp only at q1 q2 q4
  rw [hg] at q1
  subst q1
  have e1 : ((g : Int) != (g : Int)) = false := by simp
  have e2 : ((g : Int) == (g : Int)) = true := by simp
  simp (config := { maxSteps := 2000000 }) -implicitDefEqProofs (disch := (first | omega | rfl | assumption | (simp only [rsD]; first | omega | assumption))) only [e1, e2, Nat.reduceAdd, Nat.reduceMul, Nat.reduceLT, Int.reduceToNat, Int.reduceAdd, Int.reduceSub, Int.reduceMul, rsU, rsC]
  exact Ok_some.2 ⟨rfl, M2, h.kp q2 (k4.trans q4), (k3.trans q3).as rfl (by omega) (by omega), (k4.trans q4).tail⟩
theorem hid_no {t : Int} (ht : -9223372036854775808 ≤ t ∧ t ≤ 9223372036854775807) (hv : ∀ i g x, vw P.E i = some (true, g, x) → t ≠ tok i g) : Ok (handles_Handles__id [.p (some (.n hb, 0)), .i .i64 t] σ) fun r => r.1 = .tup [.i .i64 0, .i .i64 30] ∧ ∃ M' dr, HanAt r.2 hb pb mb M' P C w X ∧ Wrt M M' P.id w dr 0 ∧ 0 ≤ dr ∧ dr ≤ 2 ∧ Keep X σ r.2 := by
  obtain ⟨el, hbb⟩ := h.b
  by_cases c0 : t < 0
  · have a1 := and20 ht
    simp (config := { maxSteps := 2000000 }) -implicitDefEqProofs (disch := (first | omega | rfl | assumption | (simp only [rsD]; first | omega | assumption))) only [handles_Handles__id, handles_Handles__id_c, a1, Nat.reduceAdd, Nat.reduceMul, Nat.reduceLT, Int.reduceToNat, Int.reduceAdd, Int.reduceSub, Int.reduceMul, rsU, rsC]
    exact Ok_some.2 ⟨rfl, M, 0, h, Wrt.refl h.p.now, by omega, by omega, Keep.refl _ _⟩
  obtain ⟨i, hi⟩ : ∃ i : Nat, t % 1048576 = i := ⟨(t % 1048576).toNat, by omega⟩
  obtain ⟨g, hg⟩ : ∃ g : Nat, t / 1048576 = g := ⟨(t / 1048576).toNat, by omega⟩
  have htk : t = tok i g := by unfold tok; omega
  have a1 : ibits .and .i64 t 1048575 = i := by rw [and20 ht, hi]
  have a2 : Int.fdiv t (2 ^ 20) = g := by
    rw [Int.fdiv_eq_ediv_of_nonneg _ (by decide), show (2 : Int) ^ 20 = 1048576 from rfl, hg]
  have hfew := h.few
  cases he : P.E[i]? with
  | none =>
    have hl := List.getElem?_eq_none_iff.1 he
    have tn := ptaken_no h.p ⟨by omega, by omega⟩ (id := (i : Int) + 1) (.inr (by omega))
    simp (config := { maxSteps := 2000000 }) -implicitDefEqProofs (disch := (first | omega | rfl | assumption | (simp only [rsD]; first | omega | assumption))) only [handles_Handles__id, handles_Handles__id_c, a1, a2, hbb, tn, Nat.reduceAdd, Nat.reduceMul, Nat.reduceLT, Int.reduceToNat, Int.reduceAdd, Int.reduceSub, Int.reduceMul, rsU, rsC]
    exact Ok_some.2 ⟨rfl, M, 0, h, Wrt.refl h.p.now, by omega, by omega, Keep.refl _ _⟩
  | some e =>
    simp (config := { maxSteps := 2000000 }) -implicitDefEqProofs (disch := (first | omega | rfl | assumption | (simp only [rsD]; first | omega | assumption))) only [handles_Handles__id, handles_Handles__id_c, a1, a2, hbb, Nat.reduceAdd, Nat.reduceMul, Nat.reduceLT, Int.reduceToNat, Int.reduceAdd, Int.reduceSub, Int.reduceMul, rsU, rsC]
    refine Ok.step (ptaken_ok h.p ⟨by omega, by omega⟩ he) fun r ⟨k1, M1, k2, k3, k4⟩ => ?_
    obtain ⟨q, σ1⟩ := r
    simp only at k1 k2 k4
    subst k1
    have hb1 : σ1.blk hb = _ := k4.head.trans hbb
    have r1 := k3.r
    have w1 := k3.w
    cases hk : e.tk with
    | false =>
      simp (config := { maxSteps := 2000000 }) -implicitDefEqProofs (disch := (first | omega | rfl | assumption | (simp only [rsD]; first | omega | assumption))) only [Nat.reduceAdd, Nat.reduceMul, Nat.reduceLT, Int.reduceToNat, Int.reduceAdd, Int.reduceSub, Int.reduceMul, rsU, rsC]
      exact Ok_some.2 ⟨rfl, M1, 1, h.kp k2 k4, k3, by omega, by omega, k4.tail⟩
    | true =>
      have hne : e.gen ≠ g := fun eg => hv i g (e.ws[0]?) (by rw [vw_mk he, hk, eg]) htk
      simp (config := { maxSteps := 2000000 }) -implicitDefEqProofs (disch := (first | omega | rfl | assumption | (simp only [rsD]; first | omega | assumption))) only [hb1, Nat.reduceAdd, Nat.reduceMul, Nat.reduceLT, Int.reduceToNat, Int.reduceAdd, Int.reduceSub, Int.reduceMul, rsU, rsC]
      refine Ok.step (pgen_ok k2 ⟨by omega, by omega⟩ he) fun r ⟨q1, M2, q2, q3, q4⟩ => ?_
      obtain ⟨q, σ2⟩ := r
      simp only at q1 q2 q4
      subst q1
      have e1 : ((e.gen : Int) != (g : Int)) = true := by simp; omega
      have e2 : ((e.gen : Int) == (g : Int)) = false := by simp; omega
      simp (config := { maxSteps := 2000000 }) -implicitDefEqProofs (disch := (first | omega | rfl | assumption | (simp only [rsD]; first | omega | assumption))) only [e1, e2, Nat.reduceAdd, Nat.reduceMul, Nat.reduceLT, Int.reduceToNat, Int.reduceAdd, Int.reduceSub, Int.reduceMul, rsU, rsC]
      exact Ok_some.2 ⟨rfl, M2, 2, h.kp q2 (k4.trans q4), (k3.trans q3).as rfl (by omega) (by omega), by omega, by omega, (k4.trans q4).tail⟩
theorem hget_no {t : Int} (ht : -9223372036854775808 ≤ t ∧ t ≤ 9223372036854775807) (hv : ∀ i g x, vw P.E i = some (true, g, x) → t ≠ tok i g) : Ok (handles_Handles__Get [.p (some (.n hb, 0)), .i .i64 t] σ) fun r => r.1 = .tup [.i .u64 0, .i .i64 30] ∧ ∃ M' dr, HanAt r.2 hb pb mb M' P C w X ∧ Wrt M M' P.id w dr 0 ∧ 0 ≤ dr ∧ dr ≤ 2 ∧ Keep X σ r.2 := by
  simp (config := { maxSteps := 2000000 }) -implicitDefEqProofs (disch := (first | omega | rfl | assumption | (simp only [rsD]; first | omega | assumption))) only [handles_Handles__Get, handles_Handles__Get_c, Nat.reduceAdd, Nat.reduceMul, Nat.reduceLT, Int.reduceToNat, Int.reduceAdd, Int.reduceSub, Int.reduceMul, rsU, rsC]
  refine Ok.step (hid_no h hm ht hv) fun r ⟨k1, k2⟩ => ?_
  obtain ⟨q, σ1⟩ := r
  simp only at k1 k2
  subst k1
  have e1 : ((30 : Int) != 0) = true := rfl
  simp (config := { maxSteps := 2000000 }) -implicitDefEqProofs (disch := (first | omega | rfl | assumption | (simp only [rsD]; first | omega | assumption))) only [e1, Nat.reduceAdd, Nat.reduceMul, Nat.reduceLT, Int.reduceToNat, Int.reduceAdd, Int.reduceSub, Int.reduceMul, rsU, rsC]
  exact Ok_some.2 ⟨rfl, k2⟩
theorem hset_no {t x : Int} (ht : -9223372036854775808 ≤ t ∧ t ≤ 9223372036854775807) (hv : ∀ i g x, vw P.E i = some (true, g, x) → t ≠ tok i g) : Ok (handles_Handles__Set [.p (some (.n hb, 0)), .i .i64 t, .i .u64 x] σ) fun r => r.1 = .i .i64 30 ∧ ∃ M' dr, HanAt r.2 hb pb mb M' P C w X ∧ Wrt M M' P.id w dr 0 ∧ 0 ≤ dr ∧ dr ≤ 2 ∧ Keep X σ r.2 := by
  simp (config := { maxSteps := 2000000 }) -implicitDefEqProofs (disch := (first | omega | rfl | assumption | (simp only [rsD]; first | omega | assumption))) only [handles_Handles__Set, handles_Handles__Set_c, Nat.reduceAdd, Nat.reduceMul, Nat.reduceLT, Int.reduceToNat, Int.reduceAdd, Int.reduceSub, Int.reduceMul, rsU, rsC]
  refine Ok.step (hid_no h hm ht hv) fun r ⟨k1, k2⟩ => ?_
  obtain ⟨q, σ1⟩ := r
  simp only at k1 k2
  subst k1
  have e1 : ((30 : Int) != 0) = true := rfl
  simp (config := { maxSteps := 2000000 }) -implicitDefEqProofs (disch := (first | omega | rfl | assumption | (simp only [rsD]; first | omega | assumption))) only [e1, Nat.reduceAdd, Nat.reduceMul, Nat.reduceLT, Int.reduceToNat, Int.reduceAdd, Int.reduceSub, Int.reduceMul, rsU, rsC]
  exact Ok_some.2 ⟨rfl, k2⟩
theorem hdrop_no {t : Int} (ht : -9223372036854775808 ≤ t ∧ t ≤ 9223372036854775807) (hv : ∀ i g x, vw P.E i = some (true, g, x) → t ≠ tok i g) : Ok (handles_Handles__Drop [.p (some (.n hb, 0)), .i .i64 t] σ) fun r => r.1 = .i .i64 30 ∧ ∃ M' dr, HanAt r.2 hb pb mb M' P C w X ∧ Wrt M M' P.id w dr 0 ∧ 0 ≤ dr ∧ dr ≤ 2 ∧ Keep X σ r.2 := by
  simp (config := { maxSteps := 2000000 }) -implicitDefEqProofs (disch := (first | omega | rfl | assumption | (simp only [rsD]; first | omega | assumption))) only [handles_Handles__Drop, handles_Handles__Drop_c, Nat.reduceAdd, Nat.reduceMul, Nat.reduceLT, Int.reduceToNat, Int.reduceAdd, Int.reduceSub, Int.reduceMul, rsU, rsC]
  refine Ok.step (hid_no h hm ht hv) fun r ⟨k1, k2⟩ => ?_
  obtain ⟨q, σ1⟩ := r
  simp only at k1 k2
  subst k1
  have e1 : ((30 : Int) != 0) = true := rfl
  simp (config := { maxSteps := 2000000 }) -implicitDefEqProofs (disch := (first | omega | rfl | assumption | (simp only [rsD]; first | omega | assumption))) only [e1, Nat.reduceAdd, Nat.reduceMul, Nat.reduceLT, Int.reduceToNat, Int.reduceAdd, Int.reduceSub, Int.reduceMul, rsU, rsC]
  exact Ok_some.2 ⟨rfl, k2⟩
theorem hget_ok {i g : Nat} {x : Int} (hv : vw P.E i = some (true, g, some x)) : Ok (handles_Handles__Get [.p (some (.n hb, 0)), .i .i64 (tok i g)] σ) fun r => r.1 = .tup [.i .u64 x, .i .i64 0] ∧ ∃ M', HanAt r.2 hb pb mb M' P C w X ∧ Wrt M M' P.id w 4 0 ∧ Keep X σ r.2 := by
  obtain ⟨e, he, htk, hg, hx⟩ := vw_some hv
  have hw := h.words
  simp (config := { maxSteps := 2000000 }) -implicitDefEqProofs (disch := (first | omega | rfl | assumption | (simp only [rsD]; first | omega | assumption))) only [handles_Handles__Get, handles_Handles__Get_c, Nat.reduceAdd, Nat.reduceMul, Nat.reduceLT, Int.reduceToNat, Int.reduceAdd, Int.reduceSub, Int.reduceMul, rsU, rsC]
  refine Ok.step (hid_yes h hm hv) fun r ⟨k1, M1, k2, k3, k4⟩ => ?_
  obtain ⟨q, σ1⟩ := r
  simp only at k1 k2 k4
  subst k1
  have e1 : ((0 : Int) != 0) = false := rfl
  obtain ⟨el, hb1⟩ := k2.b
  have r1 := k3.r
  have w1 := k3.w
  simp (config := { maxSteps := 2000000 }) -implicitDefEqProofs (disch := (first | omega | rfl | assumption | (simp only [rsD]; first | omega | assumption))) only [e1, hb1, Nat.reduceAdd, Nat.reduceMul, Nat.reduceLT, Int.reduceToNat, Int.reduceAdd, Int.reduceSub, Int.reduceMul, rsU, rsC]
  have g0 := pget_ok k2.p ⟨by omega, by omega⟩ (k := 0) he htk (by omega) (by omega)
  rw [show ((0 : Nat) : Int) = 0 from rfl] at g0
  refine Ok.step g0 fun q ⟨q1, M2, q2, q3, q4⟩ => ?_
  obtain ⟨q, σ2⟩ := q
  simp only at q1 q2 q4
  rw [List.getD_eq_getElem?_getD, hx] at q1
  simp only [Option.getD_some] at q1
  subst q1
  simp (config := { maxSteps := 2000000 }) -implicitDefEqProofs (disch := (first | omega | rfl | assumption | (simp only [rsD]; first | omega | assumption))) only [Nat.reduceAdd, Nat.reduceMul, Nat.reduceLT, Int.reduceToNat, Int.reduceAdd, Int.reduceSub, Int.reduceMul, rsU, rsC]
  exact Ok_some.2 ⟨rfl, M2, k2.kp q2 q4, (k3.trans q3).as rfl (by omega) (by omega), k4.trans q4.tail⟩
end
end Go.Abs.Try
set_option linter.unusedSimpArgs false
set_option linter.unusedVariables false
set_option linter.unusedSectionVars false
set_option maxHeartbeats 1000000
namespace Go.Abs.Try
open Go Go.Abs
variable {O : Type}

theorem token_ok {σ : AH O} {i g : Nat} (hi : i < 1048576) (hg : g < 4398046511104) : handles_token [.i .i64 ((i : Int) + 1), .i .i64 (g : Int)] σ = some (.i .i64 (tok i g), σ) := by
  have e1 : (i : Int) + 1 - 1 = i := by omega
  have e2 : (2 : Int) ^ 20 = 1048576 := rfl
  have e3 := or20 hg hi
  simp (config := { maxSteps := 2000000 }) -implicitDefEqProofs (disch := (first | omega | rfl | assumption | (simp only [rsD]; first | omega | assumption))) only [handles_token, handles_token_c, e1, e2, e3, tok, Nat.reduceAdd, Nat.reduceMul, Nat.reduceLT, Int.reduceToNat, Int.reduceAdd, Int.reduceSub, Int.reduceMul, rsU, rsC]
/-- the entry i of the generation g came, holding x -/
structure HCame (P P' : PoolS) (i g : Nat) (x : Int) : Prop where
  id : P'.id = P.id
  now : vw P'.E i = some (true, g, some x)
  other : ∀ j, j ≠ i → vw P'.E j = vw P.E j
  was : vw P.E i = none ∧ g = 0 ∨ ∃ y, vw P.E i = some (false, g, y)
  len : P.E.length ≤ P'.E.length ∧ P'.E.length ≤ P.E.length + 1
  room : P'.room = P.room ∨ P'.room = P.more
  head : ∀ j r, P.free = (j + 1) :: r → i = j
  fr : P.free = [] ∧ i = P.E.length ∧ P'.free = [] ∧ P'.room = P.more ∧ P'.E.length = P.E.length + 1 ∨ P.free = (i + 1) :: P'.free ∧ P'.room = P.room ∧ P'.E.length = P.E.length
section
variable {σ : AH O} {hb pb mb : Nat} {M : MemS} {P : PoolS} {C : List Nat} {w : List Int} {X : List Nat} (h : HanAt σ hb pb mb M P C w X) (hm : M.met.r + 1000 < 85070591730234615865843651857942052864 ∧ M.met.w + 1000 < 85070591730234615865843651857942052864)
include h hm
theorem hadd_ok {x : Int} (hE : P.E.length < 1048576) (hR : P.more * 4 ≤ 4194304) (hg : ∀ e ∈ P.E, e.gen < 4398046511103) :
    Ok (handles_Handles__Add [.p (some (.n hb, 0)), .i .u64 x] σ) fun r => ∃ i g P', r.1 = .tup [.i .i64 (tok i g), .i .i64 0] ∧ HCame P P' i g x ∧ ∃ M' w' dr dw, HanAt r.2 hb pb mb M' P' (C ++ [i]) w' X ∧ Wrt M M' P.id w' dr dw ∧ 0 ≤ dr ∧ 0 ≤ dw ∧ dr + dw ≤ 16 ∧ Keep X σ r.2 := by
  obtain ⟨el, hbb⟩ := h.b
  have hw := h.words
  have hnx := h.nx
  have hfew := h.few
  have hcl := h.cl
  have e0 : ((0 : Int) != 0) = false := rfl
  have hpn := h.p.nx
  simp (config := { maxSteps := 2000000 }) -implicitDefEqProofs (disch := (first | omega | rfl | assumption | (simp only [rsD]; first | omega | assumption))) only [handles_Handles__Add, handles_Handles__Add_c, hbb, Nat.reduceAdd, Nat.reduceMul, Nat.reduceLT, Int.reduceToNat, Int.reduceAdd, Int.reduceSub, Int.reduceMul, rsU, rsC]
  refine Ok.step (ptake_any h.p ⟨by omega, by omega⟩ hE (by rw [hw]; exact hR) ⟨by omega, by omega⟩) fun q ⟨i, g, P1, p1, t, M1, w1, dr, dw, p2, p3, d1, d2, d3, d4, p4⟩ => ?_
  obtain ⟨q, σ1⟩ := q
  simp only at p1 p2 p4
  subst p1
  have r1 := p3.r
  have v1 := p3.w
  have hb1 : σ1.blk hb = _ := p4.head.trans hbb
  have hw1 : P1.words = 3 := t.words.trans hw
  have hnow : P1.E[i]? = some ⟨true, g, [0, 0, 0]⟩ := by rw [t.now, hw]; rfl
  have hi1 := (List.getElem?_eq_some_iff.1 hnow).1
  have hlen := t.len
  have hg4 : g < 4398046511103 := by
    cases hE : P.E[i]? with
    | none => rw [t.new hE]; omega
    | some e =>
      obtain ⟨_, h2⟩ := t.was e hE
      rw [← h2]; exact hg e (List.mem_of_getElem? hE)
  have hiC : i ∉ C := fun hm => by
    obtain ⟨j, hj⟩ := List.getElem?_of_mem hm
    obtain ⟨e, he, hl⟩ := h.l.at_ j i hj
    have := (t.was e he).1
    rw [hl.tk] at this; cases this
  have hL1 : Linked P1.E 1 2 C := h.l.other fun j hj => t.other j fun e => hiC (e ▸ hj)
  simp (config := { maxSteps := 2000000 }) -implicitDefEqProofs (disch := (first | omega | rfl | assumption | (simp only [rsD]; first | omega | assumption))) only [e0, hb1, Nat.reduceAdd, Nat.reduceMul, Nat.reduceLT, Int.reduceToNat, Int.reduceAdd, Int.reduceSub, Int.reduceMul, rsU, rsC]
  have ps := pset_ok p2 ⟨by omega, by omega⟩ (k := 0) (x := x) hnow rfl (by omega) (by omega)
  rw [show ((0 : Nat) : Int) = 0 from rfl] at ps
  refine Ok.step ps fun q ⟨q1, M2, w2, q2, q3, q4⟩ => ?_
  obtain ⟨q, σ2⟩ := q
  simp only [List.set_cons_zero] at q1 q2 q4
  subst q1
  have r2 := q3.r
  have v2 := q3.w
  have hb2 : σ2.blk hb = _ := q4.head.trans hb1
  have hnow2 : (P1.E.set i ⟨true, g, [x, 0, 0]⟩)[i]? = some ⟨true, g, [x, 0, 0]⟩ := by rw [List.getElem?_set]; simp [hi1]
  have hL2 : Linked (P1.E.set i ⟨true, g, [x, 0, 0]⟩) 1 2 C := hL1.other fun j hj => by show (P1.E.set i ⟨true, g, [x, 0, 0]⟩)[j]? = P1.E[j]?; rw [List.getElem?_set, if_neg (fun e : i = j => hiC (by rw [e]; exact hj))]
  simp (config := { maxSteps := 2000000 }) -implicitDefEqProofs (disch := (first | omega | rfl | assumption | (simp only [rsD]; first | omega | assumption))) only [hb2, Nat.reduceAdd, Nat.reduceMul, Nat.reduceLT, Int.reduceToNat, Int.reduceAdd, Int.reduceSub, Int.reduceMul, rsU, rsC]
  -- the table
  have hT : Ok (handles_Handles__table [.p (some (.n hb, 0))] σ2) fun r => r.1 = tbl { P1 with E := P1.E.set i ⟨true, g, [x, 0, 0]⟩ } mb 1 2 ∧ Ext σ2 r.2 := by
    have hlt : hb < σ2.next := q2.mi.lt _ (by simp)
    simp (config := { maxSteps := 2000000 }) -implicitDefEqProofs (disch := (first | omega | rfl | assumption | (simp only [rsD]; first | omega | assumption))) only [handles_Handles__table, handles_Handles__table_c, hb2, Nat.reduceAdd, Nat.reduceMul, Nat.reduceLT, Int.reduceToNat, Int.reduceAdd, Int.reduceSub, Int.reduceMul, rsU, rsC]
    generalize hσ : (σ2.bump 1).put σ2.next (.cells true _ _) = σ3
    obtain ⟨E1, b1, n1⟩ := boxed hσ
    clear hσ
    have pt := ptable_ok (q2.ext E1) (nx := 1) (pv := 2) (by show 1 < P1.words; omega) (by show 2 < P1.words; omega)
    rw [show ((1 : Nat) : Int) = 1 from rfl, show ((2 : Nat) : Int) = 2 from rfl] at pt
    refine Ok.step pt fun r ⟨g1, g2⟩ => ?_
    obtain ⟨q, σ4⟩ := r
    simp only [tbl] at g1 g2
    subst g1
    have b2 : σ4.blk σ2.next = _ := (g2.blk _ (by omega)).trans b1
    have n2 := g2.next
    simp (config := { maxSteps := 2000000 }) -implicitDefEqProofs (disch := (first | omega | rfl | assumption | (simp only [rsD]; first | omega | assumption))) only [b2, Nat.reduceAdd, Nat.reduceMul, Nat.reduceLT, Int.reduceToNat, Int.reduceAdd, Int.reduceSub, Int.reduceMul, rsU, rsC]
    exact Ok_some.2 ⟨rfl, (E1.trans g2).put (Nat.le_refl _) _⟩
  refine Ok.step hT fun r ⟨g1, g2⟩ => ?_
  obtain ⟨q, σ3⟩ := r
  simp only [tbl] at g1 g2
  subst g1
  have hb3 : σ3.blk hb = _ := (g2.blk _ (q2.mi.lt _ (by simp))).trans hb2
  simp (config := { maxSteps := 2000000 }) -implicitDefEqProofs (disch := (first | omega | rfl | assumption | (simp only [rsD]; first | omega | assumption))) only [hb3, Nat.reduceAdd, Nat.reduceMul, Nat.reduceLT, Int.reduceToNat, Int.reduceAdd, Int.reduceSub, Int.reduceMul, rsU, rsC]
  have tp := tpush_ok (q2.ext g2) (nx := 1) (pv := 2) (by show 1 < P1.words; omega) (by show 2 < P1.words; omega) (by decide) hL2 ⟨by omega, by omega⟩ (by omega) hiC hnow2 rfl
  unfold tbl chn at tp
  refine Ok.step tp fun r ⟨s1, M3, w3, E3, dw3, s2, s3, s4, s5, s6, s7, s8⟩ => ?_
  obtain ⟨q, σ4⟩ := r
  simp only at s1 s2 s8
  subst s1
  have r3 := s5.r
  have v3 := s5.w
  have hb4 : σ4.blk hb = _ := s8.head.trans hb3
  have hlt4 := s2.mi.lt hb (by simp)
  have hpb : pb ≠ hb := fun e => hpn (by simp [e])
  simp (config := { maxSteps := 2000000 }) -implicitDefEqProofs (disch := (first | omega | rfl | assumption | (simp only [rsD]; first | omega | assumption))) only [hb4, Nat.reduceAdd, Nat.reduceMul, Nat.reduceLT, Int.reduceToNat, Int.reduceAdd, Int.reduceSub, Int.reduceMul, rsU, rsC]
  generalize hσ : σ4.put hb (.cells true _ _) = σ5
  have hb5 : ∃ el, σ5.blk hb = some (.cells true el [.p (some (.n pb, 0)), .i .i64 (hdI (C ++ [i]) : Int), .i .i64 (tlI (C ++ [i]) : Int), .i .i64 ((C ++ [i]).length : Int)]) := by rw [← hσ]; exact ⟨_, s_bs⟩
  have p5 : PoolAt σ5 pb mb M3 { P1 with E := E3 } w3 (hb :: X) := by
    rw [← hσ]
    exact s2.turn (L := [hb]) ⟨by simp, fun b hb' hm => s_bn (by simpa using hm)⟩ (fun b hb' => .inl (by simp at hb'; simp [hb'])) fun b hb' => .inl hb'
  have kx5 : Keep X σ4 σ5 := by rw [← hσ]; exact Keep.put hnx _
  clear hσ
  obtain ⟨el5, hb5⟩ := hb5
  have sbv : ∀ j, vw E3 j = vw (P1.E.set i ⟨true, g, [x, 0, 0]⟩) j := s3.vw (by decide) (by decide)
  have hv3 : vw E3 i = some (true, g, some x) := by rw [sbv, vw_mk hnow2]; rfl
  obtain ⟨e3, he3, htk3, hg3, hx3⟩ := vw_some hv3
  have pg := pgen_ok p5 ⟨by omega, by omega⟩ (i := i) (e := e3) he3
  rw [hg3] at pg
  refine Ok.step pg fun r ⟨u1, M4, u2, u3, u4⟩ => ?_
  obtain ⟨q, σ6⟩ := r
  simp only at u1 u2
  subst u1
  have tk := token_ok (σ := σ6) (i := i) (g := g) (by omega) (by omega)
  simp (config := { maxSteps := 2000000 }) -implicitDefEqProofs (disch := (first | omega | rfl | assumption | (simp only [rsD]; first | omega | assumption))) only [tk, Nat.reduceAdd, Nat.reduceMul, Nat.reduceLT, Int.reduceToNat, Int.reduceAdd, Int.reduceSub, Int.reduceMul, rsU, rsC]
  have hid : P1.id = P.id := t.id
  have hvo : ∀ j, j ≠ i → vw E3 j = vw P.E j := fun j hj => by
    rw [sbv]
    unfold vw
    rw [List.getElem?_set, if_neg (fun e => hj e.symm), t.other j hj]
  refine Ok_some.2 ⟨i, g, { P1 with E := E3 }, rfl, ⟨hid, hv3, hvo, ?_, ?_, t.room, t.head, ?_⟩, M4, w3, dr + 1 + 0 + 1, dw + 1 + dw3 + 0, ⟨u2, hw1, ⟨el5, u4.head.trans hb5⟩, hnx, s4, fun j e he htk => ?_, ?_, fun e he => ?_⟩, ?_, by omega, by omega, ?_, (((p4.tail.trans q4.tail).trans ((q2.mi.tail.tail).keepExt g2)).trans s8.tail).trans (kx5.trans u4.tail)⟩
  · cases hE : P.E[i]? with
    | none => exact .inl ⟨vw_none.2 hE, t.new hE⟩
    | some e =>
      obtain ⟨h1, h2⟩ := t.was e hE
      exact .inr ⟨e.ws[0]?, by rw [vw_mk hE, h1, h2]⟩
  · show P.E.length ≤ E3.length ∧ E3.length ≤ _
    rw [s3.len, List.length_set]; exact hlen
  · show P.free = [] ∧ i = P.E.length ∧ P1.free = [] ∧ P1.room = P.more ∧ E3.length = P.E.length + 1 ∨ P.free = (i + 1) :: P1.free ∧ P1.room = P.room ∧ E3.length = P.E.length
    rw [s3.len, List.length_set]; exact t.fr
  · by_cases c : j = i
    · subst c; simp
    · have h1 := vw_mk he
      rw [hvo j c] at h1
      obtain ⟨e', he', ht', _⟩ := vw_some h1
      exact List.mem_append_left _ (h.all j e' he' (ht'.trans htk))
  · show E3.length ≤ _
    rw [s3.len, List.length_set]; omega
  · obtain ⟨j, hj⟩ := List.getElem?_of_mem he
    have h1 := vw_mk hj
    by_cases c : j = i
    · rw [c, hv3] at h1
      simp only [Option.some.injEq, Prod.mk.injEq] at h1
      rw [← h1.2.1]; omega
    · rw [hvo j c] at h1
      obtain ⟨e', he', _, hg', _⟩ := vw_some h1
      rw [← hg']
      have := hg e' (List.mem_of_getElem? he'); omega
  · have q3' : Wrt M1 M2 P.id w2 1 1 := by rw [← hid]; exact q3
    have s5' : Wrt M2 M3 P.id w3 0 dw3 := by rw [← hid]; exact s5
    have u3' : Wrt M3 M4 P.id w3 1 0 := by rw [← hid]; exact u3
    exact (((p3.trans q3').trans s5').trans u3').as rfl (by omega) (by omega)
  · omega
theorem hdrop_ok {i g : Nat} {x : Option Int} (hv : vw P.E i = some (true, g, x)) (hg1 : g + 1 < 4398046511104) :
    Ok (handles_Handles__Drop [.p (some (.n hb, 0)), .i .i64 (tok i g)] σ) fun r => r.1 = .i .i64 0 ∧ ∃ M' w' P' d dr dw, C[d]? = some i ∧ HanAt r.2 hb pb mb M' P' (C.eraseIdx d) w' X ∧ P'.id = P.id ∧ P'.room = P.room ∧ P'.free = (i + 1) :: P.free ∧ P'.E.length = P.E.length ∧ (∃ y, vw P'.E i = some (false, g + 1, y)) ∧ (∀ j, j ≠ i → vw P'.E j = vw P.E j) ∧ Wrt M M' P.id w' dr dw ∧ 0 ≤ dr ∧ 0 ≤ dw ∧ dr + dw ≤ 12 ∧ Keep X σ r.2 := by
  obtain ⟨e, he, htk, hg, hx⟩ := vw_some hv
  have hiC := h.all i e he htk
  obtain ⟨d, hdi⟩ := List.getElem?_of_mem hiC
  have hw := h.words
  have hcl := h.cl
  have hnx := h.nx
  have hpn := h.p.nx
  have hdl := (List.getElem?_eq_some_iff.1 hdi).1
  have e0 : ((0 : Int) != 0) = false := rfl
  simp (config := { maxSteps := 2000000 }) -implicitDefEqProofs (disch := (first | omega | rfl | assumption | (simp only [rsD]; first | omega | assumption))) only [handles_Handles__Drop, handles_Handles__Drop_c, Nat.reduceAdd, Nat.reduceMul, Nat.reduceLT, Int.reduceToNat, Int.reduceAdd, Int.reduceSub, Int.reduceMul, rsU, rsC]
  refine Ok.step (hid_yes h hm hv) fun r ⟨k1, M1, k2, k3, k4⟩ => ?_
  obtain ⟨q, σ1⟩ := r
  simp only at k1 k2 k4
  subst k1
  obtain ⟨el, hb1⟩ := k2.b
  have r1 := k3.r
  have v1 := k3.w
  simp (config := { maxSteps := 2000000 }) -implicitDefEqProofs (disch := (first | omega | rfl | assumption | (simp only [rsD]; first | omega | assumption))) only [e0, hb1, Nat.reduceAdd, Nat.reduceMul, Nat.reduceLT, Int.reduceToNat, Int.reduceAdd, Int.reduceSub, Int.reduceMul, rsU, rsC]
  refine Ok.step (htable_ok k2) fun r ⟨g1, g2⟩ => ?_
  obtain ⟨q, σ2⟩ := r
  simp only [tbl] at g1 g2
  subst g1
  have hb2 : σ2.blk hb = _ := (g2.blk _ k2.lt).trans hb1
  simp (config := { maxSteps := 2000000 }) -implicitDefEqProofs (disch := (first | omega | rfl | assumption | (simp only [rsD]; first | omega | assumption))) only [hb2, Nat.reduceAdd, Nat.reduceMul, Nat.reduceLT, Int.reduceToNat, Int.reduceAdd, Int.reduceSub, Int.reduceMul, rsU, rsC]
  have td := tdrop_ok (k2.p.ext g2) (nx := 1) (pv := 2) (by omega) (by omega) (by decide) h.l ⟨by omega, by omega⟩ (by omega) hdi
  unfold tbl chn at td
  refine Ok.step td fun r ⟨s1, M3, w3, E3, dw3, s2, s3, s4, s5, s6, s7, s8⟩ => ?_
  obtain ⟨q, σ4⟩ := r
  simp only at s1 s2 s8
  subst s1
  have r3 := s5.r
  have v3 := s5.w
  have hb4 : σ4.blk hb = _ := s8.head.trans hb2
  have hlt4 := s2.mi.lt hb (by simp)
  simp (config := { maxSteps := 2000000 }) -implicitDefEqProofs (disch := (first | omega | rfl | assumption | (simp only [rsD]; first | omega | assumption))) only [hb4, Nat.reduceAdd, Nat.reduceMul, Nat.reduceLT, Int.reduceToNat, Int.reduceAdd, Int.reduceSub, Int.reduceMul, rsU, rsC]
  generalize hσ : σ4.put hb (.cells true _ _) = σ5
  have hb5 : ∃ el, σ5.blk hb = some (.cells true el [.p (some (.n pb, 0)), .i .i64 (hdI (C.eraseIdx d) : Int), .i .i64 (tlI (C.eraseIdx d) : Int), .i .i64 ((C.eraseIdx d).length : Int)]) := by rw [← hσ]; exact ⟨_, s_bs⟩
  have p5 : PoolAt σ5 pb mb M3 { P with E := E3 } w3 (hb :: X) := by
    rw [← hσ]
    exact s2.turn (L := [hb]) ⟨by simp, fun b hb' hm => s_bn (by simpa using hm)⟩ (fun b hb' => .inl (by simp at hb'; simp [hb'])) fun b hb' => .inl hb'
  have kx5 : Keep X σ4 σ5 := by rw [← hσ]; exact Keep.put hnx _
  clear hσ
  obtain ⟨el5, hb5⟩ := hb5
  have sbv : ∀ j, vw E3 j = vw P.E j := s3.vw (by decide) (by decide)
  obtain ⟨e3, he3, htk3, hg3, hx3⟩ := vw_some ((sbv i).trans hv)
  have hi3 := (List.getElem?_eq_some_iff.1 he3).1
  refine Ok.step (pgive_ok p5 ⟨by omega, by omega⟩ (i := i) (e := e3) he3 htk3 (by rw [hg3]; omega) ⟨by omega, by omega⟩) fun r ⟨u1, M4, w4, u2, u3, u4⟩ => ?_
  obtain ⟨q, σ6⟩ := r
  simp only at u1 u2
  subst u1
  simp (config := { maxSteps := 2000000 }) -implicitDefEqProofs (disch := (first | omega | rfl | assumption | (simp only [rsD]; first | omega | assumption))) only [Nat.reduceAdd, Nat.reduceMul, Nat.reduceLT, Int.reduceToNat, Int.reduceAdd, Int.reduceSub, Int.reduceMul, rsU, rsC]
  rw [hg3] at u2
  have hvo : ∀ j, j ≠ i → vw (E3.set i ⟨false, g + 1, e3.ws.set 0 (hd P.free)⟩) j = vw P.E j := fun j hj => by
    rw [← sbv]
    unfold vw
    rw [List.getElem?_set, if_neg (fun e => hj e.symm)]
  have hvi : (E3.set i ⟨false, g + 1, e3.ws.set 0 (hd P.free)⟩)[i]? = some ⟨false, g + 1, e3.ws.set 0 (hd P.free)⟩ := by rw [List.getElem?_set]; simp [hi3]
  have hlenE : E3.length = P.E.length := s3.len
  have hie : i ∉ C.eraseIdx d := fun hmm => by
    obtain ⟨j, hj⟩ := List.getElem?_of_mem hmm
    rw [List.getElem?_eraseIdx] at hj
    split at hj
    · have := nodup_at h.l.nd hj hdi; omega
    · have := nodup_at h.l.nd hj hdi; omega
  refine Ok_some.2 ⟨rfl, M4, w4, _, d, 2 + 2 + 1, 0 + dw3 + 2, hdi, ⟨u2, hw, ⟨el5, u4.head.trans hb5⟩, hnx, s4.other fun j hj => ?_, fun j y hy hyt => ?_, ?_, fun y hy => ?_⟩, rfl, rfl, rfl, ?_, ⟨_, vw_mk hvi⟩, hvo, ((k3.trans s5).trans u3).as rfl (by omega) (by omega), by omega, by omega, by omega, ((((k4.trans ((k2.p.mi.tail.tail).keepExt g2)).trans s8.tail).trans kx5)).trans u4.tail⟩
  · show (E3.set _ _)[j]? = _
    rw [List.getElem?_set, if_neg (fun e : i = j => hie (by rw [e]; exact hj))]
  · by_cases c : j = i
    · subst c
      simp only at hy
      rw [hvi] at hy; cases hy; cases hyt
    · have h1 := vw_mk hy
      simp only at h1
      rw [hvo j c] at h1
      obtain ⟨e', he', ht', _⟩ := vw_some h1
      have hjC := h.all j e' he' (ht'.trans hyt)
      obtain ⟨k, hk⟩ := List.getElem?_of_mem hjC
      have hkd : k ≠ d := fun e => by subst e; rw [hdi] at hk; cases hk; exact c rfl
      rcases Nat.lt_or_ge k d with hlt | hge
      · exact List.mem_of_getElem? (i := k) (by rw [List.getElem?_eraseIdx, if_pos hlt]; exact hk)
      · exact List.mem_of_getElem? (i := k - 1) (by rw [List.getElem?_eraseIdx, if_neg (by omega), show k - 1 + 1 = k by omega]; exact hk)
  · show (E3.set _ _).length ≤ _
    rw [List.length_set, hlenE]; exact h.few
  · obtain ⟨j, hj⟩ := List.getElem?_of_mem hy
    have h1 := vw_mk hj
    by_cases c : j = i
    · subst c
      simp only at hj
      rw [hvi] at hj; cases hj
      exact hg1
    · simp only at h1
      rw [hvo j c] at h1
      obtain ⟨e', he', _, hg', _⟩ := vw_some h1
      rw [← hg']
      exact h.gen e' (List.mem_of_getElem? he')
  · show (E3.set _ _).length = _
    rw [List.length_set, hlenE]
end
theorem HanAt.turn {σ σ' : AH O} {hb pb mb : Nat} {M : MemS} {P : PoolS} {C : List Nat} {w : List Int} {X Y L : List Nat} (h : HanAt σ hb pb mb M P C w X) (hc : Chg L σ σ') (hl : ∀ b ∈ L, b ∈ X ∨ σ.next ≤ b) (hY : ∀ b ∈ Y, b ∈ X ∨ (σ.next ≤ b ∧ b < σ'.next)) : HanAt σ' hb pb mb M P C w Y := by
  have hlt := h.lt
  have hbn : hb ∉ L := fun hm => by
    rcases hl hb hm with g | g
    · exact h.nx g
    · omega
  refine { h with p := h.p.turn hc (fun b hb => (hl b hb).imp (List.mem_cons_of_mem _) fun g => g) fun b hb => ?_, b := by obtain ⟨el, hbb⟩ := h.b; exact ⟨el, (hc.blk hb h.lt hbn).trans hbb⟩, nx := fun hm => ?_ }
  · rcases List.mem_cons.1 hb with rfl | hb
    · exact .inl List.mem_cons_self
    · exact (hY b hb).imp (List.mem_cons_of_mem _) fun g => g
  · rcases hY hb hm with g | g
    · exact h.nx g
    · omega
theorem HanAt.by {σ σ' : AH O} {hb pb mb : Nat} {M M' : MemS} {P : PoolS} {C : List Nat} {w : List Int} {X : List Nat} (h : HanAt σ hb pb mb M P C w X) (mi : MemIn σ' mb M' (pb :: hb :: X)) (h1 : σ'.blk hb = σ.blk hb) (h2 : σ'.blk pb = σ.blk pb) (hw : wordsOf M'.sp P.id = wordsOf M.sp P.id) : HanAt σ' hb pb mb M' P C w X :=
  { h with p := { h.p with mi := mi, b := h2.trans h.p.b, now := hw.trans h.p.now }, b := by obtain ⟨el, hb⟩ := h.b; exact ⟨el, h1.trans hb⟩ }
theorem HanAt.mono {σ : AH O} {hb pb mb : Nat} {M : MemS} {P : PoolS} {C : List Nat} {w : List Int} {X Y : List Nat} (h : HanAt σ hb pb mb M P C w X) (hs : ∀ b ∈ Y, b ∈ X) : HanAt σ hb pb mb M P C w Y :=
  { h with p := h.p.mono (fun b hb => (List.mem_cons.1 hb).elim (fun e => by rw [e]; exact List.mem_cons_self) fun hb => List.mem_cons_of_mem _ (hs b hb)), nx := fun hm => h.nx (hs _ hm) }
theorem hnew_ok {σ : AH O} {mb : Nat} {M : MemS} {X : List Nat} (h : MemIn σ mb M X) (hc : M.calm) (hcnt : M.count < 262144) :
    Ok (handles_New [.p (some (.n mb, 0))] σ) fun r => ∃ hb pb, r.1 = .tup [.p (some (.n hb, 0)), .i .i64 0] ∧ HanAt r.2 hb pb mb (M.opn (ff M.sp) 0) ⟨ff M.sp, 3, 0, [], [], 0⟩ [] [] X ∧ σ.next ≤ hb ∧ Keep X σ r.2 := by
  simp (config := { maxSteps := 2000000 }) -implicitDefEqProofs (disch := (first | omega | rfl | assumption | (simp only [rsD]; first | omega | assumption))) only [handles_New, handles_New_c, Nat.reduceAdd, Nat.reduceMul, Nat.reduceLT, Int.reduceToNat, Int.reduceAdd, Int.reduceSub, Int.reduceMul, rsU, rsC]
  have pn := pnew_ok h hc hcnt (n := 3) ⟨by decide, by decide⟩
  rw [show ((3 : Nat) : Int) = 3 from rfl] at pn
  refine Ok.step pn fun r ⟨pb, g1, g2, g3, g4⟩ => ?_
  obtain ⟨q, σ1⟩ := r
  simp only at g1 g2 g4
  subst g1
  have e0 : ((0 : Int) != 0) = false := rfl
  simp (config := { maxSteps := 2000000 }) -implicitDefEqProofs (disch := (first | omega | rfl | assumption | (simp only [rsD]; first | omega | assumption))) only [e0, Nat.reduceAdd, Nat.reduceMul, Nat.reduceLT, Int.reduceToNat, Int.reduceAdd, Int.reduceSub, Int.reduceMul, rsU, rsC]
  refine Ok_some.2 ⟨σ1.next, pb, rfl, ⟨g2.new (pool_box_ext _ _) (Nat.le_refl _) (by simp), rfl, ⟨_, s_bs⟩, fun hm => by have := g2.mi.lt _ (List.mem_cons_of_mem _ hm); omega, Linked.nil _ _ _, fun i e he => by simp at he, by simp, fun e he => by simp at he⟩, g4.next, g4.trans (g2.mi.tail.keepExt (pool_box_ext _ _))⟩
theorem made18_ok {σ : AH O} : Ok (law18_made [] σ) fun r => ∃ mb hb pb M id, r.1 = .tup [.p (some (.n mb, 0)), .p (some (.n hb, 0)), .b true] ∧ HanAt r.2 hb pb mb M ⟨id, 3, 0, [], [], 0⟩ [] [] [] ∧ M.met.r = 0 ∧ M.met.w = 0 ∧ id = 0 ∧ M.sp.length = 1 := by
  simp (config := { maxSteps := 2000000 }) -implicitDefEqProofs (disch := (first | omega | rfl | assumption | (simp only [rsD]; first | omega | assumption))) only [law18_made, law18_made_c, Nat.reduceAdd, Nat.reduceMul, Nat.reduceLT, Int.reduceToNat, Int.reduceAdd, Int.reduceSub, Int.reduceMul, rsU, rsC]
  refine Ok.step (newX (X := []) (by simp)) fun r ⟨g1, g2, g3⟩ => ?_
  obtain ⟨q, σ1⟩ := r
  simp only at g1 g2
  subst g1
  simp (config := { maxSteps := 2000000 }) -implicitDefEqProofs (disch := (first | omega | rfl | assumption | (simp only [rsD]; first | omega | assumption))) only [Option.isNone_some, Nat.reduceAdd, Nat.reduceMul, Nat.reduceLT, Int.reduceToNat, Int.reduceAdd, Int.reduceSub, Int.reduceMul, rsU, rsC]
  refine Ok.step (hnew_ok g2 ⟨by decide, by decide⟩ (by decide)) fun r ⟨hb, pb, k1, k2, _, _⟩ => ?_
  obtain ⟨q, σ2⟩ := r
  simp only at k1 k2
  subst k1
  simp (config := { maxSteps := 2000000 }) -implicitDefEqProofs (disch := (first | omega | rfl | assumption | (simp only [rsD]; first | omega | assumption))) only [Option.isNone_some, beq_self_eq_true, Nat.reduceAdd, Nat.reduceMul, Nat.reduceLT, Int.reduceToNat, Int.reduceAdd, Int.reduceSub, Int.reduceMul, rsU, rsC]
  exact Ok_some.2 ⟨_, hb, pb, _, _, rfl, k2, rfl, rfl, rfl, rfl⟩
theorem awake18_ok {σ : AH O} : Ok (law18_awake [] σ) fun r => r.1 = .b true := by
  simp (config := { maxSteps := 2000000 }) -implicitDefEqProofs (disch := (first | omega | rfl | assumption | (simp only [rsD]; first | omega | assumption))) only [law18_awake, law18_awake_c, Nat.reduceAdd, Nat.reduceMul, Nat.reduceLT, Int.reduceToNat, Int.reduceAdd, Int.reduceSub, Int.reduceMul, rsU, rsC]
  refine Ok.step made18_ok fun r ⟨mb, hb, pb, M, id, g1, g2, g3, g4, _⟩ => ?_
  obtain ⟨q, σ1⟩ := r
  simp only at g1 g2
  subst g1
  have mk : ∀ {E : List PE} {i : Nat} {y : Bool × Nat × Option Int}, vw E i = some y → i < E.length := fun h => by
    obtain ⟨e, h1, _⟩ := Option.map_eq_some_iff.1 h
    exact (List.getElem?_eq_some_iff.1 h1).1
  simp (config := { maxSteps := 2000000 }) -implicitDefEqProofs (disch := (first | omega | rfl | assumption | (simp only [rsD]; first | omega | assumption))) only [Nat.reduceAdd, Nat.reduceMul, Nat.reduceLT, Int.reduceToNat, Int.reduceAdd, Int.reduceSub, Int.reduceMul, rsU, rsC]
  refine Ok.step (hadd_ok g2 ⟨by omega, by omega⟩ (x := 3) (by simp) (by simp [PoolS.more]) (by simp)) fun r ⟨i, g, P1, p1, c1, M1, w1, dr, dw, p2, p3, d1, d2, d3, p4⟩ => ?_
  obtain ⟨q, σ2⟩ := r
  simp only at p1 p2
  subst p1
  have l1 := c1.len
  simp only [List.length_nil] at l1
  have hi := mk c1.now
  obtain rfl : i = 0 := by omega
  obtain rfl : g = 0 := by
    rcases c1.was with ⟨_, e⟩ | ⟨y, e⟩
    · exact e
    · simp [vw] at e
  have n1 := c1.now
  have r1 := p3.r
  have v1 := p3.w
  have rm1 := c1.room
  have E1 : P1.E.length = 1 := by omega
  have gE : ∀ {P : PoolS} {k : Nat}, (∀ j, j < P.E.length → ∃ t g y, vw P.E j = some (t, g, y) ∧ g ≤ k) → ∀ e ∈ P.E, e.gen ≤ k := fun h e he => by
    obtain ⟨j, hj⟩ := List.getElem?_of_mem he
    obtain ⟨t, g, y, h1, h2⟩ := h j (List.getElem?_eq_some_iff.1 hj).1
    rw [vw_mk hj] at h1
    simp only [Option.some.injEq, Prod.mk.injEq] at h1
    omega
  have m1 : P1.room ≤ 8 := by
    rcases rm1 with e | e
    · rw [e]; simp
    · rw [e]; simp [PoolS.more]
  have more : ∀ {P : PoolS}, P.E.length ≤ 8 → P.room ≤ 16 → P.more ≤ 40 := fun h1 h2 => by unfold PoolS.more; split <;> omega
  have more1 : P1.more ≤ 40 := more (by omega) (by omega)
  have gE1 := gE (P := P1) (k := 0) (fun j hj => by
    obtain rfl : j = 0 := by omega
    exact ⟨_, _, _, n1, Nat.le_refl _⟩)
  simp (config := { maxSteps := 2000000 }) -implicitDefEqProofs (disch := (first | omega | rfl | assumption | (simp only [rsD]; first | omega | assumption))) only [Nat.reduceAdd, Nat.reduceMul, Nat.reduceLT, Int.reduceToNat, Int.reduceAdd, Int.reduceSub, Int.reduceMul, rsU, rsC]
  refine Ok.step (hadd_ok p2 ⟨by omega, by omega⟩ (x := 5) (by omega) (by omega) fun e he => by have := gE1 e he; omega) fun r ⟨i, g, P2, q1, c2, M2, w2, dr2, dw2, q2, q3, e1, e2, e3, q4⟩ => ?_
  obtain ⟨q, σ3⟩ := r
  simp only at q1 q2
  subst q1
  have l2 := c2.len
  have hi2 := mk c2.now
  have ne0 : i ≠ 0 := fun e => by
    subst e
    rcases c2.was with ⟨e, _⟩ | ⟨y, e⟩
    · rw [n1] at e; cases e
    · rw [n1] at e; simp at e
  obtain rfl : i = 1 := by omega
  obtain rfl : g = 0 := by
    rcases c2.was with ⟨_, e⟩ | ⟨y, e⟩
    · exact e
    · have := mk e; omega
  have n2 := c2.now
  have n20 : vw P2.E 0 = _ := (c2.other 0 (by decide)).trans n1
  have r2 := q3.r
  have v2 := q3.w
  have rm2 := c2.room
  have E2 : P2.E.length = 2 := by omega
  have m2 : P2.room ≤ 40 := by
    have := more (P := P1) (by omega) (by omega)
    rcases rm2 with e | e <;> omega
  have t0 : (0 : Int) = tok 0 0 := rfl
  simp (config := { maxSteps := 2000000 }) -implicitDefEqProofs (disch := (first | omega | rfl | assumption | (simp only [rsD]; first | omega | assumption))) only [Nat.reduceAdd, Nat.reduceMul, Nat.reduceLT, Int.reduceToNat, Int.reduceAdd, Int.reduceSub, Int.reduceMul, rsU, rsC]
  have hd := hdrop_ok q2 ⟨by omega, by omega⟩ n20 (by omega)
  rw [← t0] at hd
  refine Ok.step hd fun r ⟨s1, M3, w3, P3, d, dr3, dw3, s2, s3, s4, s5, s6, s7, s8, s9, s10, u1, u2, u3, u4⟩ => ?_
  obtain ⟨q, σ4⟩ := r
  simp only at s1 s3
  subst s1
  obtain ⟨y3, n30⟩ := s8
  have n31 : vw P3.E 1 = _ := (s9 1 (by decide)).trans n2
  have r3 := s10.r
  have v3 := s10.w
  simp (config := { maxSteps := 2000000 }) -implicitDefEqProofs (disch := (first | omega | rfl | assumption | (simp only [rsD]; first | omega | assumption))) only [Nat.reduceAdd, Nat.reduceMul, Nat.reduceLT, Int.reduceToNat, Int.reduceAdd, Int.reduceSub, Int.reduceMul, rsU, rsC]
  have more3 : P3.more ≤ 88 := by unfold PoolS.more; split <;> omega
  refine Ok.step (hadd_ok s3 ⟨by omega, by omega⟩ (x := 7) (by omega) (by omega) fun e he => by
    have := gE (P := P3) (k := 1) (fun j hj => by
      by_cases c : j = 0
      · subst c; exact ⟨_, _, _, n30, by omega⟩
      · obtain rfl : j = 1 := by omega
        exact ⟨_, _, _, n31, by omega⟩) e he
    omega) fun r ⟨i, g, P4, z1, c4, M4, w4, dr4, dw4, z2, z3, f1, f2, f3, z4⟩ => ?_
  obtain ⟨q, σ5⟩ := r
  simp only at z1 z2
  subst z1
  obtain rfl : i = 0 := c4.head 0 _ s6
  obtain rfl : g = 1 := by
    rcases c4.was with ⟨e, _⟩ | ⟨y, e⟩
    · rw [n30] at e; cases e
    · rw [n30] at e; simp only [Option.some.injEq, Prod.mk.injEq] at e; omega
  have n40 := c4.now
  have r4 := z3.r
  have v4 := z3.w
  simp (config := { maxSteps := 2000000 }) -implicitDefEqProofs (disch := (first | omega | rfl | assumption | (simp only [rsD]; first | omega | assumption))) only [Nat.reduceAdd, Nat.reduceMul, Nat.reduceLT, Int.reduceToNat, Int.reduceAdd, Int.reduceSub, Int.reduceMul, rsU, rsC]
  refine Ok.step (hget_no z2 ⟨by omega, by omega⟩ (t := 0) (by omega) fun i g x hv e => by
    have hi := mk hv
    have hl := c4.len
    have := tok_inj (i := 0) (g := 0) (by omega) (by omega) (e : tok 0 0 = tok i g)
    obtain ⟨rfl, rfl⟩ := this
    rw [n40] at hv; simp at hv) fun r ⟨y1, _⟩ => ?_
  obtain ⟨q, σ6⟩ := r
  simp only at y1
  subst y1
  have b1 : (tok 0 0 == 0) = true := rfl
  have b2 : (tok 1 0 == 1) = true := rfl
  have b3 : (tok 0 1 == 1048576) = true := rfl
  simp (config := { maxSteps := 2000000 }) -implicitDefEqProofs (disch := (first | omega | rfl | assumption | (simp only [rsD]; first | omega | assumption))) only [b1, b2, b3, Nat.reduceAdd, Nat.reduceMul, Nat.reduceLT, Int.reduceToNat, Int.reduceAdd, Int.reduceSub, Int.reduceMul, rsU, rsC]
  exact Ok_some.2 rfl
end Go.Abs.Try
set_option linter.unusedSimpArgs false
set_option linter.unusedVariables false
set_option linter.unusedSectionVars false
set_option maxHeartbeats 2000000
namespace Go.Abs.Try
open Go Go.Abs
variable {O : Type}

/-- a chain's entries are handed out, and their words may turn meanwhile: I k: k of them were -/
theorem tallx_ok {ky : Sm O} {b pb mb nx pv : Nat} {id : Int} {W : Nat} {C : List Nat} {cb tb : Nat} (I : Nat → AH O → MemS → Prop)
    (h1 : nx < W) (h2 : pv < W) (hne : nx ≠ pv) (hC : C.length ≤ 4194304)
    (hy : ∀ (k i : Nat) (σ : AH O) (M : MemS), C[k]? = some i → I k σ M → Ok (ky [.p (some (.n b, 0)), .i .i64 ((i : Int) + 1)] σ) fun r => r.1 = .b true ∧ ∃ M' S w X, PoolAt r.2 pb mb M' S w X ∧ S.id = id ∧ S.words = W ∧ Linked S.E nx pv C ∧ M'.calm ∧ (∃ el, r.2.blk tb = some (.cells true el [.p (some (.n mb, 0)), .i .i64 id, .i .i64 ((W : Int) + 1), .i .i64 ((nx : Int) + 1), .i .i64 ((pv : Int) + 1)])) ∧
      ∀ σ' M'', PoolAt σ' pb mb M'' S w X → Wrt M' M'' S.id w 1 0 → Keep X r.2 σ' → I (k + 1) σ' M'')
    {σ : AH O} {M : MemS} {el : TypeId} (hcb : σ.blk cb = some (.cells true el (chnc C))) (h0 : I 0 σ M) {x y : List AV} :
    Ok (chain_Table__All_1 ky [.fn (some (.yield b, x, y)), .p (some (.n cb, 0)), .p (some (.n tb, 0))] σ) fun r => r.1 = .tup [] ∧ ∃ M', I C.length r.2 M' := by
  simp only [chnc] at hcb
  simp (config := { maxSteps := 2000000 }) -implicitDefEqProofs (disch := (first | omega | rfl | assumption | (simp only [rsD]; first | omega | assumption))) only [chain_Table__All_1, chain_Table__All_1_c, hcb, Nat.reduceAdd, Nat.reduceMul, Nat.reduceLT, Int.reduceToNat, Int.reduceAdd, Int.reduceSub, Int.reduceMul, rsU, rsC]
  refine Ok.bindS (Q := fun r => ∃ σ' M', r = .inl ([], σ') ∧ I C.length σ' M') ?_ ?_ ?_
  · refine Ok.count C.length (fun k s => ∃ σ' M', s = ([.i .i64 (match C[k]? with | some i => (i : Int) + 1 | none => 0), .i .i64 (k : Int)], σ') ∧ I k σ' M') ?_ ?_ ⟨σ, M, ?_, h0⟩
    · rintro k s hk ⟨σ1, M1, rfl, hI⟩
      have hx := List.getElem?_eq_getElem hk
      generalize C[k] = i at hx
      rw [hx]
      simp (config := { maxSteps := 2000000 }) -implicitDefEqProofs (disch := (first | omega | rfl | assumption | (simp only [rsD]; first | omega | assumption))) only [chain_Table__All_1_L1, callV, getG, yKey, Nat.reduceAdd, Nat.reduceMul, Nat.reduceLT, Int.reduceToNat, Int.reduceAdd, Int.reduceSub, Int.reduceMul, rsU, rsC]
      refine Ok.step (hy k i σ1 M1 hx hI) fun r ⟨g1, M2, S, w, X2, g2, hid, hW, hL, hc2, ⟨el2, htb⟩, g7⟩ => ?_
      obtain ⟨q, σ2⟩ := r
      simp only at g1 g2 htb g7
      subst g1
      subst hid
      subst hW
      have hE4 : S.E.length ≤ 4194304 := by
        have hmd := g2.p.made
        have hlen := g2.p.len
        have hwl := g2.wle
        have h3 : S.room * 1 ≤ S.room * (S.words + 1) := Nat.mul_le_mul_left _ (by omega)
        omega
      obtain ⟨s1, s2, s3⟩ := hL.small (B := 4194304) hE4
      obtain ⟨e, he, hl⟩ := hL.at_ k i hx
      simp (config := { maxSteps := 2000000 }) -implicitDefEqProofs (disch := (first | omega | rfl | assumption | (simp only [rsD]; first | omega | assumption))) only [htb, Nat.reduceAdd, Nat.reduceMul, Nat.reduceLT, Int.reduceToNat, Int.reduceAdd, Int.reduceSub, Int.reduceMul, rsU, rsC]
      have ta := tafter_ok g2 h1 h2 hne hc2 (i := i) (x := nid C k) he hl.n (by have := (s3 k).1; omega)
      unfold tbl at ta
      refine Ok.step ta fun r ⟨g3, M3, g4, g5, g6⟩ => ?_
      obtain ⟨q, σ3⟩ := r
      simp only at g3 g4 g6
      subst g3
      have e0 : ((0 : Int) != 0) = false := rfl
      simp (config := { maxSteps := 2000000 }) -implicitDefEqProofs (disch := (first | omega | rfl | assumption | (simp only [rsD]; first | omega | assumption))) only [e0, Nat.reduceAdd, Nat.reduceMul, Nat.reduceLT, Int.reduceToNat, Int.reduceAdd, Int.reduceSub, Int.reduceMul, rsU, rsC]
      have hn : ((nid C k : Nat) : Int) = (match C[k + 1]? with | some i => (i : Int) + 1 | none => 0) := by
        unfold nid
        cases C[k + 1]? with
        | none => rfl
        | some i => simp
      exact Ok_some.2 ⟨σ3, M3, by rw [hn]; rfl, g7 σ3 M3 g4 g5 g6⟩
    · rintro s ⟨σ1, M1, rfl, hI⟩
      have hx : C[C.length]? = none := by simp
      rw [hx]
      simp (config := { maxSteps := 2000000 }) -implicitDefEqProofs (disch := (first | omega | rfl | assumption | (simp only [rsD]; first | omega | assumption))) only [chain_Table__All_1_L1, Nat.reduceAdd, Nat.reduceMul, Nat.reduceLT, Int.reduceToNat, Int.reduceAdd, Int.reduceSub, Int.reduceMul, rsU, rsC]
      exact Ok_some.2 ⟨σ1, M1, rfl, hI⟩
    · cases C with
      | nil => simp [hdI]
      | cons c C => simp [hdI]
  · rintro s ⟨σ1, M1, e, hI⟩
    simp only [Sum.inl.injEq] at e
    subst e
    simp (config := { maxSteps := 2000000 }) -implicitDefEqProofs (disch := (first | omega | rfl | assumption | (simp only [rsD]; first | omega | assumption))) only [Nat.reduceAdd, Nat.reduceMul, Nat.reduceLT, Int.reduceToNat, Int.reduceAdd, Int.reduceSub, Int.reduceMul, rsU, rsC]
    exact Ok_some.2 ⟨rfl, M1, hI⟩
  · rintro s ⟨σ1, M1, e, hI⟩
    cases e
theorem vw_len {E : List PE} {i : Nat} {y : Bool × Nat × Option Int} (h : vw E i = some y) : i < E.length := by
  obtain ⟨e, h1, _⟩ := Option.map_eq_some_iff.1 h
  exact (List.getElem?_eq_some_iff.1 h1).1
/-- the same pool, but for the words -/
structure Like (P P' : PoolS) : Prop where
  id : P'.id = P.id
  words : P'.words = P.words
  free : P'.free = P.free
  room : P'.room = P.room
  len : P'.E.length = P.E.length
  vw : ∀ i, (vw P'.E i).map (fun y => (y.1, y.2.1)) = (vw P.E i).map (fun y => (y.1, y.2.1))
theorem Like.refl (P : PoolS) : Like P P := ⟨rfl, rfl, rfl, rfl, rfl, fun _ => rfl⟩
theorem Like.trans {P P' P'' : PoolS} (h : Like P P') (g : Like P' P'') : Like P P'' := ⟨g.id.trans h.id, g.words.trans h.words, g.free.trans h.free, g.room.trans h.room, g.len.trans h.len, fun i => (g.vw i).trans (h.vw i)⟩
/-- a word of an entry is set, at the pool itself -/
theorem HanAt.poke {σ σ' : AH O} {hb pb mb : Nat} {M M' : MemS} {P : PoolS} {C : List Nat} {w w' : List Int} {X : List Nat} (h : HanAt σ hb pb mb M P C w X) {i : Nat} {e : PE} {y : Int} (he : P.E[i]? = some e) (htk : e.tk = true)
    (p : PoolAt σ' pb mb M' { P with E := P.E.set i { e with ws := e.ws.set 0 y } } w' (hb :: X)) (k : σ'.blk hb = σ.blk hb) : HanAt σ' hb pb mb M' { P with E := P.E.set i { e with ws := e.ws.set 0 y } } C w' X ∧ Like P { P with E := P.E.set i { e with ws := e.ws.set 0 y } } ∧ vw (P.E.set i { e with ws := e.ws.set 0 y }) i = some (true, e.gen, some y) ∧ ∀ j, j ≠ i → vw (P.E.set i { e with ws := e.ws.set 0 y }) j = vw P.E j := by
  have hw := h.words
  have hi := (List.getElem?_eq_some_iff.1 he).1
  have hwl := h.p.p.wl e (List.mem_of_getElem? he)
  have hnow : (P.E.set i { e with ws := e.ws.set 0 y })[i]? = some { e with ws := e.ws.set 0 y } := by rw [List.getElem?_set]; simp [hi]
  have hoth : ∀ j, j ≠ i → (P.E.set i { e with ws := e.ws.set 0 y })[j]? = P.E[j]? := fun j hj => by rw [List.getElem?_set, if_neg (fun e => hj e.symm)]
  have hv : vw (P.E.set i { e with ws := e.ws.set 0 y }) i = some (true, e.gen, some y) := by
    rw [vw_mk hnow, htk]
    have h0 : 0 < e.ws.length := by omega
    simp [h0]
  have ho : ∀ j, j ≠ i → vw (P.E.set i { e with ws := e.ws.set 0 y }) j = vw P.E j := fun j hj => by
    unfold vw
    rw [hoth j hj]
  obtain ⟨el, hbb⟩ := h.b
  refine ⟨⟨p, hw, ⟨el, k.trans hbb⟩, h.nx, h.l.words he (by decide) (by decide), fun j z hz ht => ?_, ?_, fun z hz => ?_⟩, ⟨rfl, rfl, rfl, rfl, List.length_set .., fun j => ?_⟩, hv, ho⟩
  · by_cases c : j = i
    · subst c; exact h.all j e he htk
    · simp only at hz
      rw [hoth j c] at hz; exact h.all j z hz ht
  · show (P.E.set _ _).length ≤ _
    rw [List.length_set]; exact h.few
  · rcases mem_set' hz with rfl | hz
    · exact h.gen e (List.mem_of_getElem? he)
    · exact h.gen z hz
  · by_cases c : j = i
    · subst c
      simp only
      rw [hv, vw_mk he, htk]; rfl
    · simp only
      rw [ho j c]
theorem hsetx_ok {σ : AH O} {hb pb mb : Nat} {M : MemS} {P : PoolS} {C : List Nat} {w : List Int} {X : List Nat} (h : HanAt σ hb pb mb M P C w X) (hm : M.met.r + 1000 < 85070591730234615865843651857942052864 ∧ M.met.w + 1000 < 85070591730234615865843651857942052864) {i g : Nat} {x0 : Option Int} {x : Int} (hv : vw P.E i = some (true, g, x0)) :
    Ok (handles_Handles__Set [.p (some (.n hb, 0)), .i .i64 (tok i g), .i .u64 x] σ) fun r => r.1 = .i .i64 0 ∧ ∃ M' w' P', HanAt r.2 hb pb mb M' P' C w' X ∧ Like P P' ∧ vw P'.E i = some (true, g, some x) ∧ (∀ j, j ≠ i → vw P'.E j = vw P.E j) ∧ Wrt M M' P.id w' 3 1 ∧ Keep X σ r.2 := by
  obtain ⟨e, he, htk, hg, hx⟩ := vw_some hv
  have hw := h.words
  simp (config := { maxSteps := 2000000 }) -implicitDefEqProofs (disch := (first | omega | rfl | assumption | (simp only [rsD]; first | omega | assumption))) only [handles_Handles__Set, handles_Handles__Set_c, Nat.reduceAdd, Nat.reduceMul, Nat.reduceLT, Int.reduceToNat, Int.reduceAdd, Int.reduceSub, Int.reduceMul, rsU, rsC]
  refine Ok.step (hid_yes h hm hv) fun r ⟨k1, M1, k2, k3, k4⟩ => ?_
  obtain ⟨q, σ1⟩ := r
  simp only at k1 k2 k4
  subst k1
  have e1 : ((0 : Int) != 0) = false := rfl
  obtain ⟨el, hb1⟩ := k2.b
  have r1 := k3.r
  have w1 := k3.w
  simp (config := { maxSteps := 2000000 }) -implicitDefEqProofs (disch := (first | omega | rfl | assumption | (simp only [rsD]; first | omega | assumption))) only [e1, hb1, Nat.reduceAdd, Nat.reduceMul, Nat.reduceLT, Int.reduceToNat, Int.reduceAdd, Int.reduceSub, Int.reduceMul, rsU, rsC]
  have g0 := pset_ok k2.p ⟨by omega, by omega⟩ (k := 0) (x := x) he htk (by omega) (by omega)
  rw [show ((0 : Nat) : Int) = 0 from rfl] at g0
  refine Ok.step g0 fun q ⟨q1, M2, w2, q2, q3, q4⟩ => ?_
  obtain ⟨q, σ2⟩ := q
  simp only at q1 q2 q4
  subst q1
  obtain ⟨h4, l4, v4, o4⟩ := k2.poke he htk q2 q4.head
  rw [show (some (true, e.gen, some x) : Option (Bool × Nat × Option Int)) = some (true, g, some x) by rw [hg]] at v4
  simp (config := { maxSteps := 2000000 }) -implicitDefEqProofs (disch := (first | omega | rfl | assumption | (simp only [rsD]; first | omega | assumption))) only [Nat.reduceAdd, Nat.reduceMul, Nat.reduceLT, Int.reduceToNat, Int.reduceAdd, Int.reduceSub, Int.reduceMul, rsU, rsC]
  exact Ok_some.2 ⟨rfl, M2, w2, _, h4, l4, v4, o4, (k3.trans q3).as rfl (by omega) (by omega), k4.trans q4.tail⟩
end Go.Abs.Try
set_option linter.unusedSimpArgs false
set_option linter.unusedVariables false
set_option linter.unusedSectionVars false
set_option maxHeartbeats 2000000
namespace Go.Abs.Try
open Go Go.Abs
variable {O : Type}

theorem box2 {σ σ1 : AH O} {x y : Blk O} (hσ : ((σ.bump 2).put σ.next x).put (σ.next + 1) y = σ1) : Ext σ σ1 ∧ σ1.next = σ.next + 2 ∧ σ1.blk σ.next = some x ∧ σ1.blk (σ.next + 1) = some y := by
  subst hσ
  exact ⟨((((Ext.refl σ).bump 2).put (Nat.le_refl _) _).put (by omega) _), rfl, (s_bn (by omega)).trans s_bs, s_bs⟩
noncomputable abbrev turnV : List (Nat × Sm O) := [(79, pool_Pool__Get), (61, pool_Pool__Set), (72, law18_do_1)]
/-- a function that handles are turned by: V: each handle's generation and what it holds; Z: what was made of the first ones; n: the handles' own steps -/
structure Turner (hb pb mb : Nat) (P0 : PoolS) (C : List Nat) (V : List (Nat × Int)) (f : Fn × List AV × List AV) (I : List Int → Int → AH O → MemS → List Nat → Prop) : Prop where
  calm : ∀ {Z n σ M X}, I Z n σ M X → 0 ≤ n → n ≤ 5 * Z.length + 5 → Z.length ≤ V.length → M.met.r + 1000 < 85070591730234615865843651857942052864 ∧ M.met.w + 1000 < 85070591730234615865843651857942052864
  fr : ∀ {Z n σ M X σ' M' P w P' w' dr dw}, I Z n σ M X → HanAt σ hb pb mb M P C w X → HanAt σ' hb pb mb M' P' C w' X → P'.id = P.id → Wrt M M' P.id w' dr dw → Keep X σ σ' → 0 ≤ dr → 0 ≤ dw → I Z (n + (dr + dw)) σ' M' X
  skip : ∀ {Z n σ M X g}, V[Z.length]? = some (g, 0) → I Z n σ M X → I (Z ++ [0]) n σ M X
  call : ∀ {fx Z n σ M P w X g x}, V[Z.length]? = some (g, x) → x ≠ 0 → Like P0 P → HanAt σ hb pb mb M P C w (fx ++ X) → I Z n σ M X → (∀ q ∈ fx, q ∉ X) → Ok (callV turnV (some f) [.i .u64 x] σ) fun r => ∃ y, r.1 = .i .u64 y ∧ ∃ M' X', HanAt r.2 hb pb mb M' P C w (fx ++ X') ∧ (∀ q ∈ fx, q ∉ X' ∧ r.2.blk q = σ.blk q) ∧ I (Z ++ [y]) n r.2 M' X'
section
variable {hb pb mb : Nat} {P0 : PoolS} {C : List Nat} {V : List (Nat × Int)} {f : Fn × List AV × List AV} {I : List Int → Int → AH O → MemS → List Nat → Prop} (T : Turner hb pb mb P0 C V f I)
include T
theorem turn_round {σ : AH O} {M : MemS} {P : PoolS} {w : List Int} {X : List Nat} {b x0 x1 tb : Nat} {Z : List Int} {n : Int} (h : HanAt σ hb pb mb M P C w (b :: x0 :: x1 :: tb :: X)) (L : Like P0 P) (hI : I Z n σ M X) (hX : ∀ q ∈ [b, x0, x1, tb], q ∉ X)
    (n0 : b ≠ x0) (n1 : b ≠ x1) (n2 : b ≠ tb) (lb : σ.blk b = some (.loop 71000 [(2, .p (some (.n x0, 0))), (3, .p (some (.n x1, 0)))] .ready)) {e0 e1 : TypeId} (l0 : σ.blk x0 = some (.cells true e0 [.p (some (.n hb, 0))])) (l1 : σ.blk x1 = some (.cells true e1 [.fn (some f)]))
    (hn : 0 ≤ n ∧ n ≤ 5 * Z.length) {g i : Nat} {x : Int} (hZ : V[Z.length]? = some (g, x)) (hv : vw P.E i = some (true, g, some x)) :
    Ok (handles_Handles__Turn_R0 [.p (some (.n b, 0)), .i .i64 ((i : Int) + 1)] σ) fun r => r.1 = .b true ∧ ∃ y n' M' P' w' X', HanAt r.2 hb pb mb M' P' C w' (b :: x0 :: x1 :: tb :: X') ∧ Like P P' ∧ vw P'.E i = some (true, g, some y) ∧ (∀ j, j ≠ i → vw P'.E j = vw P.E j) ∧ I (Z ++ [y]) n' r.2 M' X' ∧ n ≤ n' ∧ n' ≤ n + 4 ∧ (∀ q ∈ [b, x0, x1, tb], q ∉ X' ∧ r.2.blk q = σ.blk q) := by
  have q32 : Nat.beq 3 2 = false := rfl
  have hZl := (List.getElem?_eq_some_iff.1 hZ).1
  have hbn : ∀ q ∈ [b, x0, x1, tb], q ≠ hb := fun q hq e => h.nx (by subst e; simp at hq ⊢; omega)
  have hbb := hbn b (by simp)
  have hlt : ∀ q ∈ b :: x0 :: x1 :: tb :: X, q < σ.next := fun q hq => h.p.mi.lt q (by simp only [List.mem_cons] at hq ⊢; simp only [hq, or_true])
  simp (config := { maxSteps := 2000000 }) -implicitDefEqProofs (disch := (first | omega | rfl | assumption | (simp only [rsD]; first | omega | assumption))) only [handles_Handles__Turn_R0, handles_Handles__Turn_R0_c, roundW, busyL, lb, envOf, q32, l0, Nat.reduceAdd, Nat.reduceMul, Nat.reduceLT, Int.reduceToNat, Int.reduceAdd, Int.reduceSub, Int.reduceMul, rsU, rsC]
  generalize hσ : σ.put b (.loop _ _ _) = σ1
  have m1 : σ1.next = σ.next := by rw [← hσ]; rfl
  have lb1 : σ1.blk b = some (.loop 71000 [(2, .p (some (.n x0, 0))), (3, .p (some (.n x1, 0)))] .busy) := by rw [← hσ]; exact s_bs
  have o1 : ∀ q, q ≠ b → σ1.blk q = σ.blk q := fun q hq => by rw [← hσ]; exact s_bn hq
  clear hσ
  have c1 : Chg [b] σ σ1 := ⟨by omega, fun q hq hm => o1 q (by simpa using hm)⟩
  have h1 : HanAt σ1 hb pb mb M P C w (b :: x0 :: x1 :: tb :: X) := h.turn c1 (fun q hq => .inl (by simp at hq; simp [hq])) fun q hq => .inl hq
  have I1 : I Z (n + (0 + 0)) σ1 M X := T.fr hI (h.mono (by simp +contextual)) (h1.mono (by simp +contextual)) rfl (Wrt.refl h.p.now) ⟨by omega, fun q hq => o1 q fun e => hX b (by simp) (e ▸ hq)⟩ (by decide) (by decide)
  rw [Int.add_zero, Int.add_zero] at I1
  have cm := T.calm I1 hn.1 (by omega) (by omega)
  obtain ⟨e, he, htk, hg, hx⟩ := vw_some hv
  have hw := h.words
  obtain ⟨el, hbb1⟩ := h.b
  simp (config := { maxSteps := 2000000 }) -implicitDefEqProofs (disch := (first | omega | rfl | assumption | (simp only [rsD]; first | omega | assumption))) only [hbb1, Nat.reduceAdd, Nat.reduceMul, Nat.reduceLT, Int.reduceToNat, Int.reduceAdd, Int.reduceSub, Int.reduceMul, rsU, rsC]
  have g0 := pget_ok h1.p ⟨by omega, by omega⟩ (k := 0) he htk (by omega) (by omega)
  rw [show ((0 : Nat) : Int) = 0 from rfl] at g0
  refine Ok.step g0 fun q ⟨q1, M2, q2, q3, q4⟩ => ?_
  obtain ⟨q, σ2⟩ := q
  simp only at q1 q2 q4
  rw [List.getD_eq_getElem?_getD, hx] at q1
  simp only [Option.getD_some] at q1
  subst q1
  have h2 := h1.kp q2 q4
  have I2 : I Z (n + (2 + 0)) σ2 M2 X := T.fr I1 (h1.mono (by simp +contextual)) (h2.mono (by simp +contextual)) rfl q3 (q4.mono (by simp +contextual)) (by decide) (by decide)
  have k2 : ∀ q ∈ [b, x0, x1, tb], σ2.blk q = σ1.blk q := fun q hq => q4.blk q (by simp only [List.mem_cons, List.not_mem_nil, or_false] at hq ⊢; rcases hq with rfl | rfl | rfl | rfl <;> simp)
  have fin : ∀ (σ4 : AH O) (M4 : MemS) (P4 : PoolS) (w4 : List Int) (X4 : List Nat) (y : Int) (n4 : Int), HanAt σ4 hb pb mb M4 P4 C w4 (b :: x0 :: x1 :: tb :: X4) → Like P P4 → vw P4.E i = some (true, g, some y) → (∀ j, j ≠ i → vw P4.E j = vw P.E j) → I (Z ++ [y]) n4 σ4 M4 X4 → n ≤ n4 → n4 ≤ n + 4 → (∀ q ∈ [b, x0, x1, tb], q ∉ X4 ∧ σ4.blk q = σ1.blk q) →
      Ok (((markL σ4 b .ready).bind fun σ => some (AV.b true, σ) : Option (AV × AH O))) fun r => r.1 = .b true ∧ ∃ y n' M' P' w' X', HanAt r.2 hb pb mb M' P' C w' (b :: x0 :: x1 :: tb :: X') ∧ Like P P' ∧ vw P'.E i = some (true, g, some y) ∧ (∀ j, j ≠ i → vw P'.E j = vw P.E j) ∧ I (Z ++ [y]) n' r.2 M' X' ∧ n ≤ n' ∧ n' ≤ n + 4 ∧ (∀ q ∈ [b, x0, x1, tb], q ∉ X' ∧ r.2.blk q = σ.blk q) := by
    intro σ4 M4 P4 w4 X4 y n4 a1 a2 a3 a4 a5 a6 a7 a8
    have lb4 := (a8 b (by simp)).2.trans lb1
    simp (config := { maxSteps := 2000000 }) -implicitDefEqProofs (disch := (first | omega | rfl | assumption | (simp only [rsD]; first | omega | assumption))) only [markL, lb4, Nat.reduceAdd, Nat.reduceMul, Nat.reduceLT, Int.reduceToNat, Int.reduceAdd, Int.reduceSub, Int.reduceMul, rsU, rsC]
    have c4 : Chg [b] σ4 (σ4.put b (.loop 71000 [(2, .p (some (.n x0, 0))), (3, .p (some (.n x1, 0)))] .ready)) := ⟨by simp, fun q hq hm => s_bn (by simpa using hm)⟩
    have h4 := a1.turn (Y := b :: x0 :: x1 :: tb :: X4) c4 (fun q hq => .inl (by simp at hq; simp [hq])) fun q hq => .inl hq
    have I4 := T.fr a5 (a1.mono (by simp +contextual)) (h4.mono (by simp +contextual)) rfl (Wrt.refl a1.p.now) (show Keep X4 σ4 (σ4.put b (.loop 71000 [(2, .p (some (.n x0, 0))), (3, .p (some (.n x1, 0)))] .ready)) from ⟨by simp, fun q hq => s_bn fun e => (a8 b (by simp)).1 (e ▸ hq)⟩) (by decide) (by decide)
    rw [Int.add_zero, Int.add_zero] at I4
    refine Ok_some.2 ⟨rfl, y, n4, M4, P4, w4, X4, h4, a2, a3, a4, I4, a6, a7, fun q hq => ⟨(a8 q hq).1, ?_⟩⟩
    by_cases c : q = b
    · subst c
      show (σ4.put q _).blk q = _
      rw [s_bs, lb]
    · show (σ4.put b _).blk q = _
      rw [s_bn c, (a8 q hq).2, o1 q c]
  by_cases hz : x = 0
  · have d0 := s_eqT hz
    simp (config := { maxSteps := 2000000 }) -implicitDefEqProofs (disch := (first | omega | rfl | assumption | (simp only [rsD]; first | omega | assumption))) only [d0, Nat.reduceAdd, Nat.reduceMul, Nat.reduceLT, Int.reduceToNat, Int.reduceAdd, Int.reduceSub, Int.reduceMul, rsU, rsC]
    rw [hz] at hZ hv
    exact fin σ2 M2 P w X 0 (n + (2 + 0)) h2 (Like.refl P) hv (fun _ _ => rfl) (T.skip hZ I2) (by omega) (by omega) fun q hq => ⟨hX q hq, k2 q hq⟩
  · have d0 := s_eqF hz
    have c0 := (k2 x0 (by simp)).trans ((o1 x0 (fun e => n0 e.symm)).trans l0)
    have c1' := (k2 x1 (by simp)).trans ((o1 x1 (fun e => n1 e.symm)).trans l1)
    obtain ⟨el2, hbb2⟩ := h2.b
    simp (config := { maxSteps := 2000000 }) -implicitDefEqProofs (disch := (first | omega | rfl | assumption | (simp only [rsD]; first | omega | assumption))) only [d0, c0, c1', hbb2, Nat.reduceAdd, Nat.reduceMul, Nat.reduceLT, Int.reduceToNat, Int.reduceAdd, Int.reduceSub, Int.reduceMul, rsU, rsC]
    refine Ok.step (T.call (fx := [b, x0, x1, tb]) hZ hz L h2 I2 hX) fun r ⟨y, g1, M3, X3, h3, g3, I3⟩ => ?_
    obtain ⟨q, σ3⟩ := r
    simp only at g1 h3 g3 I3
    subst g1
    have e0' := (g3 x0 (by simp)).2.trans c0
    obtain ⟨el3, hbb3⟩ := h3.b
    have cm3 := T.calm I3 (by omega) (by simp; omega) (by simp; omega)
    simp (config := { maxSteps := 2000000 }) -implicitDefEqProofs (disch := (first | omega | rfl | assumption | (simp only [rsD]; first | omega | assumption))) only [e0', hbb3, Nat.reduceAdd, Nat.reduceMul, Nat.reduceLT, Int.reduceToNat, Int.reduceAdd, Int.reduceSub, Int.reduceMul, rsU, rsC]
    have gs := pset_ok h3.p ⟨by omega, by omega⟩ (k := 0) (x := y) he htk (by omega) (by omega)
    rw [show ((0 : Nat) : Int) = 0 from rfl] at gs
    refine Ok.step gs fun q ⟨s1, M4, w4, s2, s3, s4⟩ => ?_
    obtain ⟨q, σ4⟩ := q
    simp only at s1 s2 s4
    subst s1
    obtain ⟨h4, k4, v4, o4⟩ := h3.poke he htk s2 s4.head
    rw [show (some (true, e.gen, some y) : Option (Bool × Nat × Option Int)) = some (true, g, some y) by rw [hg]] at v4
    simp (config := { maxSteps := 2000000 }) -implicitDefEqProofs (disch := (first | omega | rfl | assumption | (simp only [rsD]; first | omega | assumption))) only [Nat.reduceAdd, Nat.reduceMul, Nat.reduceLT, Int.reduceToNat, Int.reduceAdd, Int.reduceSub, Int.reduceMul, rsU, rsC]
    have I4 := T.fr I3 (h3.mono (by simp +contextual)) (h4.mono (by simp +contextual)) rfl s3 (s4.mono (by simp +contextual)) (by decide) (by decide)
    refine fin σ4 M4 _ w4 X3 y _ h4 k4 v4 o4 I4 (by omega) (by omega) fun q hq => ⟨(g3 q hq).1, ?_⟩
    rw [s4.blk q (by simp only [List.mem_cons, List.not_mem_nil, or_false, List.cons_append, List.nil_append] at hq ⊢; rcases hq with rfl | rfl | rfl | rfl <;> simp), (g3 q hq).2, k2 q hq]
theorem hturn_ok {σ : AH O} {M : MemS} {w : List Int} {X : List Nat} (h : HanAt σ hb pb mb M P0 C w X) (hVv : ∀ (j i : Nat), C[j]? = some i → ∃ g x, V[j]? = some (g, x) ∧ vw P0.E i = some (true, g, some x)) (hI : I [] 0 σ M X) :
    Ok (handles_Handles__Turn [.p (some (.n hb, 0)), .fn (some f)] σ) fun r => r.1 = .tup [] ∧ ∃ Z n M' P' w' X', Z.length = C.length ∧ HanAt r.2 hb pb mb M' P' C w' X' ∧ Like P0 P' ∧ (∀ (j i : Nat), C[j]? = some i → vw P'.E i = some (true, (V.getD j (0, 0)).1, Z[j]?)) ∧ I Z n r.2 M' X' ∧ 0 ≤ n ∧ n ≤ 5 * C.length := by
  obtain ⟨el, hbb⟩ := h.b
  have hlt := h.lt
  have hltX : ∀ b ∈ X, b < σ.next := fun b hb => h.p.mi.lt b (by simp [hb])
  have hw := h.words
  have hcl := h.cl
  simp (config := { maxSteps := 2000000 }) -implicitDefEqProofs (disch := (first | omega | rfl | assumption | (simp only [rsD]; first | omega | assumption))) only [handles_Handles__Turn, handles_Handles__Turn_c, hbb, Nat.reduceAdd, Nat.reduceMul, Nat.reduceLT, Int.reduceToNat, Int.reduceAdd, Int.reduceSub, Int.reduceMul, rsU, rsC]
  generalize hσ : ((σ.bump 2).put σ.next (.cells true _ _)).put (σ.next + 1) (.cells true _ _) = σ1
  obtain ⟨E1, m1, b0, b1⟩ := box2 hσ
  clear hσ
  have h1 : HanAt σ1 hb pb mb M P0 C w X := h.turn (L := []) E1.chg (by simp) fun b hb => .inl hb
  refine Ok.step (htable_ok h1) fun r ⟨s1, E2⟩ => ?_
  obtain ⟨q, σ2⟩ := r
  simp only [tbl] at s1 E2
  subst s1
  have m2 := E2.next
  have c0 : σ2.blk σ.next = _ := (E2.blk _ (by omega)).trans b0
  have c1 : σ2.blk (σ.next + 1) = _ := (E2.blk _ (by omega)).trans b1
  have cb : σ2.blk hb = _ := (E2.blk _ (by omega)).trans ((E1.blk _ hlt).trans hbb)
  have ta := tall_ok (σ := σ2) (S := P0) (mb := mb) (nx := 1) (pv := 2) (C := C)
  simp only [tbl, chn] at ta
  simp (config := { maxSteps := 2000000 }) -implicitDefEqProofs (disch := (first | omega | rfl | assumption | (simp only [rsD]; first | omega | assumption))) only [c0, cb, ta, s_rangeV, getG, s_nf, Nat.reduceAdd, Nat.reduceMul, Nat.reduceLT, Int.reduceToNat, Int.reduceAdd, Int.reduceSub, Int.reduceMul, rsU, rsC]
  generalize hσ : ((((σ2.bump 2).put σ2.next (.cells true _ _)).put (σ2.next + 1) (.cells true _ _)).bump 1).put (σ2.next + 2) (.loop _ _ _) = σ3
  have m3 : σ3.next = σ2.next + 3 := by rw [← hσ]; rfl
  have o3 : ∀ b, b < σ2.next → σ3.blk b = σ2.blk b := fun b hb => by rw [← hσ]; simp -implicitDefEqProofs (disch := omega) only [s_bn, s_bs, s_kn, bump_blk]
  have dt : σ3.blk σ2.next = some (.cells true T_chain_Table (tblc P0 mb 1 2)) := by rw [← hσ]; simp -implicitDefEqProofs (disch := omega) only [s_bn, s_bs, s_kn, bump_blk]
  have dc : σ3.blk (σ2.next + 1) = some (.cells true T_chain_Chain (chnc C)) := by rw [← hσ]; simp -implicitDefEqProofs (disch := omega) only [s_bn, s_bs, s_kn, bump_blk]
  have dl : σ3.blk (σ2.next + 2) = some (.loop 71000 [(2, .p (some (.n σ.next, 0))), (3, .p (some (.n (σ.next + 1), 0)))] .ready) := by rw [← hσ]; exact s_bs
  clear hσ
  have E3 : Ext σ2 σ3 := ext_of (by omega) o3
  have E13 := (E1.trans E2).trans E3
  have h3 : HanAt σ3 hb pb mb M P0 C w ((σ2.next + 2) :: σ.next :: (σ.next + 1) :: σ2.next :: X) := h.turn (L := []) E13.chg (by simp) fun b hb => by
    simp only [List.mem_cons] at hb
    rcases hb with rfl | rfl | rfl | rfl | hb
    · exact .inr (by omega)
    · exact .inr (by omega)
    · exact .inr (by omega)
    · exact .inr (by omega)
    · exact .inl hb
  have hX3 : ∀ q ∈ [σ2.next + 2, σ.next, σ.next + 1, σ2.next], q ∉ X := fun q hq hm => by
    have := hltX q hm
    simp at hq
    omega
  have I3 : I [] 0 σ3 M X := by
    have := T.fr hI h (h3.mono (by simp +contextual)) rfl (Wrt.refl h.p.now) ⟨E13.next, fun q hq => E13.blk q (hltX q hq)⟩ (by decide) (by decide)
    simpa using this
  have vz : ∀ (j i : Nat), C[j]? = some i → V[j]? = some (V.getD j (0, 0)) ∧ vw P0.E i = some (true, (V.getD j (0, 0)).1, some (V.getD j (0, 0)).2) := fun j i hj => by
    obtain ⟨g, x, hg, hv⟩ := hVv j i hj
    rw [List.getD_eq_getElem?_getD, hg]
    exact ⟨rfl, hv⟩
  have tx := tallx_ok (ky := handles_Handles__Turn_R0) (b := σ2.next + 2) (pb := pb) (mb := mb) (nx := 1) (pv := 2) (id := P0.id) (W := P0.words) (C := C) (cb := σ2.next + 1) (tb := σ2.next)
    (fun k σ' M' => ∃ Z n P' w' X', Z.length = k ∧ HanAt σ' hb pb mb M' P' C w' ((σ2.next + 2) :: σ.next :: (σ.next + 1) :: σ2.next :: X') ∧ Like P0 P' ∧ (∀ (j i : Nat), C[j]? = some i → vw P'.E i = some (true, (V.getD j (0, 0)).1, if j < k then Z[j]? else some (V.getD j (0, 0)).2)) ∧ I Z n σ' M' X' ∧ 0 ≤ n ∧ n ≤ 5 * k ∧ ∀ q ∈ [σ2.next + 2, σ.next, σ.next + 1, σ2.next], q ∉ X' ∧ σ'.blk q = σ3.blk q)
    (by omega) (by omega) (by decide) (by omega) (fun k i σ4 M4 hk ⟨Z, n, P4, w4, X4, a1, a2, a3, a4, a5, a6, a7, a8⟩ => by
      subst a1
      obtain ⟨hz, _⟩ := vz _ _ hk
      have hv := a4 _ _ hk
      rw [if_neg (Nat.lt_irrefl _)] at hv
      have k0 := (a8 σ.next (by simp)).2.trans ((E3.blk _ (by omega)).trans c0)
      have k1 := (a8 (σ.next + 1) (by simp)).2.trans ((E3.blk _ (by omega)).trans c1)
      have kl := (a8 (σ2.next + 2) (by simp)).2.trans dl
      have kt := (a8 σ2.next (by simp)).2.trans dt
      refine (turn_round T a2 a3 a5 (fun q hq => (a8 q hq).1) (by omega) (by omega) (by omega) kl k0 k1 ⟨a6, a7⟩ hz hv).mono fun r ⟨g1, y, n', M5, P5, w5, X5, g2, g3, g4, g5, g6, g7, g8, g9⟩ => ?_
      have hzl := (List.getElem?_eq_some_iff.1 hz).1
      have cm := T.calm g6 (by omega) (by simp; omega) (by simp; omega)
      refine ⟨g1, M5, P5, w5, _, g2.p, (a3.trans g3).id, (a3.trans g3).words, g2.l, ⟨by omega, by omega⟩, ⟨T_chain_Table, ?_⟩, fun σ' M'' p q kp => ?_⟩
      · rw [(g9 σ2.next (by simp)).2, kt]; rfl
      · have h6 := g2.kp p kp
        have kp6 : Keep ((σ2.next + 2) :: σ.next :: (σ.next + 1) :: σ2.next :: X5) r.2 σ' := kp.tail
        have I6 := T.fr g6 (g2.mono (by simp +contextual)) (h6.mono (by simp +contextual)) rfl q (kp6.mono (by simp +contextual)) (by decide) (by decide)
        refine ⟨Z ++ [y], _, P5, w5, X5, by simp, h6, a3.trans g3, fun j i' hj => ?_, I6, by omega, by push_cast; omega, fun q hq => ⟨(g9 q hq).1, ?_⟩⟩
        · by_cases c : j = Z.length
          · subst c
            rw [hk] at hj
            cases hj
            rw [g4, if_pos (Nat.lt_succ_self _), List.getElem?_append_right (Nat.le_refl _), Nat.sub_self]; rfl
          · have hne : i' ≠ i := fun e => by
              subst e
              exact c (nodup_at h.l.nd hj hk)
            rw [g5 _ hne, a4 _ _ hj]
            by_cases cj : j < Z.length
            · rw [if_pos cj, if_pos (by omega), List.getElem?_append_left cj]
            · rw [if_neg cj, if_neg (by omega)]
        · rw [kp6.blk q (by simp only [List.mem_cons, List.not_mem_nil, or_false] at hq ⊢; rcases hq with rfl | rfl | rfl | rfl <;> simp), (g9 q hq).2, (a8 q hq).2])
    dc ⟨[], 0, P0, w, X, rfl, h3, Like.refl P0, fun j i hj => by rw [(vz j i hj).2]; simp, I3, by decide, by simp, fun q hq => ⟨hX3 q hq, rfl⟩⟩ (x := []) (y := [])
  refine Ok.step tx fun r ⟨u1, M6, Z, n, P6, w6, X6, a1, a2, a3, a4, a5, a6, a7, a8⟩ => ?_
  obtain ⟨q, σ6⟩ := r
  simp only at u1 a2 a5 a8
  subst u1
  have bl6 := (a8 (σ2.next + 2) (by simp)).2.trans dl
  simp (config := { maxSteps := 2000000 }) -implicitDefEqProofs (disch := (first | omega | rfl | assumption | (simp only [rsD]; first | omega | assumption))) only [lstN, bl6, LSt.code, Nat.reduceAdd, Nat.reduceMul, Nat.reduceLT, Int.reduceToNat, Int.reduceAdd, Int.reduceSub, Int.reduceMul, rsU, rsC]
  have ck : Chg [σ2.next + 2] σ6 (σ6.kill (σ2.next + 2)) := ⟨by simp, fun q hq hm => s_kn (by simpa using hm)⟩
  have h7 : HanAt (σ6.kill (σ2.next + 2)) hb pb mb M6 P6 C w6 X6 := a2.turn ck (fun q hq => .inl (by simp at hq; simp [hq])) fun q hq => .inl (by simp [hq])
  have I7 := T.fr a5 (a2.mono (by simp +contextual)) h7 rfl (Wrt.refl a2.p.now) (show Keep X6 σ6 (σ6.kill (σ2.next + 2)) from ⟨by simp, fun q hq => s_kn fun e => (a8 (σ2.next + 2) (by simp)).1 (e ▸ hq)⟩) (by decide) (by decide)
  rw [Int.add_zero, Int.add_zero] at I7
  refine Ok_some.2 ⟨rfl, Z, n, M6, P6, w6, X6, a1, h7, a3, fun j i hj => ?_, I7, a6, a7⟩
  rw [a4 j i hj, if_pos (List.getElem?_eq_some_iff.1 hj).1]
end
theorem hturn_nil {σ : AH O} {p : Option (Bid × Nat)} : Ok (handles_Handles__Turn [.p p, .fn none] σ) fun r => r.1 = .tup [] ∧ Ext σ r.2 := by
  simp (config := { maxSteps := 2000000 }) -implicitDefEqProofs (disch := (first | omega | rfl | assumption | (simp only [rsD]; first | omega | assumption))) only [handles_Handles__Turn, handles_Handles__Turn_c, Nat.reduceAdd, Nat.reduceMul, Nat.reduceLT, Int.reduceToNat, Int.reduceAdd, Int.reduceSub, Int.reduceMul, rsU, rsC]
  exact Ok_some.2 ⟨rfl, (((Ext.refl σ).bump 2).put (Nat.le_refl _) _).put (by simp) _⟩
end Go.Abs.Try
set_option linter.unusedSimpArgs false
set_option linter.unusedVariables false
set_option linter.unusedSectionVars false
set_option maxHeartbeats 2000000
namespace Go.Abs.Try
open Go Go.Abs
variable {O : Type}

def htoldEnv (x0 x1 ob : Nat) : List (Nat × AV) := [(2, .p (some (.n x0, 0))), (3, .p (some (.n x1, 0))), (5, .p (some (.n ob, 0)))]
/-- what was told stands in the slice a, which stands in the box ob; the loop's record is block b1 -/
structure HTl (σ : AH O) (hb pb mb : Nat) (M : MemS) (P : PoolS) (C : List Nat) (w : List Int) (X : List Nat) (x0 x1 ob b1 : Nat) (a : SA) (l : List Int) : Prop where
  p : HanAt σ hb pb mb M P C w (ob :: b1 :: (SA.bk a ++ X))
  o : σ.blk ob = some (.cells true 29 [.sl a l.length])
  own : OwnS σ 3 1 a l.length (l.map (AV.i .i64))
  l1 : σ.blk b1 = some (.loop 22000 (htoldEnv x0 x1 ob) .ready)
  n1 : ob ≠ b1
  n2 : ob ∉ SA.bk a ∧ b1 ∉ SA.bk a
  n3 : ob ∉ X ∧ b1 ∉ X
  n4 : ∀ b ∈ SA.bk a, b ∉ X
section
variable {σ : AH O} {hb pb mb : Nat} {M : MemS} {P : PoolS} {C : List Nat} {w : List Int} {X : List Nat} {x0 x1 ob b1 : Nat} {a : SA} {l : List Int}
theorem HTl.lX (h : HTl σ hb pb mb M P C w X x0 x1 ob b1 a l) : ∀ q ∈ ob :: b1 :: (SA.bk a ++ X), q < σ.next := fun q hq => h.p.p.mi.lt q (by simp only [List.mem_cons, hq, or_true])
theorem htold_round (h : HTl σ hb pb mb M P C w X x0 x1 ob b1 a l) (hl : l.length ≤ 100) {t : Int} :
    Ok (law18_told_R0 [.p (some (.n b1, 0)), .i .i64 t] σ) fun r => r.1 = .b true ∧ ∃ a', HTl r.2 hb pb mb M P C w X x0 x1 ob b1 a' (l ++ [t]) ∧ Keep X σ r.2 := by
  have hbl := h.l1
  have hbo := h.o
  simp only [htoldEnv] at hbl
  have hgl := h.n1
  have hgl2 : b1 ≠ ob := fun e => hgl e.symm
  have q32 : Nat.beq 3 2 = false := rfl
  have q52 : Nat.beq 5 2 = false := rfl
  have q53 : Nat.beq 5 3 = false := rfl
  have hltX := h.lX
  have hltl : b1 < σ.next := hltX _ (by simp)
  have hlto : ob < σ.next := hltX _ (by simp)
  simp (config := { maxSteps := 2000000 }) -implicitDefEqProofs (disch := (first | omega | rfl | assumption | (simp only [rsD]; first | omega | assumption))) only [law18_told_R0, law18_told_R0_c, roundW, busyL, hbl, envOf, hbo, q32, q52, q53, Nat.reduceAdd, Nat.reduceMul, Nat.reduceLT, Int.reduceToNat, Int.reduceAdd, Int.reduceSub, Int.reduceMul, rsU, rsC]
  generalize hσ : ((σ.put b1 _).bump 2).put σ.next (.cells true _ _) = σ3
  have n3 : σ3.next = σ.next + 2 := by rw [← hσ]; rfl
  have l3 : σ3.blk b1 = some (.loop 22000 (htoldEnv x0 x1 ob) .busy) := by rw [← hσ, s_bn (by omega)]; exact s_bs
  have o3 : ∀ b, b ≠ b1 → b ≠ σ.next → σ3.blk b = σ.blk b := fun b hb hb2 => by rw [← hσ, s_bn hb2]; exact s_bn hb
  clear hσ
  have og3 : OwnS σ3 3 1 a l.length (l.map (AV.i .i64)) := h.own.of (by omega) fun b hb => o3 b (fun e => h.n2.2 (e ▸ hb)) (by have := h.own.lt b hb; omega)
  refine Ok.step (app_ok (nid := σ.next + 1) og3 (fun hm => by have := h.own.lt _ hm; omega) (by omega) (show ([.i .i64 t] : List AV).length = 1 * 1 from rfl)) fun q ⟨a2, m1, m2, m3, m4, m5⟩ => ?_
  obtain ⟨q, σ4⟩ := q
  simp only at m1 m2 m3 m4
  subst m1
  have g4 : σ4.blk ob = some (.cells true 29 [.sl a l.length]) := by rw [m4 ob (by omega) h.n2.1, o3 ob hgl (by omega)]; exact hbo
  have l4 : σ4.blk b1 = _ := (m4 b1 (by omega) h.n2.2).trans l3
  simp (config := { maxSteps := 2000000 }) -implicitDefEqProofs (disch := (first | omega | rfl | assumption | (simp only [rsD]; first | omega | assumption))) only [g4, l4, markL, hgl2, Nat.reduceAdd, Nat.reduceMul, Nat.reduceLT, Int.reduceToNat, Int.reduceAdd, Int.reduceSub, Int.reduceMul, rsU, rsC]
  generalize hσ : (σ4.put ob _).put b1 _ = σ5
  have n5 : σ5.next = σ4.next := by rw [← hσ]; rfl
  have l5 : σ5.blk b1 = some (.loop 22000 (htoldEnv x0 x1 ob) .ready) := by rw [← hσ]; exact s_bs
  have g5 : σ5.blk ob = some (.cells true 29 [.sl a2 (l.length + 1)]) := by rw [← hσ, s_bn hgl]; exact s_bs
  have o5 : ∀ b, b ≠ b1 → b ≠ ob → σ5.blk b = σ4.blk b := fun b hb hb2 => by rw [← hσ, s_bn hb]; exact s_bn hb2
  clear hσ
  have oa : ∀ b, b < σ.next → b ≠ b1 → b ≠ ob → b ∉ SA.bk a → σ5.blk b = σ.blk b := fun b hb h1 h2 h3 => by rw [o5 b h1 h2, m4 b (by omega) h3, o3 b h1 (by omega)]
  have chg : Chg (b1 :: ob :: SA.bk a) σ σ5 := ⟨by omega, fun b hb hm => by
    simp only [List.mem_cons, not_or] at hm
    exact oa b hb hm.1 hm.2.1 hm.2.2⟩
  have hX : ∀ b ∈ X, b < σ.next := fun b hb => hltX _ (by simp [hb])
  have p5 := h.p.turn (Y := ob :: b1 :: (SA.bk a2 ++ X)) chg (fun b hb => .inl (by
    simp only [List.mem_cons] at hb
    rcases hb with rfl | rfl | hb
    · simp
    · simp
    · simp [hb])) fun b hb => by
    simp only [List.mem_cons, List.mem_append] at hb
    rcases hb with rfl | rfl | hb | hb
    · exact .inl (by simp)
    · exact .inl (by simp)
    · have := m5 b hb; exact .inr (by omega)
    · exact .inl (by simp [hb])
  refine Ok_some.2 ⟨rfl, a2, ⟨p5, ?_, ?_, l5, hgl, ⟨fun hm => ?_, fun hm => ?_⟩, h.n3, fun b hb hm => ?_⟩, ⟨(by show σ.next ≤ σ5.next; omega), fun b hb => oa b (hX b hb) (fun e => h.n3.2 (e ▸ hb)) (fun e => h.n3.1 (e ▸ hb)) (fun hm => h.n4 b hm hb)⟩⟩
  · simp only [List.length_append, List.length_cons, List.length_nil]; exact g5
  · simp only [List.length_append, List.length_cons, List.length_nil, List.map_append, List.map_cons, List.map_nil]
    exact m2.of (show σ4.next ≤ σ5.next by omega) fun b hb => by have := m5 b hb; exact o5 b (by omega) (by omega)
  · have := m5 _ hm; omega
  · have := m5 _ hm; omega
  · have := m5 _ hb; have := hX b hm; omega
theorem HTl.turn {σ' : AH O} {M' : MemS} {Z : List Nat} (h : HTl σ hb pb mb M P C w X x0 x1 ob b1 a l)
    (hp : HanAt σ' hb pb mb M' P C w (ob :: b1 :: (SA.bk a ++ Z))) (hk : Keep (ob :: b1 :: SA.bk a) σ σ') (hz : ∀ b ∈ Z, b ∈ X ∨ σ.next ≤ b) : HTl σ' hb pb mb M' P C w Z x0 x1 ob b1 a l := by
  have hl := h.lX
  have key : ∀ b, b < σ.next → b ∉ X → b ∉ Z := fun b hb hx hm => by
    rcases hz b hm with g | g
    · exact hx g
    · omega
  exact ⟨hp, (hk.blk _ (by simp)).trans h.o, h.own.of hk.next fun b hb => hk.blk b (by simp [hb]), (hk.blk _ (by simp)).trans h.l1, h.n1, h.n2, ⟨key _ (hl _ (by simp)) h.n3.1, key _ (hl _ (by simp)) h.n3.2⟩, fun b hb => key b (h.own.lt b hb) (h.n4 b hb)⟩
theorem HTl.chg {σ' : AH O} {Z K : List Nat} (h : HTl σ hb pb mb M P C w X x0 x1 ob b1 a l)
    (hc : Chg K σ σ') (hK : ∀ b ∈ K, b ∈ X ∨ σ.next ≤ b) (hz : ∀ b ∈ Z, b ∈ X ∨ (σ.next ≤ b ∧ b < σ'.next)) : HTl σ' hb pb mb M P C w Z x0 x1 ob b1 a l := by
  have hl := h.lX
  have hK2 : ∀ b, b < σ.next → b ∉ X → b ∉ K := fun b hb hx hm => by
    rcases hK b hm with g | g
    · exact hx g
    · omega
  refine h.turn (h.p.turn hc (fun b hb => ?_) fun b hb => ?_) ⟨hc.next, fun b hb => ?_⟩ fun b hb => ?_
  · rcases hK b hb with g | g
    · exact .inl (by simp [g])
    · exact .inr g
  · simp only [List.mem_cons, List.mem_append] at hb
    rcases hb with rfl | rfl | hb | hb
    · exact .inl (by simp)
    · exact .inl (by simp)
    · exact .inl (by simp [hb])
    · rcases hz b hb with g | g
      · exact .inl (by simp [g])
      · exact .inr g
  · simp only [List.mem_cons] at hb
    rcases hb with rfl | rfl | hb
    · exact hc.blk _ (hl _ (by simp)) (hK2 _ (hl _ (by simp)) h.n3.1)
    · exact hc.blk _ (hl _ (by simp)) (hK2 _ (hl _ (by simp)) h.n3.2)
    · exact hc.blk _ (h.own.lt b hb) (hK2 _ (h.own.lt b hb) (h.n4 b hb))
  · rcases hz b hb with g | g
    · exact .inl g
    · exact .inr g.1
/-- a token is told -/
theorem tokens_round (h : HTl σ hb pb mb M P C w X x0 x1 ob b1 a l) (hm : M.met.r + 1000 < 85070591730234615865843651857942052864 ∧ M.met.w + 1000 < 85070591730234615865843651857942052864) (hl : l.length ≤ 100) {fb b2 cap i g : Nat} {x : Option Int} (hfX : fb ∈ X) (h2X : b2 ∈ X) (hcX : cap ∈ X) (hne : fb ≠ b2) (hnc : cap ≠ b2)
    {ef ec : TypeId} (hfb : σ.blk fb = some (.cells true ef [.fn (some (.yield b1, [], []))])) (hb2 : σ.blk b2 = some (.loop 136000 [(1, .p (some (.n cap, 0))), (2, .p (some (.n fb, 0)))] .ready)) (hcap : σ.blk cap = some (.cells true ec [.p (some (.n hb, 0))])) (hv : vw P.E i = some (true, g, x)) :
    Ok (handles_Handles__Tokens_1_R0 law18_told_R0 [.p (some (.n b2, 0)), .i .i64 ((i : Int) + 1)] σ) fun r => r.1 = .b true ∧ ∃ M' a', HTl r.2 hb pb mb M' P C w X x0 x1 ob b1 a' (l ++ [tok i g]) ∧ Wrt M M' P.id w 1 0 ∧ Keep X σ r.2 := by
  have hlX := h.lX
  have hlt : b2 < σ.next := hlX _ (by simp [h2X])
  have q21 : Nat.beq 2 1 = false := rfl
  obtain ⟨e, he, htk, hg, hx⟩ := vw_some hv
  obtain ⟨el, hbb⟩ := h.p.b
  have hnb : hb ≠ b2 := fun e => h.p.nx (by subst e; simp [h2X])
  have hi := vw_len hv
  have hfew := h.p.few
  have hgen := h.p.gen e (List.mem_of_getElem? he)
  rw [hg] at hgen
  simp (config := { maxSteps := 2000000 }) -implicitDefEqProofs (disch := (first | omega | rfl | assumption | (simp only [rsD]; first | omega | assumption))) only [handles_Handles__Tokens_1_R0, handles_Handles__Tokens_1_R0_c, roundW, busyL, hb2, envOf, hfb, hcap, q21, hbb, Nat.reduceAdd, Nat.reduceMul, Nat.reduceLT, Int.reduceToNat, Int.reduceAdd, Int.reduceSub, Int.reduceMul, rsU, rsC]
  generalize hσ : σ.put b2 _ = σ1
  have n1 : σ1.next = σ.next := by rw [← hσ]; rfl
  have bb1 : σ1.blk b2 = some (.loop 136000 [(1, .p (some (.n cap, 0))), (2, .p (some (.n fb, 0)))] .busy) := by rw [← hσ]; exact s_bs
  have o1 : ∀ b, b ≠ b2 → σ1.blk b = σ.blk b := fun b hb => by rw [← hσ]; exact s_bn hb
  clear hσ
  have h1 := h.chg (Z := X) (K := [b2]) (σ' := σ1) ⟨by omega, fun b hb hm => o1 b (by simpa using hm)⟩ (fun b hb => .inl (by simp at hb; rw [hb]; exact h2X)) fun b hb => .inl hb
  refine Ok.step (pgen_ok h1.p.p ⟨by omega, by omega⟩ he) fun r ⟨g1, M2, g2, g3, g4⟩ => ?_
  obtain ⟨q, σ2⟩ := r
  simp only at g1 g2 g4
  rw [hg] at g1
  subst g1
  have h2 := h1.turn (h1.p.kp g2 g4) (g4.mono (by simp +contextual)) fun b hb => .inl hb
  have f2 : σ2.blk fb = _ := (g4.blk _ (by simp [hfX])).trans ((o1 fb hne).trans hfb)
  have tk := token_ok (σ := σ2) (i := i) (g := g) (by omega) (by omega)
  simp (config := { maxSteps := 2000000 }) -implicitDefEqProofs (disch := (first | omega | rfl | assumption | (simp only [rsD]; first | omega | assumption))) only [f2, tk, s_callY, getG, Nat.reduceAdd, Nat.reduceMul, Nat.reduceLT, Int.reduceToNat, Int.reduceAdd, Int.reduceSub, Int.reduceMul, rsU, rsC]
  refine Ok.step (htold_round h2 hl) fun r ⟨k1, a', k2, k3⟩ => ?_
  obtain ⟨q, σ3⟩ := r
  simp only at k1 k2 k3
  subst k1
  have bb3 : σ3.blk b2 = _ := (k3.blk _ h2X).trans ((g4.blk _ (by simp [h2X])).trans bb1)
  simp (config := { maxSteps := 2000000 }) -implicitDefEqProofs (disch := (first | omega | rfl | assumption | (simp only [rsD]; first | omega | assumption))) only [bb3, markL, Nat.reduceAdd, Nat.reduceMul, Nat.reduceLT, Int.reduceToNat, Int.reduceAdd, Int.reduceSub, Int.reduceMul, rsU, rsC]
  refine Ok_some.2 ⟨rfl, M2, a', k2.chg (Z := X) (K := [b2]) ⟨by simp, fun b hb hm => by simp at hm; simp -implicitDefEqProofs (disch := omega) only [s_bn, s_bs, s_kn, bump_blk]⟩ (fun b hb => .inl (by simp at hb; rw [hb]; exact h2X)) (fun b hb => .inl hb), g3, ⟨by have := k3.next; have := g4.next; simp only [put_next]; omega, fun b hb => ?_⟩⟩
  by_cases hbb : b = b2
  · subst hbb; rw [s_bs, hb2]
  · rw [s_bn hbb, k3.blk b hb, g4.blk b (by simp [hb]), o1 b hbb]
end
/-- the tokens of a chain, by their generations -/
def toks : List Nat → List Nat → List Int := List.zipWith tok
theorem told18_ok {σ : AH O} {hb pb mb : Nat} {M : MemS} {P : PoolS} {C : List Nat} {w : List Int} {X : List Nat} (h : HanAt σ hb pb mb M P C w X) (hm : M.met.r + 2000 < 85070591730234615865843651857942052864 ∧ M.met.w + 2000 < 85070591730234615865843651857942052864) (hl : C.length ≤ 100) {G : List Nat} (hG : G.length = C.length) (hGv : ∀ (j i : Nat), C[j]? = some i → ∃ g x, G[j]? = some g ∧ vw P.E i = some (true, g, x)) :
    Ok (law18_told [.p (some (.n hb, 0))] σ) fun r => ∃ a M', r.1 = .tup [.sl a C.length, .b true] ∧ HanAt r.2 hb pb mb M' P C w (SA.bk a ++ X) ∧ OwnS r.2 3 1 a C.length ((toks C G).map (AV.i .i64)) ∧ Keep X σ r.2 := by
  have hlt := h.lt
  have hltX : ∀ q ∈ X, q < σ.next := fun q hq => h.p.mi.lt q (by simp [hq])
  have hw := h.words
  have hcl := h.cl
  obtain ⟨el, hbb⟩ := h.b
  have q21 : Nat.beq 2 1 = false := rfl
  simp (config := { maxSteps := 2000000 }) -implicitDefEqProofs (disch := (first | omega | rfl | assumption | (simp only [rsD]; first | omega | assumption))) only [law18_told, law18_told_c, handles_Handles__Tokens, handles_Handles__Tokens_c, s_rangeV, getG, s_nf, Nat.reduceAdd, Nat.reduceMul, Nat.reduceLT, Int.reduceToNat, Int.reduceAdd, Int.reduceSub, Int.reduceMul, rsU, rsC]
  generalize hσ : AH.put _ (σ.next + 2 + 1 + 1) (.loop _ _ _) = σ1
  have n1 : σ1.next = σ.next + 5 := by rw [← hσ]; rfl
  have o1 : ∀ b, b < σ.next → σ1.blk b = σ.blk b := fun b hb => by rw [← hσ]; simp -implicitDefEqProofs (disch := omega) only [s_bn, s_bs, s_kn, bump_blk]
  have b0 : σ1.blk σ.next = some (.cells true 29 [.sl .nil 0]) := by rw [← hσ]; simp -implicitDefEqProofs (disch := omega) only [s_bn, s_bs, s_kn, bump_blk]
  have b1 : σ1.blk (σ.next + 1) = some (.cells true 4 [.b false]) := by rw [← hσ]; simp -implicitDefEqProofs (disch := omega) only [s_bn, s_bs, s_kn, bump_blk]
  have bc : σ1.blk (σ.next + 2) = some (.cells true 25 [.p (some (.n hb, 0))]) := by rw [← hσ]; simp -implicitDefEqProofs (disch := omega) only [s_bn, s_bs, s_kn, bump_blk]
  have bo : σ1.blk (σ.next + 2 + 1) = some (.cells true 29 [.sl .nil 0]) := by rw [← hσ]; simp -implicitDefEqProofs (disch := omega) only [s_bn, s_bs, s_kn, bump_blk]
  have bl : σ1.blk (σ.next + 2 + 1 + 1) = some (.loop 22000 (htoldEnv σ.next (σ.next + 1) (σ.next + 2 + 1)) .ready) := by rw [← hσ]; exact s_bs
  clear hσ
  have E1 : Ext σ σ1 := ext_of (by omega) o1
  have hbb1 := (E1.blk _ hlt).trans hbb
  simp (config := { maxSteps := 2000000 }) -implicitDefEqProofs (disch := (first | omega | rfl | assumption | (simp only [rsD]; first | omega | assumption))) only [handles_Handles__Tokens_1, handles_Handles__Tokens_1_c, bc, hbb1, Nat.reduceAdd, Nat.reduceMul, Nat.reduceLT, Int.reduceToNat, Int.reduceAdd, Int.reduceSub, Int.reduceMul, rsU, rsC]
  generalize hσ : (σ1.bump 1).put σ1.next (.cells true _ _) = σ2
  obtain ⟨E2, c2, n2⟩ := boxed hσ
  clear hσ
  have h2 : HanAt σ2 hb pb mb M P C w X := h.turn (L := []) (E1.trans E2).chg (by simp) fun b hb => .inl hb
  refine Ok.step (htable_ok h2) fun r ⟨s1, E3⟩ => ?_
  obtain ⟨q, σ3⟩ := r
  simp only [tbl] at s1 E3
  subst s1
  have n3 := E3.next
  have bc3 : σ3.blk (σ.next + 2) = _ := (E3.blk _ (by omega)).trans ((E2.blk _ (by omega)).trans bc)
  have hbb3 : σ3.blk hb = _ := (E3.blk _ (by omega)).trans ((E2.blk _ (by omega)).trans hbb1)
  have ta := tall_ok (σ := σ3) (S := P) (mb := mb) (nx := 1) (pv := 2) (C := C)
  simp only [tbl, chn] at ta
  simp (config := { maxSteps := 2000000 }) -implicitDefEqProofs (disch := (first | omega | rfl | assumption | (simp only [rsD]; first | omega | assumption))) only [bc3, hbb3, ta, s_rangeV, getG, s_nf, Nat.reduceAdd, Nat.reduceMul, Nat.reduceLT, Int.reduceToNat, Int.reduceAdd, Int.reduceSub, Int.reduceMul, rsU, rsC]
  generalize hσ : AH.put _ (σ3.next + 2) (.loop _ _ _) = σ4
  have n4 : σ4.next = σ3.next + 3 := by rw [← hσ]; rfl
  have o4 : ∀ b, b < σ3.next → σ4.blk b = σ3.blk b := fun b hb => by rw [← hσ]; simp -implicitDefEqProofs (disch := omega) only [s_bn, s_bs, s_kn, bump_blk]
  have bt4 : σ4.blk σ3.next = some (.cells true T_chain_Table (tblc P mb 1 2)) := by rw [← hσ]; simp -implicitDefEqProofs (disch := omega) only [s_bn, s_bs, s_kn, bump_blk]
  have bc4 : σ4.blk (σ3.next + 1) = some (.cells true T_chain_Chain (chnc C)) := by rw [← hσ]; simp -implicitDefEqProofs (disch := omega) only [s_bn, s_bs, s_kn, bump_blk]
  have bl4 : σ4.blk (σ3.next + 2) = some (.loop 136000 [(1, .p (some (.n (σ.next + 2), 0))), (2, .p (some (.n σ1.next, 0)))] .ready) := by rw [← hσ]; exact s_bs
  clear hσ
  have E4 : Ext σ3 σ4 := ext_of (by omega) o4
  have E14 := (E2.trans E3).trans E4
  have bf4 : σ4.blk σ1.next = _ := (E4.blk _ (by omega)).trans ((E3.blk _ (by omega)).trans c2)
  have h4 : HanAt σ4 hb pb mb M P C w ((σ.next + 2 + 1) :: (σ.next + 2 + 1 + 1) :: (SA.bk .nil ++ ((σ3.next + 2) :: σ3.next :: σ1.next :: (σ.next + 2) :: σ.next :: (σ.next + 1) :: X))) := h.turn (L := []) (E1.trans E14).chg (by simp) fun b hb => by
    simp only [SA.bk, List.nil_append, List.mem_cons] at hb
    rcases hb with rfl | rfl | rfl | rfl | rfl | rfl | rfl | rfl | hb
    · exact .inr (by omega)
    · exact .inr (by omega)
    · exact .inr (by omega)
    · exact .inr (by omega)
    · exact .inr (by omega)
    · exact .inr (by omega)
    · exact .inr (by omega)
    · exact .inr (by omega)
    · exact .inl hb
  have nX : ∀ b, σ.next ≤ b → b ∉ X := fun b hb hmm => by have := hltX b hmm; omega
  have n5 : ∀ y, y = σ.next + 2 + 1 ∨ y = σ.next + 2 + 1 + 1 → y ∉ ((σ3.next + 2) :: σ3.next :: σ1.next :: (σ.next + 2) :: σ.next :: (σ.next + 1) :: X) := fun y hy hmm => by
    simp only [List.mem_cons] at hmm
    rcases hmm with e | e | e | e | e | e | e
    · omega
    · omega
    · omega
    · omega
    · omega
    · omega
    · exact nX y (by omega) e
  have t4 : HTl σ4 hb pb mb M P C w ((σ3.next + 2) :: σ3.next :: σ1.next :: (σ.next + 2) :: σ.next :: (σ.next + 1) :: X) σ.next (σ.next + 1) (σ.next + 2 + 1) (σ.next + 2 + 1 + 1) .nil [] :=
    ⟨h4, (E14.blk _ (by omega)).trans bo, OwnS.nil _ _ _, (E14.blk _ (by omega)).trans bl, by omega, by simp [SA.bk], ⟨n5 _ (.inl rfl), n5 _ (.inr rfl)⟩, by simp [SA.bk]⟩
  have tl : ∀ k, k ≤ C.length → (toks (C.take k) (G.take k)).length = k := fun k hk => by
    unfold toks; simp; omega
  have tx := tallr_ok (ky := handles_Handles__Tokens_1_R0 law18_told_R0) (b := σ3.next + 2) (pb := pb) (mb := mb) (nx := 1) (pv := 2) (S := P) (w := w) (C := C) (cb := σ3.next + 1) (tb := σ3.next)
    (fun k σ' M' => ∃ a, HTl σ' hb pb mb M' P C w ((σ3.next + 2) :: σ3.next :: σ1.next :: (σ.next + 2) :: σ.next :: (σ.next + 1) :: X) σ.next (σ.next + 1) (σ.next + 2 + 1) (σ.next + 2 + 1 + 1) a (toks (C.take k) (G.take k)) ∧ Keep ((σ3.next + 2) :: σ3.next :: σ1.next :: (σ.next + 2) :: σ.next :: (σ.next + 1) :: X) σ4 σ' ∧ M'.met.r ≤ M.met.r + 2 * k ∧ M'.met.w = M.met.w)
    (by omega) (by omega) (by decide) h.l (by omega) (fun k i σ5 M5 hk ⟨a5, t5, k5, r5, w5⟩ => by
      have hkC := (List.getElem?_eq_some_iff.1 hk).1
      obtain ⟨g, x, hg, hv⟩ := hGv k i hk
      refine (tokens_round t5 ⟨by omega, by omega⟩ (by rw [tl k (by omega)]; omega) (fb := σ1.next) (b2 := σ3.next + 2) (cap := σ.next + 2) (i := i) (g := g) (by simp) (by simp) (by simp) (by omega) (by omega) ((k5.blk _ (by simp)).trans bf4) ((k5.blk _ (by simp)).trans bl4) ((k5.blk _ (by simp)).trans ((E4.blk _ (by omega)).trans bc3)) hv).mono fun r ⟨g1, M6, a6, t6, w6, k6⟩ => ?_
      have r6 := w6.r
      have v6 := w6.w
      refine ⟨g1, M6, _, t6.p.p, ⟨by omega, by omega⟩, ⟨_, (k6.blk _ (by simp)).trans ((k5.blk _ (by simp)).trans bt4)⟩, fun σ' M'' p q kp => ⟨a6, ?_, (k5.trans k6).trans (kp.mono (by simp +contextual)), by have := q.r; push_cast; omega, by have := q.w; omega⟩⟩
      have et : toks (C.take (k + 1)) (G.take (k + 1)) = toks (C.take k) (G.take k) ++ [tok i g] := by
        have hgl := (List.getElem?_eq_some_iff.1 hg).1
        unfold toks
        rw [List.take_succ_eq_append_getElem hkC, List.take_succ_eq_append_getElem hgl, List.zipWith_append (by simp; omega)]
        rw [List.getElem?_eq_getElem hkC] at hk
        rw [List.getElem?_eq_getElem hgl] at hg
        cases hk; cases hg; rfl
      rw [et]
      exact t6.turn (t6.p.kp p kp) (kp.mono fun b hb => by
        simp only [List.mem_cons] at hb
        rcases hb with rfl | rfl | hb
        · simp
        · simp
        · simp [hb]) fun b hb => .inl hb)
    h4.p bc4 ⟨.nil, t4, Keep.refl _ _, by omega, rfl⟩ (x := []) (y := [])
  simp only [List.take_length] at tx
  have eG : G.take C.length = G := List.take_of_length_le (by omega)
  rw [eG] at tx
  refine Ok.step tx fun r ⟨u1, M6, a6, t6, k6, r6, w6⟩ => ?_
  obtain ⟨q, σ6⟩ := r
  simp only at u1 t6 k6
  subst u1
  have n6 := k6.next
  have bl6 : σ6.blk (σ3.next + 2) = _ := (k6.blk _ (by simp)).trans bl4
  have lb6 := t6.l1
  simp only [htoldEnv] at lb6
  have tl' : (toks C G).length = C.length := by unfold toks; simp; omega
  have bo6 := t6.o
  rw [tl'] at bo6
  have b06 : σ6.blk σ.next = _ := (k6.blk _ (by simp)).trans ((E14.blk _ (by omega)).trans b0)
  have b16 : σ6.blk (σ.next + 1) = _ := (k6.blk _ (by simp)).trans ((E14.blk _ (by omega)).trans b1)
  simp (config := { maxSteps := 2000000 }) -implicitDefEqProofs (disch := (first | omega | rfl | assumption | (simp only [rsD]; first | omega | assumption))) only [lstN, bl6, lb6, LSt.code, bo6, b06, b16, s_kn, Nat.reduceAdd, Nat.reduceMul, Nat.reduceLT, Int.reduceToNat, Int.reduceAdd, Int.reduceSub, Int.reduceMul, rsU, rsC]
  have hna : ∀ b ∈ SA.bk a6, b ≠ σ.next ∧ b ≠ σ.next + 1 ∧ b ≠ σ.next + 2 + 1 + 1 ∧ b ≠ σ3.next + 2 := fun b hb => ⟨fun e => t6.n4 b hb (by simp [e]), fun e => t6.n4 b hb (by simp [e]), fun e => t6.n2.2 (e ▸ hb), fun e => t6.n4 b hb (by simp [e])⟩
  refine Ok_some.2 ⟨a6, M6, rfl, t6.p.turn (L := [σ3.next + 2, σ.next + 2 + 1 + 1, σ.next, σ.next + 1]) ⟨by simp, fun b hb hm => ?_⟩ (fun b hb => .inl ?_) (fun b hb => .inl ?_), ?_, ⟨by simp; omega, fun b hb => ?_⟩⟩
  · simp only [List.mem_cons, List.not_mem_nil, or_false, not_or] at hm
    rw [s_bn hm.2.2.2, s_bn hm.2.2.1, s_kn hm.2.1, s_kn hm.1]
  · simp only [List.mem_cons, List.not_mem_nil, or_false] at hb
    rcases hb with rfl | rfl | rfl | rfl <;> simp
  · rcases List.mem_append.1 hb with hb | hb <;> simp [hb]
  · have := t6.own
    rw [tl'] at this
    exact this.of (by simp) fun b hb => by
      obtain ⟨e1, e2, e3, e4⟩ := hna b hb
      rw [s_bn e2, s_bn e1, s_kn e3, s_kn e4]
  · have := hltX b hb
    rw [s_bn (by omega), s_bn (by omega), s_kn (by omega), s_kn (by omega), k6.blk b (by simp [hb]), E14.blk b (by omega), o1 b this]
end Go.Abs.Try
set_option linter.unusedSimpArgs false
set_option linter.unusedVariables false
set_option linter.unusedSectionVars false
set_option maxHeartbeats 2000000
namespace Go.Abs.Try
open Go Go.Abs
variable {O : Type}

structure HS where
  D : DS
  L : List (Int × Int)
def hcell (p : Int × Int) : List AV := [.i .i64 p.1, .i .u64 p.2]
theorem hcell_len (p : Int × Int) : (hcell p).length = 2 := rfl
theorem hcell_flat (l : List (Int × Int)) : (l.flatMap hcell).all AV.flat = true := by
  induction l with
  | nil => rfl
  | cons p l ih => rw [List.flatMap_cons, List.all_append, ih]; rfl
theorem fm_drop {α : Type} {enc : α → List AV} {k : Nat} (hk : ∀ x, (enc x).length = k) : ∀ (l : List α) (i : Nat), (l.flatMap enc).drop (i * k) = (l.drop i).flatMap enc
  | l, 0 => by simp
  | [], i + 1 => by simp
  | x :: l, i + 1 => by
    have e : (enc x).drop ((i + 1) * k) = [] := List.drop_eq_nil_of_le (by rw [hk, Nat.succ_mul]; omega)
    rw [List.drop_succ_cons, ← fm_drop hk l i, List.flatMap_cons, List.drop_append, e, hk, Nat.succ_mul, Nat.add_sub_cancel]; rfl
theorem fm_take {α : Type} {enc : α → List AV} {k : Nat} (hk : ∀ x, (enc x).length = k) : ∀ (l : List α) (i : Nat), (l.take i).flatMap enc = (l.flatMap enc).take (i * k)
  | l, 0 => by simp
  | [], i + 1 => by simp
  | x :: l, i + 1 => by
    have e : (enc x).take ((i + 1) * k) = enc x := List.take_of_length_le (by rw [hk, Nat.succ_mul]; omega)
    rw [List.take_succ_cons, List.flatMap_cons, List.flatMap_cons, fm_take hk l i, List.take_append, e, hk, Nat.succ_mul, Nat.add_sub_cancel]
def DS.vs (S : DS) (a b : SA) : List AV := [.i .i64 S.words, .sl a S.L.length, .sl b S.free.length, .i .i64 S.room]
def HS.vs (S : HS) (a b c : SA) : List AV := [.i .i64 S.D.words, .sl a S.D.L.length, .sl b S.D.free.length, .i .i64 S.D.room, .sl c S.L.length]
/-- it stands frozen -/
structure HS.st (S : HS) (a b c : SA) : Prop where
  d : S.D.at_ (.agg (S.D.vs a b))
  l : Imm 2 c S.L.length (S.L.flatMap hcell)
def HS.at_ (S : HS) (v : AV) : Prop := ∃ a b c, v = .agg (S.vs a b c) ∧ S.st a b c
theorem DS.sl {S : DS} {v : AV} (h : S.at_ v) : ∃ a b, v = .agg (S.vs a b) := by
  obtain ⟨a, b, rfl, ha, hb⟩ := h
  obtain ⟨sa, va, rfl, _, _⟩ := Im.rd ha
  obtain ⟨sb, vb, rfl, _, _⟩ := Im.rd hb
  exact ⟨sa, sb, rfl⟩
theorem DS.flat {S : DS} {a b : SA} (h : S.at_ (.agg (S.vs a b))) : (AV.sl a S.L.length).flat = true ∧ (AV.sl b S.free.length).flat = true := by
  obtain ⟨x, y, e, hx, hy⟩ := h
  simp only [DS.vs, AV.agg.injEq, List.cons.injEq, true_and, and_true] at e
  obtain ⟨rfl, rfl⟩ := e
  exact ⟨hx.flat, hy.flat⟩
theorem HS.fz (n : Nat) {σ : AH O} {S : HS} {a b c : SA} {el : Nat} (d : S.D.at_ (.agg (S.D.vs a b))) (o : OwnS σ el 2 c S.L.length (S.L.flatMap hcell)) : ∃ v', FZ (n + 3) σ.blk (SA.bk c) (.agg (S.vs a b c)) v' ∧ S.at_ v' := by
  obtain ⟨f1, f2⟩ := DS.flat d
  obtain ⟨c', f, m⟩ := FZ.sl (d := n) o (fun _ _ => rfl) (FZL.flat (hcell_flat _)) rfl (by simp)
  have h := FZL.cons0 (v := .i .i64 S.D.words) (FZ.flat rfl) (FZL.cons0 (FZ.flat f1) (FZL.cons0 (FZ.flat f2) (FZL.cons0 (v := .i .i64 S.D.room) (FZ.flat rfl) (FZL.cons f FZL.nil (by simp)))))
  simp only [List.append_nil] at h
  exact ⟨_, FZ.agg h, a, b, c', rfl, d, m⟩
theorem HS.fz0 {σ : AH O} {S : HS} {a b c : SA} (h : S.st a b c) : FZ 7 σ.blk [] (.agg (S.vs a b c)) (.agg (S.vs a b c)) := by
  obtain ⟨f1, f2⟩ := DS.flat h.d
  have f3 := h.l.flat
  exact FZ.agg (FZL.flat (by simp only [HS.vs, List.all_cons, List.all_nil, f1, f2, f3, Bool.and_true, Bool.true_and]; rfl))
theorem HS.st.at {S : HS} {a b c : SA} (h : S.st a b c) : S.at_ (.agg (S.vs a b c)) := ⟨a, b, c, rfl, h⟩
/-- where a token stands -/
def HS.at (S : HS) (t : Int) : Option Nat := S.L.findIdx? fun p => p.1 == t
def HS.atI (S : HS) (t : Int) : Int := match S.at t with | some i => (i : Int) | none => -1
theorem HS.at_some {S : HS} {t : Int} {i : Nat} (h : S.at t = some i) : ∃ x, S.L[i]? = some (t, x) ∧ i < S.L.length ∧ ∀ (j : Nat) (p : Int × Int), j < i → S.L[j]? = some p → p.1 ≠ t := by
  unfold HS.at at h
  rw [List.findIdx?_eq_some_iff_getElem] at h
  obtain ⟨hi, h1, h2⟩ := h
  refine ⟨S.L[i].2, ?_, hi, fun j p hj hp => ?_⟩
  · rw [List.getElem?_eq_getElem hi]
    rw [beq_iff_eq] at h1
    rw [← h1]
  · have := h2 j hj
    have hl := (List.getElem?_eq_some_iff.1 hp).2
    rw [hl] at this
    simpa using this
theorem HS.at_none {S : HS} {t : Int} (h : S.at t = none) : ∀ (j : Nat) (p : Int × Int), S.L[j]? = some p → p.1 ≠ t := fun j p hp => by
  unfold HS.at at h
  rw [List.findIdx?_eq_none_iff] at h
  have := h p (List.mem_of_getElem? hp)
  simpa using this
theorem rhat_ok {σ : AH O} {S : HS} {a b c : SA} (h : S.st a b c) {t : Int} (hl : S.L.length ≤ 1000) : Ok (haymowref18_At [.agg (S.vs a b c), .i .i64 t] σ) fun r => r.1 = .i .i64 (S.atI t) ∧ Ext σ r.2 := by
  simp (config := { maxSteps := 2000000 }) -implicitDefEqProofs (disch := (first | omega | rfl | assumption | (simp only [rsD]; first | omega | assumption))) only [haymowref18_At, haymowref18_At_c, HS.vs, Nat.reduceAdd, Nat.reduceMul, Nat.reduceLT, Int.reduceToNat, Int.reduceAdd, Int.reduceSub, Int.reduceMul, rsU, rsC]
  generalize hσ : (σ.bump 1).put σ.next (.cells true _ _) = σ1
  obtain ⟨E1, b1, n1⟩ := boxed hσ
  clear hσ
  have row : ∀ {i : Nat} {p : Int × Int}, S.L[i]? = some p → ∃ q o, SA.ref c = some (q, o) ∧ σ1.ld q (o + i * 2) = some (.i .i64 p.1) := fun hp => by
    obtain ⟨q, o, rfl, hld⟩ := Imm.row hcell_len h.l hp (by decide)
    exact ⟨q, o, rfl, hld O σ1 0 (by decide)⟩
  have stp : ∀ {i : Nat} {p : Int × Int}, S.L[i]? = some p → haymowref18_At_L1 σ t ([.i .i64 (i : Int)], σ1) = if p.1 = t then some (.inr (.inr (.i .i64 (i : Int), σ1))) else some (.inl ([.i .i64 ((i : Int) + 1)], σ1)) := fun {i p} hp => by
    have hi := (List.getElem?_eq_some_iff.1 hp).1
    obtain ⟨q, o, hr, hq⟩ := row hp
    split
    · rename_i e
      have q1 := s_eqT e
      simp (config := { maxSteps := 2000000 }) -implicitDefEqProofs (disch := (first | omega | rfl | assumption | (simp only [rsD]; first | omega | assumption))) only [haymowref18_At_L1, b1, hr, hq, q1, Nat.reduceAdd, Nat.reduceMul, Nat.reduceLT, Int.reduceToNat, Int.reduceAdd, Int.reduceSub, Int.reduceMul, rsU, rsC]
    · rename_i e
      have q1 := s_eqF e
      simp (config := { maxSteps := 2000000 }) -implicitDefEqProofs (disch := (first | omega | rfl | assumption | (simp only [rsD]; first | omega | assumption))) only [haymowref18_At_L1, b1, hr, hq, q1, Nat.reduceAdd, Nat.reduceMul, Nat.reduceLT, Int.reduceToNat, Int.reduceAdd, Int.reduceSub, Int.reduceMul, rsU, rsC]
  unfold HS.atI
  cases ha : S.at t with
  | some i =>
    obtain ⟨x, hx, hi, ho⟩ := HS.at_some ha
    refine Ok.bindS (Q := fun r => r = .inr (.i .i64 (i : Int), σ1)) ?_ (fun s h => by cases h) (fun r h => by cases h; exact ⟨rfl, E1⟩)
    refine Ok.count i (fun k s => s = ([.i .i64 (k : Int)], σ1)) ?_ ?_ rfl
    · rintro k s hk rfl
      have hk' := List.getElem?_eq_getElem (show k < S.L.length by omega)
      rw [stp hk', if_neg (ho k _ hk hk')]
      exact Ok_some.2 (by simp)
    · rintro s rfl
      rw [stp hx, if_pos rfl]
      exact Ok_some.2 rfl
  | none =>
    refine Ok.bindS (Q := fun r => r = .inl ([], σ1)) ?_ (fun s h => by cases h; exact Ok_some.2 ⟨rfl, E1⟩) (fun r h => by cases h)
    refine Ok.count S.L.length (fun k s => s = ([.i .i64 (k : Int)], σ1)) ?_ ?_ rfl
    · rintro k s hk rfl
      have hk' := List.getElem?_eq_getElem hk
      rw [stp hk', if_neg (HS.at_none ha k _ hk')]
      exact Ok_some.2 (by simp)
    · rintro s rfl
      simp (config := { maxSteps := 2000000 }) -implicitDefEqProofs (disch := (first | omega | rfl | assumption | (simp only [rsD]; first | omega | assumption))) only [haymowref18_At_L1, b1, Nat.reduceAdd, Nat.reduceMul, Nat.reduceLT, Int.reduceToNat, Int.reduceAdd, Int.reduceSub, Int.reduceMul, rsU, rsC]
      exact Ok_some.2 rfl
/-- a handle comes -/
theorem rhadd_ok {σ : AH O} {S : HS} {a b c : SA} (h : S.st a b c) (hl : S.L.length ≤ 1000) {D' : DS} {i g : Nat} {e : DE} {x : Int}
    (ht : ∀ σ' : AH O, Ok (haymowref10_Take [.agg (S.D.vs a b)] σ') fun r => (∃ v', r.1 = .tup [v', .i .i64 ((i : Int) + 1)] ∧ D'.at_ v') ∧ Ext σ' r.2) (he : D'.L[i]? = some e) (hge : e.gen = (g : Int)) (hg : g ≤ 1000) (hi : i ≤ 1000) (hD : D'.L.length ≤ 1000) :
    Ok (haymowref18_Add [.agg (S.vs a b c), .i .u64 x] σ) fun r => (∃ v', r.1 = .tup [v', .i .i64 (tok i g)] ∧ HS.at_ ⟨D', S.L ++ [(tok i g, x)]⟩ v') ∧ Ext σ r.2 := by
  refine frz_ok (Q := fun v => ∃ v', v = .tup [v', .i .i64 (tok i g)] ∧ HS.at_ ⟨D', S.L ++ [(tok i g, x)]⟩ v') ?_
  simp (config := { maxSteps := 2000000 }) -implicitDefEqProofs (disch := (first | omega | rfl | assumption | (simp only [rsD]; first | omega | assumption))) only [haymowref18_Add_c, HS.vs, Nat.reduceAdd, Nat.reduceMul, Nat.reduceLT, Int.reduceToNat, Int.reduceAdd, Int.reduceSub, Int.reduceMul, rsU, rsC]
  generalize hσ : AH.put _ (σ.next + 1) _ = σ1
  have E1 : Ext σ σ1 := by rw [← hσ]; exact ((((Ext.refl σ).bump 2).put (Nat.le_refl _) _).put (by omega) _)
  have n1 : σ1.next = σ.next + 2 := by rw [← hσ]; rfl
  have b0 : σ1.blk σ.next = some (.cells true T_haymowref18_State (S.vs a b c)) := by rw [← hσ]; exact (s_bn (by omega)).trans s_bs
  have b1 : σ1.blk (σ.next + 1) = some (.cells true T_haymowref18_State [.i .i64 0, .sl .nil 0, .sl .nil 0, .i .i64 0, .sl .nil 0]) := by rw [← hσ]; exact s_bs
  clear hσ
  simp only [HS.vs] at b0
  have ht := ht σ1
  simp only [DS.vs] at ht
  refine Ok.step ht fun r ⟨⟨v', g1, g2⟩, E2⟩ => ?_
  obtain ⟨q, σ2⟩ := r
  simp only at g1 E2
  subst g1
  obtain ⟨a2, b2, rfl⟩ := DS.sl g2
  obtain ⟨x1, x2, e12, ha, hb⟩ := id g2
  simp only [DS.vs, AV.agg.injEq, List.cons.injEq, true_and, and_true] at e12
  obtain ⟨rfl, rfl⟩ := e12
  obtain ⟨sa, va, e3, ia, ca⟩ := Im.rd ha
  cases e3
  obtain ⟨_, cg, _⟩ := DS.cells_ ca he
  have hiD := (List.getElem?_eq_some_iff.1 he).1
  obtain ⟨bb, oo, rfl, hld⟩ := (ia O σ2).ref hiD
  have hld : ∀ σ' : AH O, σ'.ld bb (oo + i * 3 + 1) = some (.i .i64 e.gen) := fun σ' => by
    obtain ⟨b2, o2, e2, hld⟩ := (ia O σ').ref hiD
    cases e2
    exact (hld 1 (by decide)).trans cg
  have c0 : σ2.blk σ.next = _ := (E2.blk _ (by omega)).trans b0
  have c1 : σ2.blk (σ.next + 1) = _ := (E2.blk _ (by omega)).trans b1
  have n2 := E2.next
  have v0 : (i : Int) + 1 - 1 = i := by omega
  have tk : (i : Int) + 1048576 * e.gen = tok i g := by rw [hge]; unfold tok; omega
  have rs := fun σ : AH O => (h.l O σ).rdSl
  simp (config := { maxSteps := 2000000 }) -implicitDefEqProofs (disch := (first | omega | rfl | assumption | (simp only [rsD]; first | omega | assumption))) only [DS.vs, c0, v0, hld, tk, rs, Nat.reduceAdd, Nat.reduceMul, Nat.reduceLT, Int.reduceToNat, Int.reduceAdd, Int.reduceSub, Int.reduceMul, rsU, rsC]
  generalize hσ : ((σ2.put σ.next _).bump 4).put σ2.next _ = σ3
  have n3 : σ3.next = σ2.next + 4 := by rw [← hσ]; rfl
  have d0 : σ3.blk σ.next = some (.cells true T_haymowref18_State (HS.vs ⟨D', S.L⟩ (.loc bb oo 3) b2 c)) := by rw [← hσ]; exact (s_bn (by omega)).trans s_bs
  have b3 : σ3.blk σ2.next = some (.cells true T_haymowref18_Handle []) := by rw [← hσ]; exact s_bs
  have o3 : ∀ q, q ≠ σ.next → q ≠ σ2.next → σ3.blk q = σ2.blk q := fun q h1 h2 => by rw [← hσ]; exact (s_bn h2).trans (s_bn h1)
  clear hσ
  simp only [HS.vs] at d0
  have own3 : OwnS σ3 T_haymowref18_Handle 2 (.loc (.n σ2.next) 0 2) 0 [] := OwnS.new rfl b3 (by omega)
  refine Ok.step (app_ok (nid := σ2.next + 1) own3 (by simp [SA.bk]) (by omega) (show (S.L.flatMap hcell).length = S.L.length * 2 from fm_len hcell_len _)) fun q ⟨a3, m1, m2, m3, m4, m5⟩ => ?_
  obtain ⟨q, σ4⟩ := q
  simp only at m1 m2 m3 m4
  subst m1
  rw [Nat.zero_add, List.nil_append] at m2
  simp (config := { maxSteps := 2000000 }) -implicitDefEqProofs (disch := (first | omega | rfl | assumption | (simp only [rsD]; first | omega | assumption))) only [Nat.zero_add, Nat.reduceAdd, Nat.reduceMul, Nat.reduceLT, Int.reduceToNat, Int.reduceAdd, Int.reduceSub, Int.reduceMul, rsU, rsC]
  generalize hσ : σ4.put (σ2.next + 1 + 1) _ = σ5
  have n5 : σ5.next = σ4.next := by rw [← hσ]; rfl
  have o5 : ∀ q, q ≠ σ2.next + 1 + 1 → σ5.blk q = σ4.blk q := fun q h1 => by rw [← hσ]; exact s_bn h1
  have b5 : σ5.blk (σ2.next + 1 + 1) = some (.cells true T_haymowref18_Handle [.i .i64 (tok i g), .i .u64 x]) := by rw [← hσ]; exact s_bs
  clear hσ
  have rd5 : σ5.rdSl (.loc (.n (σ2.next + 1 + 1)) 0 2) 1 2 = some [.i .i64 (tok i g), .i .u64 x] := (OwnS.new (el := T_haymowref18_Handle) (n := 1) (es := 2) rfl b5 (by omega)).rd.rdSl
  have m2' := m2.of (σ' := σ5) (by omega) fun q hq => o5 q (by have := m5 q hq; omega)
  refine Ok.step (app_ok (nid := σ2.next + 1 + 1 + 1) m2' (fun hm => by have := m5 _ hm; omega) (by omega) (show ([.i .i64 (tok i g), .i .u64 x] : List AV).length = 1 * 2 from rfl)) fun q ⟨a4, k1, k2, k3, k4, k5⟩ => ?_
  obtain ⟨q, σ6⟩ := q
  simp only at k1 k2 k3 k4
  subst k1
  have e0 : σ6.blk σ.next = _ := (k4 _ (by omega) (fun hm => by have := m5 _ hm; omega)).trans ((o5 _ (by omega)).trans ((m4 _ (by omega) (by simp [SA.bk]; omega)).trans d0))
  have e1 : σ6.blk (σ.next + 1) = _ := (k4 _ (by omega) (fun hm => by have := m5 _ hm; omega)).trans ((o5 _ (by omega)).trans ((m4 _ (by omega) (by simp [SA.bk]; omega)).trans ((o3 _ (by omega) (by omega)).trans c1)))
  simp (config := { maxSteps := 2000000 }) -implicitDefEqProofs (disch := (first | omega | rfl | assumption | (simp only [rsD]; first | omega | assumption))) only [e0, e1, Nat.reduceAdd, Nat.reduceMul, Nat.reduceLT, Int.reduceToNat, Int.reduceAdd, Int.reduceSub, Int.reduceMul, rsU, rsC]
  have hE : S.L.flatMap hcell ++ [.i .i64 (tok i g), .i .u64 x] = (S.L ++ [(tok i g, x)]).flatMap hcell := by simp [hcell]
  have hlen : S.L.length + 1 = (S.L ++ [(tok i g, x)]).length := by simp
  rw [hE, hlen] at k2
  generalize hσ : (σ6.put σ.next _).put (σ.next + 1) _ = σ7
  have n7 : σ7.next = σ6.next := by rw [← hσ]; rfl
  have o7 : ∀ q, q ≠ σ.next → q ≠ σ.next + 1 → σ7.blk q = σ6.blk q := fun q h1 h2 => by rw [← hσ]; exact (s_bn h2).trans (s_bn h1)
  clear hσ
  have own7 := k2.of (σ' := σ7) (by omega) fun q hq => o7 q (by have := k5 q hq; omega) (by have := k5 q hq; omega)
  obtain ⟨v', z1, z2⟩ := HS.fz 4 (S := ⟨D', S.L ++ [(tok i g, x)]⟩) g2 own7
  simp only [HS.vs] at z1
  rw [← hlen] at z1
  refine Ok_some.2 ⟨_, _, DS.fzt z1, fun q hq => ?_, ⟨by show σ.next ≤ σ7.next; omega, fun q hq => ?_⟩, v', rfl, z2⟩
  · have := k5 q hq; omega
  · show σ7.blk q = _
    rw [o7 q (by omega) (by omega), k4 q (by omega) (fun hm => by have := m5 _ hm; omega), o5 q (by omega), m4 q (by omega) (by simp [SA.bk]; omega), o3 q (by omega) (by omega), E2.blk q (by omega), E1.blk q hq]
def HS.drop (S : HS) (t : Int) : HS := match S.at t with
  | none => S
  | some i => ⟨(S.D.give (Int.tmod t 1048576 + 1)).1, S.L.take i ++ S.L.drop (i + 1)⟩
def HS.set (S : HS) (t x : Int) : HS := match S.at t with
  | none => S
  | some i => { S with L := S.L.set i (t, x) }
def HS.code (S : HS) (t : Int) : Int := match S.at t with | none => 30 | some _ => 0
/-- a handle goes -/
theorem rhdrop_ok {σ : AH O} {S : HS} {a b c : SA} (h : S.st a b c) (hl : S.L.length ≤ 1000) (hs : S.D.small) (hgn : ∀ e ∈ S.D.L, 0 ≤ e.gen ∧ e.gen ≤ 1000) {t : Int} (ht : -9223372036854775808 ≤ t ∧ t ≤ 9223372036854775807) :
    Ok (haymowref18_Drop [.agg (S.vs a b c), .i .i64 t] σ) fun r => (∃ v', r.1 = .tup [v', .i .i64 (S.code t)] ∧ (S.drop t).at_ v') ∧ Ext σ r.2 := by
  refine frz_ok (Q := fun v => ∃ v', v = .tup [v', .i .i64 (S.code t)] ∧ (S.drop t).at_ v') ?_
  simp (config := { maxSteps := 2000000 }) -implicitDefEqProofs (disch := (first | omega | rfl | assumption | (simp only [rsD]; first | omega | assumption))) only [haymowref18_Drop_c, HS.vs, Nat.reduceAdd, Nat.reduceMul, Nat.reduceLT, Int.reduceToNat, Int.reduceAdd, Int.reduceSub, Int.reduceMul, rsU, rsC]
  generalize hσ : AH.put _ (σ.next + 1) _ = σ1
  obtain ⟨E1, n1, b0, b1⟩ := box2 hσ
  clear hσ
  have hat := rhat_ok (σ := σ1) h (t := t) hl
  simp only [HS.vs] at hat
  refine Ok.step hat fun r ⟨g1, E2⟩ => ?_
  obtain ⟨q, σ2⟩ := r
  simp only at g1 E2
  subst g1
  have c0 : σ2.blk σ.next = _ := (E2.blk _ (by omega)).trans b0
  have c1 : σ2.blk (σ.next + 1) = _ := (E2.blk _ (by omega)).trans b1
  have n2 := E2.next
  unfold HS.atI HS.drop HS.code
  cases ha : S.at t with
  | none =>
    simp only
    simp (config := { maxSteps := 2000000 }) -implicitDefEqProofs (disch := (first | omega | rfl | assumption | (simp only [rsD]; first | omega | assumption))) only [c0, c1, Nat.reduceAdd, Nat.reduceMul, Nat.reduceLT, Int.reduceToNat, Int.reduceAdd, Int.reduceSub, Int.reduceMul, rsU, rsC]
    have fz0 := HS.fz0 (σ := σ2.put (σ.next + 1) (.cells true T_haymowref18_State (S.vs a b c))) h
    simp only [HS.vs] at fz0
    exact Ok_some.2 ⟨_, [], DS.fzt fz0, by simp, (E1.trans E2).put (by omega) _, _, rfl, h.at⟩
  | some i =>
    simp only
    obtain ⟨x, hx, hi, ho⟩ := HS.at_some ha
    obtain ⟨c2, v2, i2⟩ := h.l.adv (lo := 0) (m := i) (by omega)
    rw [Nat.zero_mul, List.drop_zero] at i2
    obtain ⟨c3, v3, i3⟩ := h.l.adv (lo := i + 1) (m := S.L.length - (i + 1)) (by omega)
    have tn : ((i : Int) + 1).toNat = i + 1 := by omega
    have rs2 := fun σ : AH O => (i2 O σ).rdSl
    have rs3 := fun σ : AH O => (i3 O σ).rdSl
    have tr : -1048576 < Int.tmod t 1048576 ∧ Int.tmod t 1048576 < 1048576 := ⟨by have := Int.lt_tmod_of_pos t (show (0 : Int) < 1048576 by decide); omega, Int.tmod_lt_of_pos t (by decide)⟩
    simp (config := { maxSteps := 2000000 }) -implicitDefEqProofs (disch := (first | omega | rfl | assumption | (simp only [rsD]; first | omega | assumption))) only [c0, v2, v3, tn, Nat.sub_zero, rs2, Nat.reduceAdd, Nat.reduceMul, Nat.reduceLT, Int.reduceToNat, Int.reduceAdd, Int.reduceSub, Int.reduceMul, rsU, rsC]
    generalize hσ : (σ2.bump 3).put σ2.next _ = σ3
    have n3 : σ3.next = σ2.next + 3 := by rw [← hσ]; rfl
    have b3 : σ3.blk σ2.next = some (.cells true T_haymowref18_Handle []) := by rw [← hσ]; exact s_bs
    have o3 : ∀ q, q ≠ σ2.next → σ3.blk q = σ2.blk q := fun q h2 => by rw [← hσ]; exact s_bn h2
    clear hσ
    have own3 : OwnS σ3 T_haymowref18_Handle 2 (.loc (.n σ2.next) 0 2) 0 [] := OwnS.new rfl b3 (by omega)
    refine Ok.step (app_ok (nid := σ2.next + 1) own3 (by simp [SA.bk]) (by omega) i2.len) fun q ⟨a3, m1, m2, m3, m4, m5⟩ => ?_
    obtain ⟨q, σ4⟩ := q
    simp only at m1 m2 m3 m4
    subst m1
    rw [Nat.zero_add, List.nil_append] at m2
    have d0 : σ4.blk σ.next = _ := (m4 _ (by omega) (by simp [SA.bk]; omega)).trans ((o3 _ (by omega)).trans c0)
    have d1 : σ4.blk (σ.next + 1) = _ := (m4 _ (by omega) (by simp [SA.bk]; omega)).trans ((o3 _ (by omega)).trans c1)
    simp (config := { maxSteps := 2000000 }) -implicitDefEqProofs (disch := (first | omega | rfl | assumption | (simp only [rsD]; first | omega | assumption))) only [d0, Nat.zero_add, rs3, Nat.reduceAdd, Nat.reduceMul, Nat.reduceLT, Int.reduceToNat, Int.reduceAdd, Int.reduceSub, Int.reduceMul, rsU, rsC]
    refine Ok.step (app_ok (nid := σ2.next + 1 + 1) m2 (fun hm => by have := m5 _ hm; omega) (by omega) i3.len) fun q ⟨a4, k1, k2, k3, k4, k5⟩ => ?_
    obtain ⟨q, σ5⟩ := q
    simp only at k1 k2 k3 k4
    subst k1
    have e0 : σ5.blk σ.next = _ := (k4 _ (by omega) (fun hm => by have := m5 _ hm; omega)).trans d0
    have e1 : σ5.blk (σ.next + 1) = _ := (k4 _ (by omega) (fun hm => by have := m5 _ hm; omega)).trans d1
    simp (config := { maxSteps := 2000000 }) -implicitDefEqProofs (disch := (first | omega | rfl | assumption | (simp only [rsD]; first | omega | assumption))) only [e0, Nat.reduceAdd, Nat.reduceMul, Nat.reduceLT, Int.reduceToNat, Int.reduceAdd, Int.reduceSub, Int.reduceMul, rsU, rsC]
    have hg := rgive_ok (σ := σ5.put σ.next (.cells true T_haymowref18_State [.i .i64 S.D.words, .sl a S.D.L.length, .sl b S.D.free.length, .i .i64 S.D.room, .sl a4 (i + (S.L.length - (i + 1)))])) hs hgn h.d (id := Int.tmod t 1048576 + 1) (by omega)
    simp only [DS.vs] at hg
    refine Ok.step hg fun r ⟨⟨v', g1, g2⟩, E6⟩ => ?_
    obtain ⟨q, σ6⟩ := r
    simp only at g1 E6
    subst g1
    obtain ⟨a6, b6, rfl⟩ := DS.sl g2
    have n6 := E6.next
    simp only [rsD] at n6
    have f0 := E6.blk σ.next (by simp only [rsD]; omega)
    rw [s_bs] at f0
    have f1 := E6.blk (σ.next + 1) (by simp only [rsD]; omega)
    rw [s_bn (by omega), e1] at f1
    simp (config := { maxSteps := 2000000 }) -implicitDefEqProofs (disch := (first | omega | rfl | assumption | (simp only [rsD]; first | omega | assumption))) only [DS.vs, f0, f1, Nat.reduceAdd, Nat.reduceMul, Nat.reduceLT, Int.reduceToNat, Int.reduceAdd, Int.reduceSub, Int.reduceMul, rsU, rsC]
    have hE : (S.L.flatMap hcell).take (i * 2) ++ ((S.L.flatMap hcell).drop ((i + 1) * 2)).take ((S.L.length - (i + 1)) * 2) = (S.L.take i ++ S.L.drop (i + 1)).flatMap hcell := by
      rw [List.flatMap_append]
      congr 1
      · exact (fm_take hcell_len _ _).symm
      · rw [fm_drop hcell_len, List.take_of_length_le]
        rw [fm_len hcell_len, List.length_drop]; omega
    have hlen : i + (S.L.length - (i + 1)) = (S.L.take i ++ S.L.drop (i + 1)).length := by simp; omega
    rw [hE, hlen] at k2
    generalize hσ : (σ6.put σ.next _).put (σ.next + 1) _ = σ7
    have n7 : σ7.next = σ6.next := by rw [← hσ]; rfl
    have o7 : ∀ q, q ≠ σ.next → q ≠ σ.next + 1 → σ7.blk q = σ6.blk q := fun q h1 h2 => by rw [← hσ]; exact (s_bn h2).trans (s_bn h1)
    clear hσ
    have o6 : ∀ q, q < σ5.next → q ≠ σ.next → σ6.blk q = σ5.blk q := fun q h1 h2 => (E6.blk q (by simpa using h1)).trans (s_bn h2)
    have own7 := k2.of (σ' := σ7) (by omega) fun q hq => (o7 q (by have := k5 q hq; omega) (by have := k5 q hq; omega)).trans (o6 q (by have := k2.lt q hq; omega) (by have := k5 q hq; omega))
    obtain ⟨v', z1, z2⟩ := HS.fz 4 (S := ⟨(S.D.give (Int.tmod t 1048576 + 1)).1, S.L.take i ++ S.L.drop (i + 1)⟩) g2 own7
    simp only [HS.vs] at z1
    rw [← hlen] at z1
    refine Ok_some.2 ⟨_, _, DS.fzt z1, fun q hq => ?_, ⟨by show σ.next ≤ σ7.next; omega, fun q hq => ?_⟩, v', rfl, z2⟩
    · have := k5 q hq; omega
    · show σ7.blk q = _
      rw [o7 q (by omega) (by omega), o6 q (by omega) (by omega), k4 q (by omega) (fun hm => by have := m5 _ hm; omega), m4 q (by omega) (by simp [SA.bk]; omega), o3 q (by omega), E2.blk q (by omega), E1.blk q hq]
/-- a handle holds another one -/
theorem rhset_ok {σ : AH O} {S : HS} {a b c : SA} (h : S.st a b c) (hl : S.L.length ≤ 1000) {t x : Int} :
    Ok (haymowref18_Set [.agg (S.vs a b c), .i .i64 t, .i .u64 x] σ) fun r => (∃ v', r.1 = .tup [v', .i .i64 (S.code t)] ∧ (S.set t x).at_ v') ∧ Ext σ r.2 := by
  refine frz_ok (Q := fun v => ∃ v', v = .tup [v', .i .i64 (S.code t)] ∧ (S.set t x).at_ v') ?_
  simp (config := { maxSteps := 2000000 }) -implicitDefEqProofs (disch := (first | omega | rfl | assumption | (simp only [rsD]; first | omega | assumption))) only [haymowref18_Set_c, HS.vs, Nat.reduceAdd, Nat.reduceMul, Nat.reduceLT, Int.reduceToNat, Int.reduceAdd, Int.reduceSub, Int.reduceMul, rsU, rsC]
  generalize hσ : AH.put _ (σ.next + 1) _ = σ1
  obtain ⟨E1, n1, b0, b1⟩ := box2 hσ
  clear hσ
  have hat := rhat_ok (σ := σ1) h (t := t) hl
  simp only [HS.vs] at hat
  refine Ok.step hat fun r ⟨g1, E2⟩ => ?_
  obtain ⟨q, σ2⟩ := r
  simp only at g1 E2
  subst g1
  have c0 : σ2.blk σ.next = _ := (E2.blk _ (by omega)).trans b0
  have c1 : σ2.blk (σ.next + 1) = _ := (E2.blk _ (by omega)).trans b1
  have n2 := E2.next
  unfold HS.atI HS.set HS.code
  cases ha : S.at t with
  | none =>
    simp only
    simp (config := { maxSteps := 2000000 }) -implicitDefEqProofs (disch := (first | omega | rfl | assumption | (simp only [rsD]; first | omega | assumption))) only [c0, c1, Nat.reduceAdd, Nat.reduceMul, Nat.reduceLT, Int.reduceToNat, Int.reduceAdd, Int.reduceSub, Int.reduceMul, rsU, rsC]
    have fz0 := HS.fz0 (σ := σ2.put (σ.next + 1) (.cells true T_haymowref18_State (S.vs a b c))) h
    simp only [HS.vs] at fz0
    exact Ok_some.2 ⟨_, [], DS.fzt fz0, by simp, (E1.trans E2).put (by omega) _, _, rfl, h.at⟩
  | some i =>
    simp only
    obtain ⟨y, hx, hi, ho⟩ := HS.at_some ha
    have rs := fun σ : AH O => (h.l O σ).rdSl
    simp (config := { maxSteps := 2000000 }) -implicitDefEqProofs (disch := (first | omega | rfl | assumption | (simp only [rsD]; first | omega | assumption))) only [c0, rs, Nat.reduceAdd, Nat.reduceMul, Nat.reduceLT, Int.reduceToNat, Int.reduceAdd, Int.reduceSub, Int.reduceMul, rsU, rsC]
    generalize hσ : (σ2.bump 2).put σ2.next _ = σ3
    have n3 : σ3.next = σ2.next + 2 := by rw [← hσ]; rfl
    have b3 : σ3.blk σ2.next = some (.cells true T_haymowref18_Handle []) := by rw [← hσ]; exact s_bs
    have o3 : ∀ q, q ≠ σ2.next → σ3.blk q = σ2.blk q := fun q h2 => by rw [← hσ]; exact s_bn h2
    clear hσ
    have own3 : OwnS σ3 T_haymowref18_Handle 2 (.loc (.n σ2.next) 0 2) 0 [] := OwnS.new rfl b3 (by omega)
    refine Ok.step (app_ok (nid := σ2.next + 1) own3 (by simp [SA.bk]) (by omega) h.l.len) fun q ⟨a3, m1, m2, m3, m4, m5⟩ => ?_
    obtain ⟨q, σ4⟩ := q
    simp only at m1 m2 m3 m4
    subst m1
    rw [Nat.zero_add, List.nil_append] at m2
    have d0 : σ4.blk σ.next = _ := (m4 _ (by omega) (by simp [SA.bk]; omega)).trans ((o3 _ (by omega)).trans c0)
    have d1 : σ4.blk (σ.next + 1) = _ := (m4 _ (by omega) (by simp [SA.bk]; omega)).trans ((o3 _ (by omega)).trans c1)
    obtain ⟨kb, rfl, hkb, hkl⟩ := m2.loc (by omega)
    have hk0 := m5 kb (by simp [SA.bk])
    have hsp : splice (S.L.flatMap hcell) (i * 2 + 1) [.i .u64 x] = (S.L.set i (t, x)).flatMap hcell := fm_splice hcell_len S.L i 1 [.i .u64 x] (t, y) (t, x) hx (by simp) rfl
    have hle : Nat.ble (i * 2 + 1 + 1) (S.L.flatMap hcell).length = true := Nat.ble_eq_true_of_le (by rw [fm_len hcell_len]; omega)
    simp (config := { maxSteps := 2000000 }) -implicitDefEqProofs (disch := (first | omega | rfl | assumption | (simp only [rsD]; first | omega | assumption))) only [d0, d1, Nat.zero_add, hkb, hsp, hle, Nat.reduceAdd, Nat.reduceMul, Nat.reduceLT, Int.reduceToNat, Int.reduceAdd, Int.reduceSub, Int.reduceMul, rsU, rsC]
    generalize hσ : AH.put _ (σ.next + 1) _ = σ7
    have n7 : σ7.next = σ4.next := by rw [← hσ]; rfl
    have o7 : ∀ q, q ≠ σ.next → q ≠ kb → q ≠ σ.next + 1 → σ7.blk q = σ4.blk q := fun q h1 h2 h3 => by rw [← hσ]; exact (s_bn h3).trans ((s_bn h2).trans (s_bn h1))
    have k7 : σ7.blk kb = some (.cells true T_haymowref18_Handle ((S.L.set i (t, x)).flatMap hcell)) := by rw [← hσ]; exact (s_bn (by omega)).trans s_bs
    clear hσ
    have own7 : OwnS σ7 T_haymowref18_Handle 2 (.loc (.n kb) 0 2) (S.L.set i (t, x)).length ((S.L.set i (t, x)).flatMap hcell) := OwnS.new (fm_len hcell_len _) k7 (by omega)
    obtain ⟨v', z1, z2⟩ := HS.fz 4 (S := { S with L := S.L.set i (t, x) }) h.d own7
    simp only [HS.vs, List.length_set] at z1
    refine Ok_some.2 ⟨_, _, DS.fzt z1, fun q hq => ?_, ⟨by show σ.next ≤ σ7.next; omega, fun q hq => ?_⟩, v', rfl, z2⟩
    · have := m5 q hq; omega
    · show σ7.blk q = _
      rw [o7 q (by omega) (by omega) (by omega), m4 q (by omega) (by simp [SA.bk]; omega), o3 q (by omega), E2.blk q (by omega), E1.blk q hq]
def hmore (by_ : Int) (p : Int × Int) : Int × Int := if p.2 = 0 then p else (p.1, IntKind.u64.wrap (p.2 + by_))
def HS.more (S : HS) (by_ : Int) : HS := { S with L := S.L.map (hmore by_) }
def HS.filled (S : HS) : List Int := (S.L.map (·.2)).filter (· != 0)
/-- all hold more -/
theorem rhmore_ok {σ : AH O} {S : HS} {a b c : SA} (h : S.st a b c) (hl : S.L.length ≤ 1000) {x : Int} :
    Ok (haymowref18_More [.agg (S.vs a b c), .i .u64 x] σ) fun r => (S.more x).at_ r.1 ∧ Ext σ r.2 := by
  refine frz_ok (Q := fun v => (S.more x).at_ v) ?_
  have rs := fun σ : AH O => (h.l O σ).rdSl
  simp (config := { maxSteps := 2000000 }) -implicitDefEqProofs (disch := (first | omega | rfl | assumption | (simp only [rsD]; first | omega | assumption))) only [haymowref18_More_c, HS.vs, rs, Nat.reduceAdd, Nat.reduceMul, Nat.reduceLT, Int.reduceToNat, Int.reduceAdd, Int.reduceSub, Int.reduceMul, rsU, rsC]
  generalize hσ : (((((σ.bump 2).put σ.next _).put (σ.next + 1) _).bump 2).put (σ.next + 2) _) = σ3
  have n3 : σ3.next = σ.next + 4 := by rw [← hσ]; rfl
  have E3 : Ext σ σ3 := by rw [← hσ]; exact ((((((Ext.refl σ).bump 2).put (Nat.le_refl _) _).put (by omega) _).bump 2).put (by omega) _)
  have b0 : σ3.blk σ.next = some (.cells true T_haymowref18_State [.i .i64 S.D.words, .sl a S.D.L.length, .sl b S.D.free.length, .i .i64 S.D.room, .sl c S.L.length]) := by rw [← hσ]; simp -implicitDefEqProofs (disch := omega) only [s_bn, s_bs, s_kn, bump_blk]
  have b1 : σ3.blk (σ.next + 1) = some (.cells true T_haymowref18_State [.i .i64 0, .sl .nil 0, .sl .nil 0, .i .i64 0, .sl .nil 0]) := by rw [← hσ]; simp -implicitDefEqProofs (disch := omega) only [s_bn, s_bs, s_kn, bump_blk]
  have b3 : σ3.blk (σ.next + 2) = some (.cells true T_haymowref18_Handle []) := by rw [← hσ]; exact s_bs
  clear hσ
  have own3 : OwnS σ3 T_haymowref18_Handle 2 (.loc (.n (σ.next + 2)) 0 2) 0 [] := OwnS.new rfl b3 (by omega)
  refine Ok.step (app_ok (nid := σ.next + 2 + 1) own3 (by simp [SA.bk]) (by omega) h.l.len) fun q ⟨a3, m1, m2, m3, m4, m5⟩ => ?_
  obtain ⟨q, σ4⟩ := q
  simp only at m1 m2 m3 m4
  subst m1
  rw [Nat.zero_add, List.nil_append] at m2
  have d0 : σ4.blk σ.next = _ := (m4 _ (by omega) (by simp [SA.bk])).trans b0
  have d1 : σ4.blk (σ.next + 1) = _ := (m4 _ (by omega) (by simp [SA.bk])).trans b1
  simp (config := { maxSteps := 2000000 }) -implicitDefEqProofs (disch := (first | omega | rfl | assumption | (simp only [rsD]; first | omega | assumption))) only [d0, Nat.zero_add, Nat.reduceAdd, Nat.reduceMul, Nat.reduceLT, Int.reduceToNat, Int.reduceAdd, Int.reduceSub, Int.reduceMul, rsU, rsC]
  generalize hσ : σ4.put σ.next _ = σ5
  have n5 : σ5.next = σ4.next := by rw [← hσ]; rfl
  have f0 : σ5.blk σ.next = some (.cells true T_haymowref18_State [.i .i64 S.D.words, .sl a S.D.L.length, .sl b S.D.free.length, .i .i64 S.D.room, .sl a3 S.L.length]) := by rw [← hσ]; exact s_bs
  have o5 : ∀ q, q ≠ σ.next → σ5.blk q = σ4.blk q := fun q h1 => by rw [← hσ]; exact s_bn h1
  clear hσ
  have own5 := m2.of (σ' := σ5) (by omega) fun q hq => o5 q (by have := m5 q hq; omega)
  refine Ok.step (Q := fun s => ∃ σ', s = ([], σ') ∧ σ'.next = σ5.next ∧ OwnS σ' T_haymowref18_Handle 2 a3 S.L.length ((S.L.map (hmore x)).flatMap hcell) ∧ ∀ q, q ∉ SA.bk a3 → σ'.blk q = σ5.blk q) ?_ ?_
  · refine Ok.count S.L.length (fun k s => ∃ σ', s = ([.i .i64 (k : Int)], σ') ∧ σ'.next = σ5.next ∧ OwnS σ' T_haymowref18_Handle 2 a3 S.L.length (((S.L.take k).map (hmore x) ++ S.L.drop k).flatMap hcell) ∧ ∀ q, q ∉ SA.bk a3 → σ'.blk q = σ5.blk q) ?_ ?_ ⟨σ5, rfl, rfl, by simpa using own5, fun _ _ => rfl⟩
    · rintro k s hk ⟨σ6, rfl, n6, w6, o6⟩
      have hx := List.getElem?_eq_getElem hk
      generalize S.L[k] = p at hx
      obtain ⟨kb, rfl, hkb, hkl⟩ := w6.loc (by omega)
      have hk0 := m5 kb (by simp [SA.bk])
      have g0 : σ6.blk σ.next = _ := (o6 _ (by simp [SA.bk]; omega)).trans f0
      have hlt : ((S.L.take k).map (hmore x)).length = k := by simp; omega
      have hpk : ((S.L.take k).map (hmore x) ++ S.L.drop k)[k]? = some p := by
        rw [List.getElem?_append_right (by omega), hlt, Nat.sub_self, List.getElem?_drop, Nat.add_zero]; exact hx
      have hrow : (((S.L.take k).map (hmore x) ++ S.L.drop k).flatMap hcell)[k * 2 + 1]? = some (.i .u64 p.2) := (fm_get' hcell_len (by decide) hpk).trans rfl
      have hnext : ((S.L.take k).map (hmore x) ++ S.L.drop k).set k (hmore x p) = (S.L.take (k + 1)).map (hmore x) ++ S.L.drop (k + 1) := by
        rw [List.getElem?_eq_getElem hk] at hx
        cases hx
        have e1 : (S.L.take (k + 1)).map (hmore x) = (S.L.take k).map (hmore x) ++ [hmore x S.L[k]] := by rw [List.take_succ_eq_append_getElem hk, List.map_append]; rfl
        rw [List.set_append_right _ _ (by omega), hlt, Nat.sub_self, List.drop_eq_getElem_cons hk, List.set_cons_zero, e1, List.append_assoc]; rfl
      generalize hcs : (S.L.take k).map (hmore x) ++ S.L.drop k = C at *
      by_cases hz : p.2 = 0
      · have q0 : (p.2 == 0) = true := s_eqT hz
        simp (config := { maxSteps := 2000000 }) -implicitDefEqProofs (disch := (first | omega | rfl | assumption | (simp only [rsD]; first | omega | assumption))) only [haymowref18_More_L1, g0, hkb, hrow, q0, Nat.reduceAdd, Nat.reduceMul, Nat.reduceLT, Int.reduceToNat, Int.reduceAdd, Int.reduceSub, Int.reduceMul, rsU, rsC]
        have hm : hmore x p = p := if_pos hz
        rw [hm, set_same hpk] at hnext
        exact Ok_some.2 ⟨σ6, by simp, n6, by rw [← hnext]; exact w6, o6⟩
      · have q0 : (p.2 == 0) = false := s_eqF hz
        have hm : hmore x p = (p.1, IntKind.u64.wrap (p.2 + x)) := if_neg hz
        have hsp : splice (C.flatMap hcell) (k * 2 + 1) [.i .u64 (IntKind.u64.wrap (p.2 + x))] = (C.set k (hmore x p)).flatMap hcell := fm_splice hcell_len C k 1 [.i .u64 _] p (hmore x p) hpk (by simp) (by rw [hm]; rfl)
        have hle : Nat.ble (k * 2 + 1 + 1) (C.flatMap hcell).length = true := Nat.ble_eq_true_of_le (by rw [w6.len]; omega)
        simp (config := { maxSteps := 2000000 }) -implicitDefEqProofs (disch := (first | omega | rfl | assumption | (simp only [rsD]; first | omega | assumption))) only [haymowref18_More_L1, g0, hkb, hrow, q0, hsp, hle, Nat.reduceAdd, Nat.reduceMul, Nat.reduceLT, Int.reduceToNat, Int.reduceAdd, Int.reduceSub, Int.reduceMul, rsU, rsC]
        rw [hnext]
        refine Ok_some.2 ⟨σ6.put kb (.cells true T_haymowref18_Handle (((S.L.take (k + 1)).map (hmore x) ++ S.L.drop (k + 1)).flatMap hcell)), by simp, by simpa using n6, OwnS.new (by have := w6.len; rw [← hnext, fm_len hcell_len, List.length_set, ← fm_len hcell_len]; exact this) s_bs (by simpa using hkl), fun q hq => ?_⟩
        rw [s_bn (by simpa [SA.bk] using hq)]; exact o6 q hq
    · rintro s ⟨σ6, rfl, n6, w6, o6⟩
      have g0 : σ6.blk σ.next = _ := (o6 _ (fun hm => by have := m5 _ hm; omega)).trans f0
      simp (config := { maxSteps := 2000000 }) -implicitDefEqProofs (disch := (first | omega | rfl | assumption | (simp only [rsD]; first | omega | assumption))) only [haymowref18_More_L1, g0, Nat.reduceAdd, Nat.reduceMul, Nat.reduceLT, Int.reduceToNat, Int.reduceAdd, Int.reduceSub, Int.reduceMul, rsU, rsC]
      exact Ok_some.2 ⟨σ6, rfl, n6, by simpa using w6, o6⟩
  · rintro _ ⟨σ6, rfl, n6, w6, o6⟩
    have g0 : σ6.blk σ.next = _ := (o6 _ (fun hm => by have := m5 _ hm; omega)).trans f0
    have g1 : σ6.blk (σ.next + 1) = _ := (o6 _ (fun hm => by have := m5 _ hm; omega)).trans ((o5 _ (by omega)).trans d1)
    simp (config := { maxSteps := 2000000 }) -implicitDefEqProofs (disch := (first | omega | rfl | assumption | (simp only [rsD]; first | omega | assumption))) only [g0, g1, Nat.reduceAdd, Nat.reduceMul, Nat.reduceLT, Int.reduceToNat, Int.reduceAdd, Int.reduceSub, Int.reduceMul, rsU, rsC]
    generalize hσ : AH.put _ (σ.next + 1) _ = σ7
    have n7 : σ7.next = σ6.next := by rw [← hσ]; rfl
    have o7 : ∀ q, q ≠ σ.next + 1 → σ7.blk q = σ6.blk q := fun q h3 => by rw [← hσ]; exact s_bn h3
    clear hσ
    have own7 := w6.of (σ' := σ7) (by omega) fun q hq => o7 q (by have := m5 q hq; omega)
    obtain ⟨v', z1, z2⟩ := HS.fz 5 (S := S.more x) (c := a3) (a := a) (b := b) h.d (by simpa [HS.more] using own7)
    simp only [HS.vs, HS.more, List.length_map] at z1
    refine Ok_some.2 ⟨_, _, z1, fun q hq => ?_, ⟨by show σ.next ≤ σ7.next; omega, fun q hq => ?_⟩, z2⟩
    · have := m5 q hq; omega
    · show σ7.blk q = _
      rw [o7 q (by omega), o6 q (fun hm => by have := m5 _ hm; omega), o5 q (by omega), m4 q (by omega) (by simp [SA.bk]; omega), E3.blk q hq]
/-- what all hold that isn't nil -/
theorem rhfilled_ok {σ : AH O} {S : HS} {a b c : SA} (h : S.st a b c) (hl : S.L.length ≤ 1000) :
    Ok (haymowref18_Filled [.agg (S.vs a b c)] σ) fun r => (∃ d, r.1 = .sl d S.filled.length ∧ Imm 1 d S.filled.length (S.filled.map (AV.i .u64))) ∧ Ext σ r.2 := by
  refine frz_ok (Q := fun v => ∃ d, v = .sl d S.filled.length ∧ Imm 1 d S.filled.length (S.filled.map (AV.i .u64))) ?_
  simp (config := { maxSteps := 2000000 }) -implicitDefEqProofs (disch := (first | omega | rfl | assumption | (simp only [rsD]; first | omega | assumption))) only [haymowref18_Filled_c, HS.vs, Nat.reduceAdd, Nat.reduceMul, Nat.reduceLT, Int.reduceToNat, Int.reduceAdd, Int.reduceSub, Int.reduceMul, rsU, rsC]
  generalize hσ : (σ.bump 1).put σ.next _ = σ1
  obtain ⟨E1, b1, n1⟩ := boxed hσ
  clear hσ
  have fl : ∀ k, k ≤ S.L.length → (((S.L.take k).map (·.2)).filter (· != 0)).length ≤ k := fun k hk => by
    refine Nat.le_trans (List.length_filter_le _ _) ?_
    simp; omega
  refine Ok.step (Q := fun s => ∃ σ' d, s = ([.sl d S.filled.length], σ') ∧ OwnS σ' T_uint64 1 d S.filled.length (S.filled.map (AV.i .u64)) ∧ (∀ q ∈ SA.bk d, σ1.next ≤ q) ∧ Ext σ1 σ') ?_ ?_
  · refine Ok.count S.L.length (fun k s => ∃ σ' d, s = ([.sl d (((S.L.take k).map (·.2)).filter (· != 0)).length, .i .i64 (k : Int)], σ') ∧ OwnS σ' T_uint64 1 d (((S.L.take k).map (·.2)).filter (· != 0)).length ((((S.L.take k).map (·.2)).filter (· != 0)).map (AV.i .u64)) ∧ (∀ q ∈ SA.bk d, σ1.next ≤ q) ∧ Ext σ1 σ') ?_ ?_ ⟨σ1, .nil, rfl, OwnS.nil _ _ _, by simp [SA.bk], Ext.refl _⟩
    · rintro k s hk ⟨σ2, d, rfl, w2, o2, E2⟩
      have hx := List.getElem?_eq_getElem hk
      have hf := fl k (by omega)
      have hs : ((S.L.take (k + 1)).map (·.2)).filter (· != 0) = ((S.L.take k).map (·.2)).filter (· != 0) ++ (if S.L[k].2 = 0 then [] else [S.L[k].2]) := by
        rw [List.take_succ_eq_append_getElem hk, List.map_append, List.filter_append]
        congr 1
        by_cases c : S.L[k].2 = 0 <;> simp [c]
      generalize S.L[k] = p at hx hs
      rw [hs]
      clear hs
      generalize ((S.L.take k).map (·.2)).filter (· != 0) = F at *
      have c1 : σ2.blk σ.next = _ := (E2.blk _ (by omega)).trans b1
      have n2 := E2.next
      obtain ⟨q, o, rfl, hld⟩ := Imm.row hcell_len h.l hx (by decide)
      have ld1 : ∀ σ : AH O, σ.ld q (o + k * 2 + 1) = some (.i .u64 p.2) := fun σ => hld O σ 1 (by decide)
      by_cases hz : p.2 = 0
      · have q0 : (p.2 == 0) = true := s_eqT hz
        simp (config := { maxSteps := 2000000 }) -implicitDefEqProofs (disch := (first | omega | rfl | assumption | (simp only [rsD]; first | omega | assumption))) only [haymowref18_Filled_L1, c1, ld1, q0, Nat.reduceAdd, Nat.reduceMul, Nat.reduceLT, Int.reduceToNat, Int.reduceAdd, Int.reduceSub, Int.reduceMul, rsU, rsC]
        rw [if_pos hz, List.append_nil]
        exact Ok_some.2 ⟨σ2, d, by simp, w2, o2, E2⟩
      · have q0 : (p.2 == 0) = false := s_eqF hz
        simp (config := { maxSteps := 2000000 }) -implicitDefEqProofs (disch := (first | omega | rfl | assumption | (simp only [rsD]; first | omega | assumption))) only [haymowref18_Filled_L1, c1, ld1, q0, Nat.reduceAdd, Nat.reduceMul, Nat.reduceLT, Int.reduceToNat, Int.reduceAdd, Int.reduceSub, Int.reduceMul, rsU, rsC]
        rw [if_neg hz]
        generalize hσ : (σ2.bump 2).put σ2.next _ = σ3
        have n3 : σ3.next = σ2.next + 2 := by rw [← hσ]; rfl
        have o3 : ∀ q, q ≠ σ2.next → σ3.blk q = σ2.blk q := fun q h2 => by rw [← hσ]; exact s_bn h2
        clear hσ
        have w3 := w2.of (σ' := σ3) (by omega) fun q hq => o3 q (by have := w2.lt q hq; omega)
        refine Ok.step (app_ok (nid := σ2.next + 1) w3 (fun hm => by have := w2.lt _ hm; omega) (by omega) (show ([.i .u64 p.2] : List AV).length = 1 * 1 from rfl)) fun q ⟨a4, k1, k2, k3, k4, k5⟩ => ?_
        obtain ⟨q, σ4⟩ := q
        simp only at k1 k2 k3 k4
        subst k1
        simp (config := { maxSteps := 2000000 }) -implicitDefEqProofs (disch := (first | omega | rfl | assumption | (simp only [rsD]; first | omega | assumption))) only [Nat.reduceAdd, Nat.reduceMul, Nat.reduceLT, Int.reduceToNat, Int.reduceAdd, Int.reduceSub, Int.reduceMul, rsU, rsC]
        have hE : F.map (AV.i .u64) ++ [.i .u64 p.2] = (F ++ [p.2]).map (AV.i .u64) := by simp
        have hlen : F.length + 1 = (F ++ [p.2]).length := by simp
        rw [hE, hlen] at k2
        rw [hlen]
        refine Ok_some.2 ⟨σ4, a4, by simp, k2, fun q hq => by have := k5 q hq; omega, ⟨by omega, fun q hq => ?_⟩⟩
        rw [k4 q (by omega) (fun hm => by have := o2 _ hm; omega), o3 q (by omega), E2.blk q hq]
    · rintro s ⟨σ2, d, rfl, w2, o2, E2⟩
      have c1 : σ2.blk σ.next = _ := (E2.blk _ (by omega)).trans b1
      simp (config := { maxSteps := 2000000 }) -implicitDefEqProofs (disch := (first | omega | rfl | assumption | (simp only [rsD]; first | omega | assumption))) only [haymowref18_Filled_L1, c1, Nat.reduceAdd, Nat.reduceMul, Nat.reduceLT, Int.reduceToNat, Int.reduceAdd, Int.reduceSub, Int.reduceMul, rsU, rsC]
      rw [List.take_length] at w2
      exact Ok_some.2 ⟨σ2, d, rfl, w2, o2, E2⟩
  · rintro _ ⟨σ2, d, rfl, w2, o2, E2⟩
    simp (config := { maxSteps := 2000000 }) -implicitDefEqProofs (disch := (first | omega | rfl | assumption | (simp only [rsD]; first | omega | assumption))) only [Nat.reduceAdd, Nat.reduceMul, Nat.reduceLT, Int.reduceToNat, Int.reduceAdd, Int.reduceSub, Int.reduceMul, rsU, rsC]
    obtain ⟨d', f, m⟩ := FZ.sl (d := 6) w2 (fun _ _ => rfl) (FZL.flat (flat_ints _)) rfl (by simp)
    rw [List.append_nil] at f
    exact Ok_some.2 ⟨_, _, f, fun q hq => by have := o2 q hq; omega, E1.trans E2, d', rfl, m⟩
end Go.Abs.Try
