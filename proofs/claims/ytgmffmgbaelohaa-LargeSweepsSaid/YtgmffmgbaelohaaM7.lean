/-
  Layers 1 and 7: wide numbers and meters, as they are run. No conditions.
-/
import Derived.Test.YtgmffmgbaelohaaS6g
import Derived.Test.YtgmffmgbaelohaaAbsSl
set_option linter.unusedVariables false
set_option linter.unusedSimpArgs false
set_option linter.constructorNameAsVariable false
set_option linter.unusedSimpArgs false
namespace Go.Abs.Try
open Go Go.Abs
variable {O : Type}

/-! ### Wide numbers -/
def wcs (w : Int) : List AV := [.i .u64 (w / 18446744073709551616), .i .u64 (w % 18446744073709551616)]
theorem of_ok {n : Int} {σ : AH O} (h : 0 ≤ n ∧ n < 18446744073709551616) : Ok (wide_Of [.i .u64 n] σ) fun r => r.1 = .agg (wcs n) ∧ Ext σ r.2 := by
  simp (config := { maxSteps := 2000000 }) -implicitDefEqProofs (disch := (first | omega | rfl | assumption | (simp only [rsD]; first | omega | assumption))) only [wide_Of, wide_Of_c, Nat.reduceAdd, Nat.reduceMul, Nat.reduceLT, Int.reduceToNat, Int.reduceAdd, Int.reduceSub, Int.reduceMul, rsU, rsC]
  refine Ok_some.2 ⟨?_, (ext_of (by simp only [put_next, bump_next, kill_next]; omega) (fun b hb => by simp -implicitDefEqProofs (disch := (first | omega | rfl | assumption | (simp only [rsD]; first | omega | assumption))) only [s_bn, s_kn, bump_blk, s_ext]))⟩
  have e1 : n / 18446744073709551616 = 0 := by omega
  have e2 : n % 18446744073709551616 = n := by omega
  simp only [wcs, e1, e2]
theorem add64_eq {x y c : Int} {σ : AH O} (hx : 0 ≤ x) (hy : 0 ≤ y) (hc : 0 ≤ c ∧ c ≤ 1) : bits_Add64 [.i .u64 x, .i .u64 y, .i .u64 c] σ = some (.tup [.i .u64 ((x + y + c) % 18446744073709551616), .i .u64 ((x + y + c) / 18446744073709551616)], σ) := by
  simp (config := { maxSteps := 2000000 }) -implicitDefEqProofs (disch := (first | omega | rfl | assumption | (simp only [rsD]; first | omega | assumption))) only [bits_Add64, Nat.reduceAdd, Nat.reduceMul, Nat.reduceLT, Int.reduceToNat, Int.reduceAdd, Int.reduceSub, Int.reduceMul, rsU, rsC]
/-- 'a + b', where it has room -/
theorem wadd_ok {a b : Int} {σ : AH O} (h1 : 0 ≤ a) (h2 : 0 ≤ b) (h : a + b < 340282366920938463463374607431768211456) :
    Ok (wide_Add [.agg (wcs a), .agg (wcs b)] σ) fun r => r.1 = .tup [.agg (wcs (a + b)), .b true] ∧ Ext σ r.2 := by
  simp (config := { maxSteps := 2000000 }) -implicitDefEqProofs (disch := (first | omega | rfl | assumption | (simp only [rsD]; first | omega | assumption))) only [wide_Add, wide_Add_c, wcs, Nat.reduceAdd, Nat.reduceMul, Nat.reduceLT, Int.reduceToNat, Int.reduceAdd, Int.reduceSub, Int.reduceMul, rsU, rsC]
  rw [add64_eq (by omega) (by omega) (by omega)]
  simp (config := { maxSteps := 2000000 }) -implicitDefEqProofs (disch := (first | omega | rfl | assumption | (simp only [rsD]; first | omega | assumption))) only [Nat.reduceAdd, Nat.reduceMul, Nat.reduceLT, Int.reduceToNat, Int.reduceAdd, Int.reduceSub, Int.reduceMul, rsU, rsC]
  rw [add64_eq (by omega) (by omega) (by omega)]
  simp (config := { maxSteps := 2000000 }) -implicitDefEqProofs (disch := (first | omega | rfl | assumption | (simp only [rsD]; first | omega | assumption))) only [Nat.reduceAdd, Nat.reduceMul, Nat.reduceLT, Int.reduceToNat, Int.reduceAdd, Int.reduceSub, Int.reduceMul, rsU, rsC]
  refine Ok_some.2 ⟨?_, (ext_of (by simp only [put_next, bump_next, kill_next]; omega) (fun b hb => by simp -implicitDefEqProofs (disch := (first | omega | rfl | assumption | (simp only [rsD]; first | omega | assumption))) only [s_bn, s_kn, bump_blk, s_ext]))⟩
  have e1 : (a / 18446744073709551616 + b / 18446744073709551616 + (a % 18446744073709551616 + b % 18446744073709551616 + 0) / 18446744073709551616) % 18446744073709551616 = (a + b) / 18446744073709551616 := by omega
  have e2 : (a % 18446744073709551616 + b % 18446744073709551616 + 0) % 18446744073709551616 = (a + b) % 18446744073709551616 := by omega
  rw [e1, e2]

/-! ### A meter: six cells -/
structure Met where
  r : Int
  w : Int
  held : Int
  high : Int
def Met.cells (m : Met) : List AV := [.i .u64 (m.r / 18446744073709551616), .i .u64 (m.r % 18446744073709551616), .i .u64 (m.w / 18446744073709551616), .i .u64 (m.w % 18446744073709551616), .i .i64 m.held, .i .i64 m.high]
structure MetAt (σ : AH O) (b : Nat) (m : Met) : Prop where
  lt : b < σ.next
  blk : ∃ el, σ.blk b = some (.cells true el m.cells)
structure Met.ok (m : Met) : Prop where
  r : 0 ≤ m.r ∧ m.r < 170141183460469231731687303715884105728
  w : 0 ≤ m.w ∧ m.w < 170141183460469231731687303715884105728
  held : 0 ≤ m.held ∧ m.held ≤ 281474976710656
  high : m.held ≤ m.high ∧ m.high ≤ 281474976710656
def Met.zero : Met := ⟨0, 0, 0, 0⟩
theorem MetAt.of {σ σ' : AH O} {b : Nat} {m : Met} (h : MetAt σ b m) (hn : σ.next ≤ σ'.next) (hb : σ'.blk b = σ.blk b) : MetAt σ' b m := ⟨Nat.lt_of_lt_of_le h.lt hn, by rw [hb]; exact h.blk⟩
theorem MetAt.chg {σ σ' : AH O} {L : List Nat} {b : Nat} {m : Met} (h : MetAt σ b m) (hc : Chg L σ σ') (hb : b ∉ L) : MetAt σ' b m := h.of hc.next (hc.blk b h.lt hb)

theorem held_ok {σ : AH O} {b : Nat} {m : Met} (h : MetAt σ b m) : meter_Meter__Held [.p (some (.n b, 0))] σ = some (.i .i64 m.held, σ) := by
  obtain ⟨el, hb⟩ := h.blk
  simp (config := { maxSteps := 2000000 }) -implicitDefEqProofs (disch := (first | omega | rfl | assumption | (simp only [rsD]; first | omega | assumption))) only [meter_Meter__Held, meter_Meter__Held_c, hb, Met.cells, Nat.reduceAdd, Nat.reduceMul, Nat.reduceLT, Int.reduceToNat, Int.reduceAdd, Int.reduceSub, Int.reduceMul, rsU, rsC]
def Met.hold (m : Met) (n : Int) : Met := { m with held := m.held + n, high := max m.high (m.held + n) }
def Met.free (m : Met) (n : Int) : Met := { m with held := m.held - n }
theorem hold_ok {σ : AH O} {b : Nat} {m : Met} {n : Int} (h : MetAt σ b m) (hm : m.ok) (hn : 0 ≤ n) (hn' : m.held + n ≤ 281474976710656) :
    Ok (meter_Meter__Hold [.p (some (.n b, 0)), .i .i64 n] σ) fun r => r.1 = .i .i64 0 ∧ MetAt r.2 b (m.hold n) ∧ Chg [b] σ r.2 := by
  obtain ⟨el, hb⟩ := h.blk
  have hlt := h.lt
  have h1 := hm.held
  have h2 := hm.high
  have hmax : (if m.held + n > m.high then m.held + n else m.high) = max m.high (m.held + n) := by
    split <;> omega
  simp (config := { maxSteps := 2000000 }) -implicitDefEqProofs (disch := (first | omega | rfl | assumption | (simp only [rsD]; first | omega | assumption))) only [meter_Meter__Hold, meter_Meter__Hold_c, meter_words__open, meter_words__open_c, hb, Met.cells, Nat.reduceAdd, Nat.reduceMul, Nat.reduceLT, Int.reduceToNat, Int.reduceAdd, Int.reduceSub, Int.reduceMul, rsU, rsC]
  refine Ok_some.2 ⟨rfl, ⟨hlt, el, ?_⟩, ((Chg.refl _ _).put (.inl (by simp)) _)⟩
  simp only [s_bs, Met.cells, Met.hold, hmax]
theorem free_ok {σ : AH O} {b : Nat} {m : Met} {n : Int} (h : MetAt σ b m) (hm : m.ok) (hn : 0 ≤ n) (hn' : n ≤ m.held) :
    Ok (meter_Meter__Free [.p (some (.n b, 0)), .i .i64 n] σ) fun r => r.1 = .i .i64 0 ∧ MetAt r.2 b (m.free n) ∧ Chg [b] σ r.2 := by
  obtain ⟨el, hb⟩ := h.blk
  have hlt := h.lt
  have h1 := hm.held
  simp (config := { maxSteps := 2000000 }) -implicitDefEqProofs (disch := (first | omega | rfl | assumption | (simp only [rsD]; first | omega | assumption))) only [meter_Meter__Free, meter_Meter__Free_c, hb, Met.cells, Nat.reduceAdd, Nat.reduceMul, Nat.reduceLT, Int.reduceToNat, Int.reduceAdd, Int.reduceSub, Int.reduceMul, rsU, rsC]
  exact Ok_some.2 ⟨rfl, ⟨hlt, el, by simp only [s_bs]; rfl⟩, ((Chg.refl _ _).put (.inl (by simp)) _)⟩
theorem mnew_ok {σ : AH O} : Ok (meter_New [] σ) fun r => r.1 = .p (some (.n σ.next, 0)) ∧ MetAt r.2 σ.next Met.zero ∧ Ext σ r.2 ∧ r.2.next = σ.next + 1 := by
  simp (config := { maxSteps := 2000000 }) -implicitDefEqProofs (disch := (first | omega | rfl | assumption | (simp only [rsD]; first | omega | assumption))) only [meter_New, meter_New_c, Nat.reduceAdd, Nat.reduceMul, Nat.reduceLT, Int.reduceToNat, Int.reduceAdd, Int.reduceSub, Int.reduceMul, rsU, rsC]
  exact Ok_some.2 ⟨rfl, ⟨by simp, _, by simp only [s_bs]; rfl⟩, (ext_of (by simp only [put_next, bump_next, kill_next]; omega) (fun b hb => by simp -implicitDefEqProofs (disch := (first | omega | rfl | assumption | (simp only [rsD]; first | omega | assumption))) only [s_bn, s_kn, bump_blk, s_ext])), rfl⟩
/-- so many reads more -/
theorem step_r_ok {σ : AH O} {b : Nat} {m : Met} {n : Int} (h : MetAt σ b m) (h1 : 0 ≤ m.r ∧ m.r < 170141183460469231731687303715884105728) (hn : 1 ≤ n) (hn' : n ≤ 9223372036854775807) :
    Ok (meter_Meter__Step [.p (some (.n b, 0)), .i .i64 0, .i .i64 n] σ) fun r => r.1 = .tup [] ∧ MetAt r.2 b { m with r := m.r + n } ∧ Chg [b] σ r.2 := by
  obtain ⟨el, hb⟩ := h.blk
  have hlt := h.lt
  simp (config := { maxSteps := 2000000 }) -implicitDefEqProofs (disch := (first | omega | rfl | assumption | (simp only [rsD]; first | omega | assumption))) only [meter_Meter__Step, meter_Meter__Step_c, hb, Met.cells, Int.toNat_zero, Nat.zero_mul, Nat.reduceAdd, Nat.reduceMul, Nat.reduceLT, Int.reduceToNat, Int.reduceAdd, Int.reduceSub, Int.reduceMul, rsU, rsC]
  refine Ok.step (of_ok (by omega)) fun r ⟨g1, g2⟩ => ?_
  obtain ⟨q, σ1⟩ := r
  simp only at g1 g2
  subst g1
  have hb1 : σ1.blk b = _ := (g2.blk b hlt).trans hb
  simp (config := { maxSteps := 2000000 }) -implicitDefEqProofs (disch := (first | omega | rfl | assumption | (simp only [rsD]; first | omega | assumption))) only [hb1, wcs, Met.cells, Int.toNat_zero, Nat.zero_mul, s_chk, Nat.reduceAdd, Nat.reduceMul, Nat.reduceLT, Int.reduceToNat, Int.reduceAdd, Int.reduceSub, Int.reduceMul, rsU, rsC]
  have := wadd_ok (σ := σ1) h1.1 (show 0 ≤ n by omega) (by omega)
  simp only [wcs] at this
  refine Ok.step this fun r ⟨g3, g4⟩ => ?_
  obtain ⟨q, σ2⟩ := r
  simp only at g3 g4
  subst g3
  have hb2 : σ2.blk b = _ := (g4.blk b (Nat.lt_of_lt_of_le hlt g2.next)).trans hb1
  simp (config := { maxSteps := 2000000 }) -implicitDefEqProofs (disch := (first | omega | rfl | assumption | (simp only [rsD]; first | omega | assumption))) only [hb2, Met.cells, Int.toNat_zero, Nat.zero_mul, Nat.reduceAdd, Nat.reduceMul, Nat.reduceLT, Int.reduceToNat, Int.reduceAdd, Int.reduceSub, Int.reduceMul, rsU, rsC]
  exact Ok_some.2 ⟨rfl, ⟨by simp only [put_next]; have := g2.next; have := g4.next; omega, el, by simp only [s_bs]; rfl⟩, (g2.trans g4).chg.put (.inl (by simp)) _⟩
/-- so many writes more -/
theorem step_w_ok {σ : AH O} {b : Nat} {m : Met} {n : Int} (h : MetAt σ b m) (h1 : 0 ≤ m.w ∧ m.w < 170141183460469231731687303715884105728) (hn : 1 ≤ n) (hn' : n ≤ 9223372036854775807) :
    Ok (meter_Meter__Step [.p (some (.n b, 0)), .i .i64 1, .i .i64 n] σ) fun r => r.1 = .tup [] ∧ MetAt r.2 b { m with w := m.w + n } ∧ Chg [b] σ r.2 := by
  obtain ⟨el, hb⟩ := h.blk
  have hlt := h.lt
  have t1 : (1 : Int).toNat = 1 := rfl
  simp (config := { maxSteps := 2000000 }) -implicitDefEqProofs (disch := (first | omega | rfl | assumption | (simp only [rsD]; first | omega | assumption))) only [meter_Meter__Step, meter_Meter__Step_c, hb, Met.cells, t1, Nat.one_mul, Nat.reduceAdd, Nat.reduceMul, Nat.reduceLT, Int.reduceToNat, Int.reduceAdd, Int.reduceSub, Int.reduceMul, rsU, rsC]
  refine Ok.step (of_ok (by omega)) fun r ⟨g1, g2⟩ => ?_
  obtain ⟨q, σ1⟩ := r
  simp only at g1 g2
  subst g1
  have hb1 : σ1.blk b = _ := (g2.blk b hlt).trans hb
  simp (config := { maxSteps := 2000000 }) -implicitDefEqProofs (disch := (first | omega | rfl | assumption | (simp only [rsD]; first | omega | assumption))) only [hb1, wcs, Met.cells, t1, Nat.one_mul, s_chk, Nat.reduceAdd, Nat.reduceMul, Nat.reduceLT, Int.reduceToNat, Int.reduceAdd, Int.reduceSub, Int.reduceMul, rsU, rsC]
  have := wadd_ok (σ := σ1) h1.1 (show 0 ≤ n by omega) (by omega)
  simp only [wcs] at this
  refine Ok.step this fun r ⟨g3, g4⟩ => ?_
  obtain ⟨q, σ2⟩ := r
  simp only at g3 g4
  subst g3
  have hb2 : σ2.blk b = _ := (g4.blk b (Nat.lt_of_lt_of_le hlt g2.next)).trans hb1
  simp (config := { maxSteps := 2000000 }) -implicitDefEqProofs (disch := (first | omega | rfl | assumption | (simp only [rsD]; first | omega | assumption))) only [hb2, Met.cells, t1, Nat.one_mul, Nat.reduceAdd, Nat.reduceMul, Nat.reduceLT, Int.reduceToNat, Int.reduceAdd, Int.reduceSub, Int.reduceMul, rsU, rsC]
  exact Ok_some.2 ⟨rfl, ⟨by simp only [put_next]; have := g2.next; have := g4.next; omega, el, by simp only [s_bs]; rfl⟩, (g2.trans g4).chg.put (.inl (by simp)) _⟩
/-- a number below 1 counts nothing -/
theorem step_none {σ : AH O} {b : Nat} {k n : Int} (hn : n < 1) : meter_Meter__Step [.p (some (.n b, 0)), .i .i64 k, .i .i64 n] σ = some (.tup [], σ) := by
  have e : ∀ c : Bool, (bif c then true else true) = true := by decide
  simp (config := { maxSteps := 2000000 }) -implicitDefEqProofs (disch := (first | omega | rfl | assumption | (simp only [rsD]; first | omega | assumption))) only [meter_Meter__Step, meter_Meter__Step_c, e, Nat.reduceAdd, Nat.reduceMul, Nat.reduceLT, Int.reduceToNat, Int.reduceAdd, Int.reduceSub, Int.reduceMul, rsU, rsC]
end Go.Abs.Try
