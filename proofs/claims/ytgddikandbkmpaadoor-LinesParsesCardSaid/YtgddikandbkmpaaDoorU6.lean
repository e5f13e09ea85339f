/-
  The program's reading of numbers: digits.Read. No conditions.
-/
import Derived.Test.YtgddikandbkmpaaDoorU1
set_option linter.unusedVariables false
set_option linter.unusedSimpArgs false
set_option linter.constructorNameAsVariable false
set_option linter.unusedSimpArgs false
set_option linter.unusedVariables false
set_option maxHeartbeats 2000000
namespace Go.Abs.Tryd
open Go Go.Abs
variable {O : Type}
theorem preL_ok {σ : AH O} {s p : Bs} : Ok (stringslite_HasPrefix [.s s, .s p] σ) fun r => r = (.b (decide (s.take p.length = p)), σ) := by
  have t1 : (true == true) = true := rfl
  have t2 : (false == true) = false := rfl
  by_cases hl : p.length ≤ s.length
  · have g1 : decide ((s.length : Int) ≥ (p.length : Int)) = true := decide_eq_true (by omega)
    have g2 : decide ((0 : Int) ≤ (p.length : Int)) = true := decide_eq_true (by omega)
    have g3 : decide ((p.length : Int) ≤ (s.length : Int)) = true := decide_eq_true (by omega)
    have t3 : (true && true) = true := rfl
    simp -implicitDefEqProofs only [stringslite_HasPrefix, stringslite_HasPrefix_c, g1, g2, g3, t1, t3, Int.toNat_natCast, Nat.sub_zero, List.drop_zero, Nat.reduceAdd, Nat.reduceMul, Nat.reduceLT, Int.reduceToNat, Int.reduceAdd, Int.reduceSub, Int.reduceMul, rsU, s_ldI, s_ldU, s_ldS, s_ldP, s_gtI, s_gtU, s_gtS, s_bleD, Nat.reduceLeDiff, decide_true, decide_false]
    refine Ok_some.2 ?_
    have : (s.take p.length == p) = decide (s.take p.length = p) := by
      by_cases h : s.take p.length = p <;> simp [h]
    rw [this]
  · have g1 : decide ((s.length : Int) ≥ (p.length : Int)) = false := decide_eq_false (by omega)
    simp -implicitDefEqProofs only [stringslite_HasPrefix, stringslite_HasPrefix_c, g1, t2, Nat.reduceAdd, Nat.reduceMul, Nat.reduceLT, Int.reduceToNat, Int.reduceAdd, Int.reduceSub, Int.reduceMul, rsU, s_ldI, s_ldU, s_ldS, s_ldP, s_gtI, s_gtU, s_gtS, s_bleD, Nat.reduceLeDiff, decide_true, decide_false]
    refine Ok_some.2 ?_
    have : decide (s.take p.length = p) = false := decide_eq_false fun h => hl (by have := congrArg List.length h; simp at this; omega)
    rw [this]
theorem pre_ok {σ : AH O} {s p : Bs} : Ok (strings_HasPrefix [.s s, .s p] σ) fun r => r = (.b (decide (s.take p.length = p)), σ) := by
  simp -implicitDefEqProofs only [strings_HasPrefix, strings_HasPrefix_c, Nat.reduceAdd, Nat.reduceMul, Nat.reduceLT, Int.reduceToNat, Int.reduceAdd, Int.reduceSub, Int.reduceMul, rsU, s_ldI, s_ldU, s_ldS, s_ldP, s_gtI, s_gtU, s_gtS, s_bleD, Nat.reduceLeDiff, decide_true, decide_false]
  refine Ok.step preL_ok ?_
  rintro _ rfl
  simp -implicitDefEqProofs only [Nat.reduceAdd, Nat.reduceMul, Nat.reduceLT, Int.reduceToNat, Int.reduceAdd, Int.reduceSub, Int.reduceMul, rsU, s_ldI, s_ldU, s_ldS, s_ldP, s_gtI, s_gtU, s_gtS, s_bleD, Nat.reduceLeDiff, decide_true, decide_false]
  exact Ok_some.2 rfl
theorem trim_ok {σ : AH O} {s : Bs} : Ok (strings_TrimPrefix [.s s, .s ([45] : List UInt8)] σ) fun r => r = (.s (noSign s), σ) := by
  simp -implicitDefEqProofs only [strings_TrimPrefix, strings_TrimPrefix_c, stringslite_TrimPrefix, stringslite_TrimPrefix_c, Nat.reduceAdd, Nat.reduceMul, Nat.reduceLT, Int.reduceToNat, Int.reduceAdd, Int.reduceSub, Int.reduceMul, rsU, s_ldI, s_ldU, s_ldS, s_ldP, s_gtI, s_gtU, s_gtS, s_bleD, Nat.reduceLeDiff, decide_true, decide_false]
  refine Ok.step preL_ok ?_
  rintro _ rfl
  have t3 : (true && true) = true := rfl
  by_cases h : s.take 1 = [45]
  · have g0 : decide (s.take ([45] : Bs).length = [45]) = true := decide_eq_true h
    have g0' : decide (s.take 1 = [45]) = true := decide_eq_true h
    have hl : 1 ≤ s.length := by have := congrArg List.length h; simp at this; omega
    have g2 : decide ((0 : Int) ≤ ((1 : Nat) : Int)) = true := rfl
    have g3 : decide (((1 : Nat) : Int) ≤ (s.length : Int)) = true := decide_eq_true (by omega)
    have g4 : decide ((s.length : Int) ≤ (s.length : Int)) = true := decide_eq_true (by omega)
    have e5 : List.take (s.length - 1) (List.drop 1 s) = noSign s := by
      cases s with
      | nil => simp at hl
      | cons c t => simp at h; subst h; simp [noSign]
    simp -implicitDefEqProofs only [g0, g0', g2, g3, g4, t3, e5, Nat.reduceAdd, Nat.reduceMul, Nat.reduceLT, Int.reduceToNat, Int.reduceAdd, Int.reduceSub, Int.reduceMul, rsU, s_ldI, s_ldU, s_ldS, s_ldP, s_gtI, s_gtU, s_gtS, s_bleD, Nat.reduceLeDiff, decide_true, decide_false]
    exact Ok_some.2 rfl
  · have g0 : decide (s.take ([45] : Bs).length = [45]) = false := decide_eq_false h
    have g0' : decide (s.take 1 = [45]) = false := decide_eq_false h
    have ns : noSign s = s := by
      unfold noSign; rw [if_neg]
      intro h2; apply h
      cases s with
      | nil => cases h2
      | cons c t => simp at h2; simp [h2]
    simp -implicitDefEqProofs only [g0, g0', Nat.reduceAdd, Nat.reduceMul, Nat.reduceLT, Int.reduceToNat, Int.reduceAdd, Int.reduceSub, Int.reduceMul, rsU, s_ldI, s_ldU, s_ldS, s_ldP, s_gtI, s_gtU, s_gtS, s_bleD, Nat.reduceLeDiff, decide_true, decide_false]
    exact Ok_some.2 (by rw [ns])
def shp (s : Bs) : Bool := !(decide (noSign s = [] ∨ ((noSign s).head? = some 48 ∧ 1 < s.length))) && (noSign s).all isD
theorem sl1_ok {σ : AH O} {d : Bs} (hl : d.length ≤ 1000000000) : Ok (loopF (S := List AV × AH O) (T := (List AV × AH O) ⊕ (AV × AH O)) (digits_shaped_L1 d) ([.i .i64 0], σ)) fun r => match r with | .inl q => q = ([], σ) ∧ d.all isD = true | .inr r => r = (.b false, σ) ∧ d.all isD = false := by
  refine Ok.count d.length (fun k q => q = ([.i .i64 (k : Int)], σ) ∧ (d.take k).all isD = true) ?_ ?_ ⟨rfl, by simp⟩
  · rintro k _ hk ⟨rfl, ha⟩
    have dk : decide ((k : Int) < (d.length : Int)) = true := decide_eq_true (by omega)
    have d0 : decide ((0 : Int) ≤ (k : Int)) = true := decide_eq_true (by omega)
    have e1 : IntKind.i64.wrap ((k : Int) + 1) = ((k + 1 : Nat) : Int) := by rw [i64_id (by omega) (by omega)]; omega
    have hg : d[k]? = some d[k] := List.getElem?_eq_getElem hk
    have ht : (d.take (k + 1)).all isD = ((d.take k).all isD && isD d[k]) := by rw [List.take_succ_eq_append_getElem hk, List.all_append]; simp
    have hn : isD d[k] = false → d.all isD = false := fun h => by
      rw [Bool.eq_false_iff]; intro e
      rw [List.all_eq_true.1 e _ (List.getElem_mem hk)] at h; cases h
    rw [ha, Bool.true_and] at ht
    generalize d[k] = c at *
    have t1 : (true == false) = false := rfl
    have t2 : (false == false) = true := rfl
    by_cases h48 : c.toNat < 48
    · have g1 : decide (((c.toNat : Nat) : Int) < 48) = true := decide_eq_true (by omega)
      simp (maxSteps := 2000000) -implicitDefEqProofs (disch := (first | omega | rfl | assumption | (simp only [rsD]; first | omega | assumption))) only [digits_shaped_L1, dk, d0, Int.toNat_natCast, hg, g1, t1, Nat.reduceAdd, Nat.reduceMul, Nat.reduceLT, Int.reduceToNat, Int.reduceAdd, Int.reduceSub, Int.reduceMul, rsU, rsC]
      exact Ok_some.2 ⟨rfl, hn (by unfold isD; exact decide_eq_false (by omega))⟩
    · have g1 : decide (((c.toNat : Nat) : Int) < 48) = false := decide_eq_false (by omega)
      by_cases h57 : 57 < c.toNat
      · have g2 : decide (((c.toNat : Nat) : Int) > 57) = true := decide_eq_true (by omega)
        simp (maxSteps := 2000000) -implicitDefEqProofs (disch := (first | omega | rfl | assumption | (simp only [rsD]; first | omega | assumption))) only [digits_shaped_L1, dk, d0, Int.toNat_natCast, hg, g1, g2, t2, Nat.reduceAdd, Nat.reduceMul, Nat.reduceLT, Int.reduceToNat, Int.reduceAdd, Int.reduceSub, Int.reduceMul, rsU, rsC]
        exact Ok_some.2 ⟨rfl, hn (by unfold isD; exact decide_eq_false (by omega))⟩
      · have g2 : decide (((c.toNat : Nat) : Int) > 57) = false := decide_eq_false (by omega)
        simp (maxSteps := 2000000) -implicitDefEqProofs (disch := (first | omega | rfl | assumption | (simp only [rsD]; first | omega | assumption))) only [digits_shaped_L1, dk, d0, Int.toNat_natCast, hg, g1, g2, t2, e1, Nat.reduceAdd, Nat.reduceMul, Nat.reduceLT, Int.reduceToNat, Int.reduceAdd, Int.reduceSub, Int.reduceMul, rsU, rsC]
        exact Ok_some.2 ⟨rfl, by rw [ht]; unfold isD; exact decide_eq_true (by omega)⟩
  · rintro _ ⟨rfl, ha⟩
    have dk : decide ((d.length : Int) < (d.length : Int)) = false := decide_eq_false (by omega)
    simp (maxSteps := 2000000) -implicitDefEqProofs (disch := (first | omega | rfl | assumption | (simp only [rsD]; first | omega | assumption))) only [digits_shaped_L1, dk, Nat.reduceAdd, Nat.reduceMul, Nat.reduceLT, Int.reduceToNat, Int.reduceAdd, Int.reduceSub, Int.reduceMul, rsU, rsC]
    exact Ok_some.2 ⟨rfl, by rw [List.take_length] at ha; exact ha⟩
theorem noSign_len (s : Bs) : (noSign s).length ≤ s.length := by unfold noSign; split <;> simp
theorem shaped_ok {σ : AH O} {s : Bs} (hl : s.length ≤ 1000000000) : Ok (digits_shaped [.s s] σ) fun r => r = (.b (shp s), σ) := by
  have t1 : (true == true) = true := rfl
  have t2 : (false == true) = false := rfl
  have t3 : (true == false) = false := rfl
  have t4 : (false == false) = true := rfl
  simp -implicitDefEqProofs only [digits_shaped, digits_shaped_c, Nat.reduceAdd, Nat.reduceMul, Nat.reduceLT, Int.reduceToNat, Int.reduceAdd, Int.reduceSub, Int.reduceMul, rsU, s_ldI, s_ldU, s_ldS, s_ldP, s_gtI, s_gtU, s_gtS, s_bleD, Nat.reduceLeDiff, decide_true, decide_false]
  refine Ok.step trim_ok ?_
  rintro _ rfl
  have hle := noSign_len s
  have hsh : shp s = (!(decide (noSign s = [] ∨ ((noSign s).head? = some 48 ∧ 1 < s.length))) && (noSign s).all isD) := rfl
  generalize noSign s = d at *
  have body : ¬ (d = [] ∨ (d.head? = some 48 ∧ 1 < s.length)) → Ok (bindS (S := List AV × AH O) (R := (AV × AH O)) (loopF (S := List AV × AH O) (T := (List AV × AH O) ⊕ (AV × AH O)) (digits_shaped_L1 d) ([(.i .i64 0)], σ)) fun r16 =>
      some ((.b true), r16.2)) fun r => r = (.b (shp s), σ) := fun nc => by
    rw [decide_eq_false nc, Bool.not_false, Bool.true_and] at hsh
    refine Ok.bindS (sl1_ok (by omega)) (fun q hq => ?_) (fun r hr => ?_)
    · obtain ⟨rfl, ha⟩ := hq
      simp -implicitDefEqProofs only [Nat.reduceAdd, Nat.reduceMul, Nat.reduceLT, Int.reduceToNat, Int.reduceAdd, Int.reduceSub, Int.reduceMul, rsU, s_ldI, s_ldU, s_ldS, s_ldP, s_gtI, s_gtU, s_gtS, s_bleD, Nat.reduceLeDiff, decide_true, decide_false]
      exact Ok_some.2 (by rw [hsh, ha])
    · obtain ⟨rfl, ha⟩ := hr
      rw [hsh, ha]
  by_cases hd : d = []
  · subst hd
    have z : (([] : List UInt8) == ([] : List UInt8)) = true := rfl
    simp -implicitDefEqProofs only [z, t1, t2, t3, t4, Nat.reduceAdd, Nat.reduceMul, Nat.reduceLT, Int.reduceToNat, Int.reduceAdd, Int.reduceSub, Int.reduceMul, rsU, s_ldI, s_ldU, s_ldS, s_ldP, s_gtI, s_gtU, s_gtS, s_bleD, Nat.reduceLeDiff, decide_true, decide_false]
    exact Ok_some.2 (by rw [hsh]; rfl)
  · have z : (d == ([] : List UInt8)) = false := by simpa using hd
    obtain ⟨e, hge⟩ : ∃ e, d[0]? = some e := ⟨d[0]'(List.length_pos_iff.2 hd), List.getElem?_eq_getElem _⟩
    have hh : d.head? = some e := by rw [List.head?_eq_getElem?]; exact hge
    by_cases h48 : e = 48
    · have q48 : (((e.toNat : Int) : Int) == 48) = true := by subst h48; rfl
      by_cases h1 : 1 < s.length
      · have res : shp s = false := by rw [hsh, decide_eq_true (.inr ⟨by rw [hh, h48], h1⟩)]; rfl
        have g2 : decide ((s.length : Int) > 1) = true := decide_eq_true (by omega)
        cases g1 : decide ((d.length : Int) > 1) with
        | true =>
          simp -implicitDefEqProofs only [z, hge, q48, g1, t1, t2, t3, t4, Nat.reduceAdd, Nat.reduceMul, Nat.reduceLT, Int.reduceToNat, Int.reduceAdd, Int.reduceSub, Int.reduceMul, rsU, s_ldI, s_ldU, s_ldS, s_ldP, s_gtI, s_gtU, s_gtS, s_bleD, Nat.reduceLeDiff, decide_true, decide_false]
          exact Ok_some.2 (by rw [res])
        | false =>
          simp -implicitDefEqProofs only [z, hge, q48, g1, g2, t1, t2, t3, t4, Nat.reduceAdd, Nat.reduceMul, Nat.reduceLT, Int.reduceToNat, Int.reduceAdd, Int.reduceSub, Int.reduceMul, rsU, s_ldI, s_ldU, s_ldS, s_ldP, s_gtI, s_gtU, s_gtS, s_bleD, Nat.reduceLeDiff, decide_true, decide_false]
          exact Ok_some.2 (by rw [res])
      · have g1 : decide ((d.length : Int) > 1) = false := decide_eq_false (by omega)
        have g2 : decide ((s.length : Int) > 1) = false := decide_eq_false (by omega)
        simp -implicitDefEqProofs only [z, hge, q48, g1, g2, t1, t2, t3, t4, Nat.reduceAdd, Nat.reduceMul, Nat.reduceLT, Int.reduceToNat, Int.reduceAdd, Int.reduceSub, Int.reduceMul, rsU, s_ldI, s_ldU, s_ldS, s_ldP, s_gtI, s_gtU, s_gtS, s_bleD, Nat.reduceLeDiff, decide_true, decide_false]
        exact body fun h => h.elim hd fun h => h1 h.2
    · have q48 : (((e.toNat : Int) : Int) == 48) = false := by
        simp; intro h; exact h48 (UInt8.toNat.inj (by have : e.toNat = 48 := by omega
                                                      exact this))
      simp -implicitDefEqProofs only [z, hge, q48, t1, t2, t3, t4, Nat.reduceAdd, Nat.reduceMul, Nat.reduceLT, Int.reduceToNat, Int.reduceAdd, Int.reduceSub, Int.reduceMul, rsU, s_ldI, s_ldU, s_ldS, s_ldP, s_gtI, s_gtU, s_gtS, s_bleD, Nat.reduceLeDiff, decide_true, decide_false]
      exact body fun h => h.elim hd fun h => h48 (by rw [hh] at h; exact Option.some.inj h.1)
end Go.Abs.Tryd
namespace Go.Abs.Tryd
open Go Go.Abs
variable {O : Type}
theorem ldF {d : Bs} {k : Nat} {c : UInt8} (h : d[k]? = some c) : (d.map fun c => AV.i .u8 (c.toNat : Int))[k]? = some (.i .u8 (c.toNat : Int)) := by
  rw [List.getElem?_map, h]; rfl
theorem valF_pre {d : Bs} (k : Nat) : valF 0 (d.take k) ≤ valF 0 d := by
  have h : valF 0 d = valF (valF 0 (d.take k)) (d.drop k) := by rw [← valF_append, List.take_append_drop]
  rw [h]
  have := valF_ge (valF 0 (d.take k)) (d.drop k)
  exact Nat.le_trans (Nat.le_mul_of_pos_right _ (Nat.pow_pos (by omega))) this
theorem gl1_ok {σ : AH O} {d : Bs} (hl : d.length ≤ 1000000000) (ha : d.all isD = true) : Ok (loopF (S := List AV × AH O) (T := (List AV × AH O) ⊕ (AV × AH O)) (digits_Read_L1 d) ([.i .i64 0, .i .i64 0], σ)) fun r => match r with | .inl q => q = ([.i .i64 (-(valF 0 d : Int))], σ) ∧ valF 0 d ≤ 9223372036854775808 | .inr r => r = (.tup [.i .i64 0, .i .i64 2], σ) ∧ 9223372036854775808 < valF 0 d := by
  refine Ok.count d.length (fun k q => q = ([.i .i64 (-(valF 0 (d.take k) : Int)), .i .i64 (k : Int)], σ) ∧ valF 0 (d.take k) ≤ 9223372036854775808) ?_ ?_ ⟨rfl, by simp [valF]⟩
  · rintro k _ hk ⟨rfl, hv⟩
    have dk : decide ((k : Int) < (d.length : Int)) = true := decide_eq_true (by omega)
    have d0 : decide ((0 : Int) ≤ (k : Int)) = true := decide_eq_true (by omega)
    have t3 : (true && true) = true := rfl
    have e1 : IntKind.i64.wrap ((k : Int) + 1) = ((k + 1 : Nat) : Int) := by rw [i64_id (by omega) (by omega)]; omega
    have hg : d[k]? = some d[k] := List.getElem?_eq_getElem hk
    have hv2 : valF 0 (d.take (k + 1)) = valF 0 (d.take k) * 10 + (d[k].toNat - 48) := by rw [List.take_succ_eq_append_getElem hk, valF_append]; rfl
    have hp := valF_pre (d := d) (k + 1)
    have hc := of_decide_eq_true (List.all_eq_true.1 ha _ (List.getElem_mem hk))
    rw [hv2] at *
    have ld := ldF hg
    have jj : 0 + k * 1 = k := by omega
    generalize d[k] = c at *
    generalize valF 0 (d.take k) = v at *
    have ec : IntKind.i64.wrap (IntKind.u8.wrap (((c.toNat : Nat) : Int) - 48)) = ((c.toNat - 48 : Nat) : Int) := by
      rw [u8_id (by omega) (by omega), i64_id (by omega) (by omega)]; omega
    have hx : c.toNat - 48 ≤ 9 := by omega
    generalize c.toNat - 48 = x at *
    have e2 : IntKind.i64.wrap (-9223372036854775808 + (x : Int)) = -((9223372036854775808 - x : Nat) : Int) := by rw [i64_id (by omega) (by omega)]; omega
    have e3 : Int.tdiv (-((9223372036854775808 - x : Nat) : Int)) 10 = -(((9223372036854775808 - x) / 10 : Nat) : Int) := by rw [Int.neg_tdiv, tdivN]
    have e4 : IntKind.i64.wrap (-(((9223372036854775808 - x) / 10 : Nat) : Int)) = -(((9223372036854775808 - x) / 10 : Nat) : Int) := i64_id (by omega) (by omega)
    by_cases hb : v * 10 + x ≤ 9223372036854775808
    · have g : decide (-(v : Int) < -(((9223372036854775808 - x) / 10 : Nat) : Int)) = false := decide_eq_false (by omega)
      have e5 : IntKind.i64.wrap (-(v : Int) * 10) = -(v : Int) * 10 := i64_id (by omega) (by omega)
      have e6 : IntKind.i64.wrap (-(v : Int) * 10 - (x : Int)) = -((v * 10 + x : Nat) : Int) := by rw [i64_id (by omega) (by omega)]; omega
      simp -implicitDefEqProofs only [digits_Read_L1, dk, d0, t3, Int.toNat_natCast, jj, ld, ec, e2, e3, e4, g, e5, e6, e1, Nat.reduceAdd, Nat.reduceMul, Nat.reduceLT, Int.reduceToNat, Int.reduceAdd, Int.reduceSub, Int.reduceMul, rsU, s_ldI, s_ldU, s_ldS, s_ldP, s_gtI, s_gtU, s_gtS, s_bleD, Nat.reduceLeDiff, decide_true, decide_false]
      exact Ok_some.2 ⟨rfl, hb⟩
    · have g : decide (-(v : Int) < -(((9223372036854775808 - x) / 10 : Nat) : Int)) = true := decide_eq_true (by omega)
      simp -implicitDefEqProofs only [digits_Read_L1, dk, d0, t3, Int.toNat_natCast, jj, ld, ec, e2, e3, e4, g, Nat.reduceAdd, Nat.reduceMul, Nat.reduceLT, Int.reduceToNat, Int.reduceAdd, Int.reduceSub, Int.reduceMul, rsU, s_ldI, s_ldU, s_ldS, s_ldP, s_gtI, s_gtU, s_gtS, s_bleD, Nat.reduceLeDiff, decide_true, decide_false]
      exact Ok_some.2 ⟨rfl, by omega⟩
  · rintro _ ⟨rfl, hv⟩
    have dk : decide ((d.length : Int) < (d.length : Int)) = false := decide_eq_false (by omega)
    simp -implicitDefEqProofs only [digits_Read_L1, dk, Nat.reduceAdd, Nat.reduceMul, Nat.reduceLT, Int.reduceToNat, Int.reduceAdd, Int.reduceSub, Int.reduceMul, rsU, s_ldI, s_ldU, s_ldS, s_ldP, s_gtI, s_gtU, s_gtS, s_bleD, Nat.reduceLeDiff, decide_true, decide_false]
    rw [List.take_length] at hv
    exact Ok_some.2 ⟨rfl, hv⟩
theorem gRead_ok {σ : AH O} {s : Bs} (hl : s.length ≤ 1000000000) : Ok (digits_Read [.s s] σ) fun r => r = (numA s, σ) := by
  simp -implicitDefEqProofs only [digits_Read, digits_Read_c, Nat.reduceAdd, Nat.reduceMul, Nat.reduceLT, Int.reduceToNat, Int.reduceAdd, Int.reduceSub, Int.reduceMul, rsU, s_ldI, s_ldU, s_ldS, s_ldP, s_gtI, s_gtU, s_gtS, s_bleD, Nat.reduceLeDiff, decide_true, decide_false]
  refine Ok.step (shaped_ok hl) ?_
  rintro _ rfl
  have hle := noSign_len s
  have hR : numR s = numR s := rfl
  cases hsh : shp s with
  | false =>
    have t1 : (!false) = true := rfl
    simp -implicitDefEqProofs only [t1, Nat.reduceAdd, Nat.reduceMul, Nat.reduceLT, Int.reduceToNat, Int.reduceAdd, Int.reduceSub, Int.reduceMul, rsU, s_ldI, s_ldU, s_ldS, s_ldP, s_gtI, s_gtU, s_gtS, s_bleD, Nat.reduceLeDiff, decide_true, decide_false]
    refine Ok_some.2 ?_
    unfold shp at hsh
    have : numR s = (0, 5) := by
      unfold numR
      by_cases h : noSign s = [] ∨ ((noSign s).head? = some 48 ∧ 1 < s.length)
      · rw [if_pos h]
      · rw [decide_eq_false h, Bool.not_false, Bool.true_and] at hsh
        rw [if_neg h, if_pos hsh]
    unfold numA; rw [this]; rfl
  | true =>
    have t1 : (!true) = false := rfl
    unfold shp at hsh
    rw [Bool.and_eq_true] at hsh
    obtain ⟨hc, ha⟩ := hsh
    have hc : ¬ (noSign s = [] ∨ ((noSign s).head? = some 48 ∧ 1 < s.length)) := fun h => by rw [decide_eq_true h] at hc; cases hc
    have hne : noSign s ≠ [] := fun h => hc (.inl h)
    have hs0 : 0 < s.length := Nat.lt_of_lt_of_le (List.length_pos_iff.2 hne) hle
    obtain ⟨c, hg⟩ : ∃ c, s[0]? = some c := ⟨s[0], List.getElem?_eq_getElem hs0⟩
    have hh : s.head? = some c := by rw [List.head?_eq_getElem?]; exact hg
    simp -implicitDefEqProofs only [t1, hg, Nat.reduceAdd, Nat.reduceMul, Nat.reduceLT, Int.reduceToNat, Int.reduceAdd, Int.reduceSub, Int.reduceMul, rsU, s_ldI, s_ldU, s_ldS, s_ldP, s_gtI, s_gtU, s_gtS, s_bleD, Nat.reduceLeDiff, decide_true, decide_false]
    refine Ok.step trim_ok ?_
    rintro _ rfl
    have bl : Nat.ble ((noSign s).length * 2) 35184372088832 = true := Nat.ble_eq_true_of_le (by omega)
    have bl' : decide ((noSign s).length * 2 ≤ 35184372088832) = true := decide_eq_true (by omega)
    have big : 19 < (noSign s).length → 9223372036854775808 < valF 0 (noSign s) := fun h => val_big ha (fun h48 => hc (.inr ⟨h48, by omega⟩)) h
    have nR : numR s = if 19 < (noSign s).length then (0, 2) else if (noSign s).length = s.length then (if 9223372036854775807 < valF 0 s then (0, 2) else ((valF 0 s : Int), 0)) else (if 9223372036854775808 < valF 0 (noSign s) then (0, 2) else (-(valF 0 (noSign s) : Int), 0)) := by
      conv => lhs; unfold numR
      rw [if_neg hc, ha, if_neg (by simp)]
    by_cases h45 : c = 45
    · have y45 : (((c.toNat : Int) : Int) == 45) = true := by subst h45; rfl
      have ns : noSign s = s.tail := by unfold noSign; rw [hh, h45]; simp
      have hlt : (noSign s).length ≠ s.length := by rw [ns]; simp; omega
      rw [if_neg hlt] at nR
      generalize noSign s = d at *
      simp -implicitDefEqProofs only [bl, bl', Nat.reduceAdd, Nat.reduceMul, Nat.reduceLT, Int.reduceToNat, Int.reduceAdd, Int.reduceSub, Int.reduceMul, rsU, s_ldI, s_ldU, s_ldS, s_ldP, s_gtI, s_gtU, s_gtS, s_bleD, Nat.reduceLeDiff, decide_true, decide_false]
      refine Ok.bindS (gl1_ok (by omega) ha) (fun q hq => ?_) (fun r hr => ?_)
      · obtain ⟨rfl, hv⟩ := hq
        simp -implicitDefEqProofs only [y45, Nat.reduceAdd, Nat.reduceMul, Nat.reduceLT, Int.reduceToNat, Int.reduceAdd, Int.reduceSub, Int.reduceMul, rsU, s_ldI, s_ldU, s_ldS, s_ldP, s_gtI, s_gtU, s_gtS, s_bleD, Nat.reduceLeDiff, decide_true, decide_false]
        refine Ok_some.2 ?_
        have h19 : ¬ 19 < d.length := fun h => by have := big h; omega
        unfold numA; rw [nR, if_neg h19, if_neg (by omega)]; rfl
      · obtain ⟨rfl, hv⟩ := hr
        have : numR s = (0, 2) := by rw [nR]; split <;> first | rfl | rw [if_pos hv]
        unfold numA; rw [this]; rfl
    · have y45 : (((c.toNat : Int) : Int) == 45) = false := by
        simp; intro h; exact h45 (UInt8.toNat.inj (by have : c.toNat = 45 := by omega
                                                      exact this))
      have ns : noSign s = s := by unfold noSign; rw [hh, if_neg (by simp [h45])]
      rw [ns] at nR big hc ha hne bl bl' ⊢
      rw [if_pos rfl] at nR
      simp -implicitDefEqProofs only [bl, bl', Nat.reduceAdd, Nat.reduceMul, Nat.reduceLT, Int.reduceToNat, Int.reduceAdd, Int.reduceSub, Int.reduceMul, rsU, s_ldI, s_ldU, s_ldS, s_ldP, s_gtI, s_gtU, s_gtS, s_bleD, Nat.reduceLeDiff, decide_true, decide_false]
      refine Ok.bindS (gl1_ok (by omega) ha) (fun q hq => ?_) (fun r hr => ?_)
      · obtain ⟨rfl, hv⟩ := hq
        have h19 : ¬ 19 < s.length := fun h => by have := big h; omega
        rw [if_neg h19] at nR
        generalize valF 0 s = v at *
        by_cases hv2 : 9223372036854775807 < v
        · have z : ((-(v : Int)) == -9223372036854775808) = true := by simp; omega
          simp -implicitDefEqProofs only [y45, z, Nat.reduceAdd, Nat.reduceMul, Nat.reduceLT, Int.reduceToNat, Int.reduceAdd, Int.reduceSub, Int.reduceMul, rsU, s_ldI, s_ldU, s_ldS, s_ldP, s_gtI, s_gtU, s_gtS, s_bleD, Nat.reduceLeDiff, decide_true, decide_false]
          refine Ok_some.2 ?_
          rw [if_pos hv2] at nR
          unfold numA; rw [nR]; rfl
        · have z : ((-(v : Int)) == -9223372036854775808) = false := by simp; omega
          have e0 : IntKind.i64.wrap (0 - -(v : Int)) = (v : Int) := by rw [i64_id (by omega) (by omega)]; omega
          simp -implicitDefEqProofs only [y45, z, e0, Nat.reduceAdd, Nat.reduceMul, Nat.reduceLT, Int.reduceToNat, Int.reduceAdd, Int.reduceSub, Int.reduceMul, rsU, s_ldI, s_ldU, s_ldS, s_ldP, s_gtI, s_gtU, s_gtS, s_bleD, Nat.reduceLeDiff, decide_true, decide_false]
          refine Ok_some.2 ?_
          rw [if_neg hv2] at nR
          unfold numA; rw [nR]; rfl
      · obtain ⟨rfl, hv⟩ := hr
        have : numR s = (0, 2) := by rw [nR]; split <;> first | rfl | rw [if_pos (by omega)]
        unfold numA; rw [this]; rfl
end Go.Abs.Tryd
namespace Go.Abs.Tryd
open Go Go.Abs
variable {O : Type}
abbrev Strs (a : SA) (ws : List Bs) : Prop := Imm 1 a ws.length (ws.map AV.s)
theorem strs_ref {a : SA} {ws : List Bs} (h : Strs a ws) {k : Nat} {w : Bs} (hw : ws[k]? = some w) : ∃ b o, SA.ref a = some (b, o) ∧ ∀ (O : Type) (σ : AH O), σ.ld b (o + k) = some (.s w) := by
  have hv : (ws.map AV.s)[k]? = some (.s w) := by rw [List.getElem?_map, hw]; rfl
  obtain ⟨b, o, rfl, h2⟩ := (h Unit ⟨fun _ => none, 0⟩).at1 hv
  refine ⟨b, o, rfl, fun O σ => ?_⟩
  obtain ⟨b', o', e, h3⟩ := (h O σ).at1 hv
  simp only [SA.loc.injEq] at e
  obtain ⟨rfl, rfl, -⟩ := e
  rw [Nat.mul_one] at h3; exact h3
theorem XLrnums_ok {σ : AH O} {a : SA} {ws : List Bs} (ha : Strs a ws) (hw : ∀ w ∈ ws, w.length ≤ 1000000000) (hn : ws.length ≤ 1000000) :
    Ok (loopF (S := List AV × AH O) (T := (List AV × AH O) ⊕ (AV × AH O)) (haymowref46_numbers_L1 (a, ws.length) haymowref03_Read) ([.sl .nil 0, .i .i64 0], σ)) fun r => match r with | .inl q => ∃ l a', lnumsR ws = some l ∧ q.1 = [.sl a' l.length] ∧ OwnS q.2 3 1 a' l.length (l.map (AV.i .i64)) ∧ Ext σ q.2 ∧ ∀ b ∈ SA.bk a', σ.next ≤ b | .inr q => lnumsR ws = none ∧ q.1 = .tup [.sl .nil 0, .b false] ∧ Ext σ q.2 := by
  refine Ok.count ws.length (fun k s => ∃ l a' σ', l.length = k ∧ s = ([.sl a' k, .i .i64 (k : Int)], σ') ∧ OwnS σ' 3 1 a' k (l.map (AV.i .i64)) ∧ Ext σ σ' ∧ (∀ b ∈ SA.bk a', σ.next ≤ b) ∧ lnumsR ws = (lnumsR (ws.drop k)).map (l ++ ·)) ?_ ?_ ⟨[], .nil, σ, rfl, rfl, OwnS.nil _ _ _, Ext.refl _, by simp [SA.bk], by simp⟩
  · rintro k _ hk ⟨l, a', σ', hl, rfl, own, E, fr, hr⟩
    have hx : ws[k]? = some ws[k] := List.getElem?_eq_getElem hk
    have hm := hw _ (List.getElem_mem hk)
    have hd : ws.drop k = ws[k] :: ws.drop (k + 1) := List.drop_eq_getElem_cons hk
    rw [hd, lnumsR] at hr
    generalize ws[k] = w at *
    obtain ⟨bb, oo, r1, ld⟩ := strs_ref ha hx
    have ld := ld O σ'
    have dk : decide ((k : Int) < (ws.length : Int)) = true := decide_eq_true (by omega)
    have d0 : decide ((0 : Int) ≤ (k : Int)) = true := decide_eq_true (by omega)
    have t3 : (true && true) = true := rfl
    have e1 : IntKind.i64.wrap ((k : Int) + 1) = ((k + 1 : Nat) : Int) := by rw [i64_id (by omega) (by omega)]; omega
    have bl : Nat.ble ((k + 1) * 9) 35184372088832 = true := Nat.ble_eq_true_of_le (by omega)
    have bl' : decide ((k + 1) * 9 ≤ 35184372088832) = true := decide_eq_true (by omega)
    have k1 : k * 1 = k := Nat.mul_one k
    simp -implicitDefEqProofs only [haymowref46_numbers_L1, dk, d0, t3, r1, Int.toNat_natCast, k1, ld, Nat.reduceAdd, Nat.reduceMul, Nat.reduceLT, Int.reduceToNat, Int.reduceAdd, Int.reduceSub, Int.reduceMul, rsU, s_ldI, s_ldU, s_ldS, s_ldP, s_gtI, s_gtU, s_gtS, s_bleD, Nat.reduceLeDiff, decide_true, decide_false]
    refine Ok.step (rRead_ok hm) ?_
    rintro _ rfl
    simp only [numA]
    by_cases h0 : (numR w).2 = 0
    · rw [if_pos h0] at hr
      have z : ((((numR w).2 : Nat) : Int) == 0) = true := by rw [h0]; rfl
      generalize (numR w).1 = n at *
      simp -implicitDefEqProofs only [z, Bool.not_true, Bool.not_false, Nat.reduceAdd, Nat.reduceMul, Nat.reduceLT, Int.reduceToNat, Int.reduceAdd, Int.reduceSub, Int.reduceMul, rsU, s_ldI, s_ldU, s_ldS, s_ldP, s_gtI, s_gtU, s_gtS, s_bleD, Nat.reduceLeDiff, decide_true, decide_false]
      simp -implicitDefEqProofs only [rdNew1, bl, bl', Nat.reduceAdd, Nat.reduceMul, Nat.reduceLT, Int.reduceToNat, Int.reduceAdd, Int.reduceSub, Int.reduceMul, rsU, s_ldI, s_ldU, s_ldS, s_ldP, s_gtI, s_gtU, s_gtS, s_bleD, Nat.reduceLeDiff, decide_true, decide_false]
      refine Ok.step (grow1 own) ?_
      rintro ⟨v, σ2⟩ ⟨a2, g1, g2, g3, g4⟩
      simp only at g1 g2 g3 g4
      subst g1
      simp -implicitDefEqProofs only [e1, Nat.reduceAdd, Nat.reduceMul, Nat.reduceLT, Int.reduceToNat, Int.reduceAdd, Int.reduceSub, Int.reduceMul, rsU, s_ldI, s_ldU, s_ldS, s_ldP, s_gtI, s_gtU, s_gtS, s_bleD, Nat.reduceLeDiff, decide_true, decide_false]
      refine Ok_some.2 ⟨l ++ [n], a2, σ2, by simp [hl], rfl, by simpa using g2, Chg.new E fr g3, fun b hb => by have := g4 b hb; have := E.next; omega, ?_⟩
      rw [hr]; simp [Function.comp_def]
    · rw [if_neg h0] at hr
      have z : ((((numR w).2 : Nat) : Int) == 0) = false := by simpa using h0
      simp -implicitDefEqProofs only [z, Bool.not_true, Bool.not_false, Nat.reduceAdd, Nat.reduceMul, Nat.reduceLT, Int.reduceToNat, Int.reduceAdd, Int.reduceSub, Int.reduceMul, rsU, s_ldI, s_ldU, s_ldS, s_ldP, s_gtI, s_gtU, s_gtS, s_bleD, Nat.reduceLeDiff, decide_true, decide_false]
      exact Ok_some.2 ⟨hr, rfl, E⟩
  · rintro _ ⟨l, a', σ', hl, rfl, own, E, fr, hr⟩
    have dk : decide ((ws.length : Int) < (ws.length : Int)) = false := decide_eq_false (by omega)
    simp -implicitDefEqProofs only [haymowref46_numbers_L1, dk, Nat.reduceAdd, Nat.reduceMul, Nat.reduceLT, Int.reduceToNat, Int.reduceAdd, Int.reduceSub, Int.reduceMul, rsU, s_ldI, s_ldU, s_ldS, s_ldP, s_gtI, s_gtU, s_gtS, s_bleD, Nat.reduceLeDiff, decide_true, decide_false]
    rw [List.drop_length, lnumsR] at hr
    refine Ok_some.2 ⟨l, a', by rw [hr]; simp, by rw [hl], by rw [hl]; exact own, E, fr⟩
theorem rnums_ok {σ : AH O} {a : SA} {ws : List Bs} (ha : Strs a ws) (hw : ∀ w ∈ ws, w.length ≤ 1000000000) (hn : ws.length ≤ 1000000) :
    Ok (haymowref46_numbers [.sl a ws.length] σ) fun r => (match lnumsR ws with | some l => ∃ a', r.1 = .tup [.sl a' l.length, .b true] ∧ Ints .i64 a' l | none => r.1 = .tup [.sl .nil 0, .b false]) ∧ Ext σ r.2 := by
  unfold haymowref46_numbers
  have key : Ok (haymowref46_numbers_c haymowref03_Read [.sl a ws.length] σ) fun r => (∃ l a', lnumsR ws = some l ∧ r.1 = .tup [.sl a' l.length, .b true] ∧ OwnS r.2 3 1 a' l.length (l.map (AV.i .i64)) ∧ Ext σ r.2 ∧ ∀ b ∈ SA.bk a', σ.next ≤ b) ∨ (lnumsR ws = none ∧ r.1 = .tup [.sl .nil 0, .b false] ∧ Ext σ r.2) := by
    simp -implicitDefEqProofs only [haymowref46_numbers_c, Nat.reduceAdd, Nat.reduceMul, Nat.reduceLT, Int.reduceToNat, Int.reduceAdd, Int.reduceSub, Int.reduceMul, rsU, s_ldI, s_ldU, s_ldS, s_ldP, s_gtI, s_gtU, s_gtS, s_bleD, Nat.reduceLeDiff, decide_true, decide_false]
    refine Ok.bindS (XLrnums_ok ha hw hn) (fun q hq => ?_) (fun r hr => ?_)
    · obtain ⟨l, a', h1, h2, h3, h4, h5⟩ := hq
      obtain ⟨q, σ2⟩ := q
      simp only at h2 h3 h4
      subst h2
      simp -implicitDefEqProofs only [Nat.reduceAdd, Nat.reduceMul, Nat.reduceLT, Int.reduceToNat, Int.reduceAdd, Int.reduceSub, Int.reduceMul, rsU, s_ldI, s_ldU, s_ldS, s_ldP, s_gtI, s_gtU, s_gtS, s_bleD, Nat.reduceLeDiff, decide_true, decide_false]
      exact Ok_some.2 (.inl ⟨l, a', h1, rfl, h3, h4, h5⟩)
    · exact .inr hr
  cases hR : lnumsR ws with
  | some l =>
    refine (frz_intsT (s := haymowref46_numbers_c haymowref03_Read) (k := .i64) (l := l) (vs := [.b true]) rfl (key.mono ?_)).mono fun r h => ⟨h.1.imp fun a' h => ⟨h.1, Ints.mk h.2⟩, h.2⟩
    rintro ⟨v, σ2⟩ (⟨l', a', h1, h2, h3, h4, h5⟩ | ⟨h1, _⟩)
    · rw [hR] at h1
      obtain rfl := Option.some.inj h1
      exact ⟨a', 3, h2, h3, h4, h5⟩
    · rw [hR] at h1; cases h1
  | none =>
    refine frz_ok (s := haymowref46_numbers_c haymowref03_Read) (Q := fun v => v = .tup [.sl .nil 0, .b false]) (key.mono ?_)
    rintro ⟨v, σ2⟩ (⟨l', a', h1, _⟩ | ⟨h1, h2, h3⟩)
    · rw [hR] at h1; cases h1
    · simp only at h2 h3; subst h2
      exact ⟨_, [], FZ.tup (FZL.flat rfl), by simp, h3, rfl⟩
theorem XLgall_ok {σ : AH O} {a : SA} {ws : List Bs} (ha : Strs a ws) (hw : ∀ w ∈ ws, w.length ≤ 1000000000) (hn : ws.length ≤ 1000000) :
    Ok (loopF (S := List AV × AH O) (T := (List AV × AH O) ⊕ (AV × AH O)) (lines_all_L1 (a, ws.length) digits_Read) ([.sl .nil 0, .i .i64 0], σ)) fun r => match r with | .inl q => ∃ l a', lnumsR ws = some l ∧ q.1 = [.sl a' l.length] ∧ OwnS q.2 3 1 a' l.length (l.map (AV.i .i64)) ∧ Ext σ q.2 ∧ ∀ b ∈ SA.bk a', σ.next ≤ b | .inr q => lnumsR ws = none ∧ q.1 = .tup [.sl .nil 0, .b false] ∧ Ext σ q.2 := by
  refine Ok.count ws.length (fun k s => ∃ l a' σ', l.length = k ∧ s = ([.sl a' k, .i .i64 (k : Int)], σ') ∧ OwnS σ' 3 1 a' k (l.map (AV.i .i64)) ∧ Ext σ σ' ∧ (∀ b ∈ SA.bk a', σ.next ≤ b) ∧ lnumsR ws = (lnumsR (ws.drop k)).map (l ++ ·)) ?_ ?_ ⟨[], .nil, σ, rfl, rfl, OwnS.nil _ _ _, Ext.refl _, by simp [SA.bk], by simp⟩
  · rintro k _ hk ⟨l, a', σ', hl, rfl, own, E, fr, hr⟩
    have hx : ws[k]? = some ws[k] := List.getElem?_eq_getElem hk
    have hm := hw _ (List.getElem_mem hk)
    have hd : ws.drop k = ws[k] :: ws.drop (k + 1) := List.drop_eq_getElem_cons hk
    rw [hd, lnumsR] at hr
    generalize ws[k] = w at *
    obtain ⟨bb, oo, r1, ld⟩ := strs_ref ha hx
    have ld := ld O σ'
    have dk : decide ((k : Int) < (ws.length : Int)) = true := decide_eq_true (by omega)
    have d0 : decide ((0 : Int) ≤ (k : Int)) = true := decide_eq_true (by omega)
    have t3 : (true && true) = true := rfl
    have e1 : IntKind.i64.wrap ((k : Int) + 1) = ((k + 1 : Nat) : Int) := by rw [i64_id (by omega) (by omega)]; omega
    have bl : Nat.ble ((k + 1) * 9) 35184372088832 = true := Nat.ble_eq_true_of_le (by omega)
    have bl' : decide ((k + 1) * 9 ≤ 35184372088832) = true := decide_eq_true (by omega)
    have k1 : k * 1 = k := Nat.mul_one k
    simp -implicitDefEqProofs only [lines_all_L1, dk, d0, t3, r1, Int.toNat_natCast, k1, ld, Nat.reduceAdd, Nat.reduceMul, Nat.reduceLT, Int.reduceToNat, Int.reduceAdd, Int.reduceSub, Int.reduceMul, rsU, s_ldI, s_ldU, s_ldS, s_ldP, s_gtI, s_gtU, s_gtS, s_bleD, Nat.reduceLeDiff, decide_true, decide_false]
    refine Ok.step (gRead_ok hm) ?_
    rintro _ rfl
    simp only [numA]
    by_cases h0 : (numR w).2 = 0
    · rw [if_pos h0] at hr
      have z : ((((numR w).2 : Nat) : Int) == 0) = true := by rw [h0]; rfl
      generalize (numR w).1 = n at *
      simp -implicitDefEqProofs only [z, Bool.not_true, Bool.not_false, Nat.reduceAdd, Nat.reduceMul, Nat.reduceLT, Int.reduceToNat, Int.reduceAdd, Int.reduceSub, Int.reduceMul, rsU, s_ldI, s_ldU, s_ldS, s_ldP, s_gtI, s_gtU, s_gtS, s_bleD, Nat.reduceLeDiff, decide_true, decide_false]
      simp -implicitDefEqProofs only [rdNew1, bl, bl', Nat.reduceAdd, Nat.reduceMul, Nat.reduceLT, Int.reduceToNat, Int.reduceAdd, Int.reduceSub, Int.reduceMul, rsU, s_ldI, s_ldU, s_ldS, s_ldP, s_gtI, s_gtU, s_gtS, s_bleD, Nat.reduceLeDiff, decide_true, decide_false]
      refine Ok.step (grow1 own) ?_
      rintro ⟨v, σ2⟩ ⟨a2, g1, g2, g3, g4⟩
      simp only at g1 g2 g3 g4
      subst g1
      simp -implicitDefEqProofs only [e1, Nat.reduceAdd, Nat.reduceMul, Nat.reduceLT, Int.reduceToNat, Int.reduceAdd, Int.reduceSub, Int.reduceMul, rsU, s_ldI, s_ldU, s_ldS, s_ldP, s_gtI, s_gtU, s_gtS, s_bleD, Nat.reduceLeDiff, decide_true, decide_false]
      refine Ok_some.2 ⟨l ++ [n], a2, σ2, by simp [hl], rfl, by simpa using g2, Chg.new E fr g3, fun b hb => by have := g4 b hb; have := E.next; omega, ?_⟩
      rw [hr]; simp [Function.comp_def]
    · rw [if_neg h0] at hr
      have z : ((((numR w).2 : Nat) : Int) == 0) = false := by simpa using h0
      simp -implicitDefEqProofs only [z, Bool.not_true, Bool.not_false, Nat.reduceAdd, Nat.reduceMul, Nat.reduceLT, Int.reduceToNat, Int.reduceAdd, Int.reduceSub, Int.reduceMul, rsU, s_ldI, s_ldU, s_ldS, s_ldP, s_gtI, s_gtU, s_gtS, s_bleD, Nat.reduceLeDiff, decide_true, decide_false]
      exact Ok_some.2 ⟨hr, rfl, E⟩
  · rintro _ ⟨l, a', σ', hl, rfl, own, E, fr, hr⟩
    have dk : decide ((ws.length : Int) < (ws.length : Int)) = false := decide_eq_false (by omega)
    simp -implicitDefEqProofs only [lines_all_L1, dk, Nat.reduceAdd, Nat.reduceMul, Nat.reduceLT, Int.reduceToNat, Int.reduceAdd, Int.reduceSub, Int.reduceMul, rsU, s_ldI, s_ldU, s_ldS, s_ldP, s_gtI, s_gtU, s_gtS, s_bleD, Nat.reduceLeDiff, decide_true, decide_false]
    rw [List.drop_length, lnumsR] at hr
    refine Ok_some.2 ⟨l, a', by rw [hr]; simp, by rw [hl], by rw [hl]; exact own, E, fr⟩
theorem gall_ok {σ : AH O} {a : SA} {ws : List Bs} (ha : Strs a ws) (hw : ∀ w ∈ ws, w.length ≤ 1000000000) (hn : ws.length ≤ 1000000) :
    Ok (lines_all [.sl a ws.length] σ) fun r => (match lnumsR ws with | some l => ∃ a', r.1 = .tup [.sl a' l.length, .b true] ∧ Ints .i64 a' l | none => r.1 = .tup [.sl .nil 0, .b false]) ∧ Ext σ r.2 := by
  unfold lines_all
  have key : Ok (lines_all_c digits_Read [.sl a ws.length] σ) fun r => (∃ l a', lnumsR ws = some l ∧ r.1 = .tup [.sl a' l.length, .b true] ∧ OwnS r.2 3 1 a' l.length (l.map (AV.i .i64)) ∧ Ext σ r.2 ∧ ∀ b ∈ SA.bk a', σ.next ≤ b) ∨ (lnumsR ws = none ∧ r.1 = .tup [.sl .nil 0, .b false] ∧ Ext σ r.2) := by
    simp -implicitDefEqProofs only [lines_all_c, Nat.reduceAdd, Nat.reduceMul, Nat.reduceLT, Int.reduceToNat, Int.reduceAdd, Int.reduceSub, Int.reduceMul, rsU, s_ldI, s_ldU, s_ldS, s_ldP, s_gtI, s_gtU, s_gtS, s_bleD, Nat.reduceLeDiff, decide_true, decide_false]
    refine Ok.bindS (XLgall_ok ha hw hn) (fun q hq => ?_) (fun r hr => ?_)
    · obtain ⟨l, a', h1, h2, h3, h4, h5⟩ := hq
      obtain ⟨q, σ2⟩ := q
      simp only at h2 h3 h4
      subst h2
      simp -implicitDefEqProofs only [Nat.reduceAdd, Nat.reduceMul, Nat.reduceLT, Int.reduceToNat, Int.reduceAdd, Int.reduceSub, Int.reduceMul, rsU, s_ldI, s_ldU, s_ldS, s_ldP, s_gtI, s_gtU, s_gtS, s_bleD, Nat.reduceLeDiff, decide_true, decide_false]
      exact Ok_some.2 (.inl ⟨l, a', h1, rfl, h3, h4, h5⟩)
    · exact .inr hr
  cases hR : lnumsR ws with
  | some l =>
    refine (frz_intsT (s := lines_all_c digits_Read) (k := .i64) (l := l) (vs := [.b true]) rfl (key.mono ?_)).mono fun r h => ⟨h.1.imp fun a' h => ⟨h.1, Ints.mk h.2⟩, h.2⟩
    rintro ⟨v, σ2⟩ (⟨l', a', h1, h2, h3, h4, h5⟩ | ⟨h1, _⟩)
    · rw [hR] at h1
      obtain rfl := Option.some.inj h1
      exact ⟨a', 3, h2, h3, h4, h5⟩
    · rw [hR] at h1; cases h1
  | none =>
    refine frz_ok (s := lines_all_c digits_Read) (Q := fun v => v = .tup [.sl .nil 0, .b false]) (key.mono ?_)
    rintro ⟨v, σ2⟩ (⟨l', a', h1, _⟩ | ⟨h1, h2, h3⟩)
    · rw [hR] at h1; cases h1
    · simp only at h2 h3; subst h2
      exact ⟨_, [], FZ.tup (FZL.flat rfl), by simp, h3, rfl⟩
theorem XLgraws_ok {σ : AH O} {a : SA} {ws : List Bs} (ha : Strs a ws) (hw : ∀ w ∈ ws, w.length ≤ 1000000000) (hn : ws.length ≤ 1000000) :
    Ok (loopF (S := List AV × AH O) (T := (List AV × AH O) ⊕ (AV × AH O)) (lines_raws_L1 (a, ws.length) digits_ReadHex) ([.sl .nil 0, .i .i64 0], σ)) fun r => match r with | .inl q => ∃ l a', lhexsR ws = some l ∧ q.1 = [.sl a' l.length] ∧ OwnS q.2 82 1 a' l.length (l.map (AV.i .u64)) ∧ Ext σ q.2 ∧ ∀ b ∈ SA.bk a', σ.next ≤ b | .inr q => lhexsR ws = none ∧ q.1 = .tup [.sl .nil 0, .b false] ∧ Ext σ q.2 := by
  refine Ok.count ws.length (fun k s => ∃ l a' σ', l.length = k ∧ s = ([.sl a' k, .i .i64 (k : Int)], σ') ∧ OwnS σ' 82 1 a' k (l.map (AV.i .u64)) ∧ Ext σ σ' ∧ (∀ b ∈ SA.bk a', σ.next ≤ b) ∧ lhexsR ws = (lhexsR (ws.drop k)).map (l ++ ·)) ?_ ?_ ⟨[], .nil, σ, rfl, rfl, OwnS.nil _ _ _, Ext.refl _, by simp [SA.bk], by simp⟩
  · rintro k _ hk ⟨l, a', σ', hl, rfl, own, E, fr, hr⟩
    have hx : ws[k]? = some ws[k] := List.getElem?_eq_getElem hk
    have hm := hw _ (List.getElem_mem hk)
    have hd : ws.drop k = ws[k] :: ws.drop (k + 1) := List.drop_eq_getElem_cons hk
    rw [hd, lhexsR] at hr
    generalize ws[k] = w at *
    obtain ⟨bb, oo, r1, ld⟩ := strs_ref ha hx
    have ld := ld O σ'
    have dk : decide ((k : Int) < (ws.length : Int)) = true := decide_eq_true (by omega)
    have d0 : decide ((0 : Int) ≤ (k : Int)) = true := decide_eq_true (by omega)
    have t3 : (true && true) = true := rfl
    have e1 : IntKind.i64.wrap ((k : Int) + 1) = ((k + 1 : Nat) : Int) := by rw [i64_id (by omega) (by omega)]; omega
    have bl : Nat.ble ((k + 1) * 9) 35184372088832 = true := Nat.ble_eq_true_of_le (by omega)
    have bl' : decide ((k + 1) * 9 ≤ 35184372088832) = true := decide_eq_true (by omega)
    have k1 : k * 1 = k := Nat.mul_one k
    simp -implicitDefEqProofs only [lines_raws_L1, dk, d0, t3, r1, Int.toNat_natCast, k1, ld, Nat.reduceAdd, Nat.reduceMul, Nat.reduceLT, Int.reduceToNat, Int.reduceAdd, Int.reduceSub, Int.reduceMul, rsU, s_ldI, s_ldU, s_ldS, s_ldP, s_gtI, s_gtU, s_gtS, s_bleD, Nat.reduceLeDiff, decide_true, decide_false]
    refine Ok.step gReadHex_ok ?_
    rintro _ rfl
    simp only [hexE]
    cases h0 : hexR w with
    | some n =>
      rw [h0] at hr
      simp only at hr
      have z : ((0 : Int) != 0) = false := rfl
      simp -implicitDefEqProofs only [z, Bool.not_true, Bool.not_false, Nat.reduceAdd, Nat.reduceMul, Nat.reduceLT, Int.reduceToNat, Int.reduceAdd, Int.reduceSub, Int.reduceMul, rsU, s_ldI, s_ldU, s_ldS, s_ldP, s_gtI, s_gtU, s_gtS, s_bleD, Nat.reduceLeDiff, decide_true, decide_false]
      simp -implicitDefEqProofs only [rdNew1, bl, bl', Nat.reduceAdd, Nat.reduceMul, Nat.reduceLT, Int.reduceToNat, Int.reduceAdd, Int.reduceSub, Int.reduceMul, rsU, s_ldI, s_ldU, s_ldS, s_ldP, s_gtI, s_gtU, s_gtS, s_bleD, Nat.reduceLeDiff, decide_true, decide_false]
      refine Ok.step (grow1 own) ?_
      rintro ⟨v, σ2⟩ ⟨a2, g1, g2, g3, g4⟩
      simp only at g1 g2 g3 g4
      subst g1
      simp -implicitDefEqProofs only [e1, Nat.reduceAdd, Nat.reduceMul, Nat.reduceLT, Int.reduceToNat, Int.reduceAdd, Int.reduceSub, Int.reduceMul, rsU, s_ldI, s_ldU, s_ldS, s_ldP, s_gtI, s_gtU, s_gtS, s_bleD, Nat.reduceLeDiff, decide_true, decide_false]
      refine Ok_some.2 ⟨l ++ [(n : Int)], a2, σ2, by simp [hl], rfl, by simpa using g2, Chg.new E fr g3, fun b hb => by have := g4 b hb; have := E.next; omega, ?_⟩
      rw [hr]; simp [Function.comp_def]
    | none =>
      rw [h0] at hr
      simp only at hr
      have z : ((5 : Int) != 0) = true := rfl
      simp -implicitDefEqProofs only [z, Bool.not_true, Bool.not_false, Nat.reduceAdd, Nat.reduceMul, Nat.reduceLT, Int.reduceToNat, Int.reduceAdd, Int.reduceSub, Int.reduceMul, rsU, s_ldI, s_ldU, s_ldS, s_ldP, s_gtI, s_gtU, s_gtS, s_bleD, Nat.reduceLeDiff, decide_true, decide_false]
      exact Ok_some.2 ⟨hr, rfl, E⟩
  · rintro _ ⟨l, a', σ', hl, rfl, own, E, fr, hr⟩
    have dk : decide ((ws.length : Int) < (ws.length : Int)) = false := decide_eq_false (by omega)
    simp -implicitDefEqProofs only [lines_raws_L1, dk, Nat.reduceAdd, Nat.reduceMul, Nat.reduceLT, Int.reduceToNat, Int.reduceAdd, Int.reduceSub, Int.reduceMul, rsU, s_ldI, s_ldU, s_ldS, s_ldP, s_gtI, s_gtU, s_gtS, s_bleD, Nat.reduceLeDiff, decide_true, decide_false]
    rw [List.drop_length, lhexsR] at hr
    refine Ok_some.2 ⟨l, a', by rw [hr]; simp, by rw [hl], by rw [hl]; exact own, E, fr⟩
theorem graws_ok {σ : AH O} {a : SA} {ws : List Bs} (ha : Strs a ws) (hw : ∀ w ∈ ws, w.length ≤ 1000000000) (hn : ws.length ≤ 1000000) :
    Ok (lines_raws [.sl a ws.length] σ) fun r => (match lhexsR ws with | some l => ∃ a', r.1 = .tup [.sl a' l.length, .b true] ∧ Ints .u64 a' l | none => r.1 = .tup [.sl .nil 0, .b false]) ∧ Ext σ r.2 := by
  unfold lines_raws
  have key : Ok (lines_raws_c digits_ReadHex [.sl a ws.length] σ) fun r => (∃ l a', lhexsR ws = some l ∧ r.1 = .tup [.sl a' l.length, .b true] ∧ OwnS r.2 82 1 a' l.length (l.map (AV.i .u64)) ∧ Ext σ r.2 ∧ ∀ b ∈ SA.bk a', σ.next ≤ b) ∨ (lhexsR ws = none ∧ r.1 = .tup [.sl .nil 0, .b false] ∧ Ext σ r.2) := by
    simp -implicitDefEqProofs only [lines_raws_c, Nat.reduceAdd, Nat.reduceMul, Nat.reduceLT, Int.reduceToNat, Int.reduceAdd, Int.reduceSub, Int.reduceMul, rsU, s_ldI, s_ldU, s_ldS, s_ldP, s_gtI, s_gtU, s_gtS, s_bleD, Nat.reduceLeDiff, decide_true, decide_false]
    refine Ok.bindS (XLgraws_ok ha hw hn) (fun q hq => ?_) (fun r hr => ?_)
    · obtain ⟨l, a', h1, h2, h3, h4, h5⟩ := hq
      obtain ⟨q, σ2⟩ := q
      simp only at h2 h3 h4
      subst h2
      simp -implicitDefEqProofs only [Nat.reduceAdd, Nat.reduceMul, Nat.reduceLT, Int.reduceToNat, Int.reduceAdd, Int.reduceSub, Int.reduceMul, rsU, s_ldI, s_ldU, s_ldS, s_ldP, s_gtI, s_gtU, s_gtS, s_bleD, Nat.reduceLeDiff, decide_true, decide_false]
      exact Ok_some.2 (.inl ⟨l, a', h1, rfl, h3, h4, h5⟩)
    · exact .inr hr
  cases hR : lhexsR ws with
  | some l =>
    refine (frz_intsT (s := lines_raws_c digits_ReadHex) (k := .u64) (l := l) (vs := [.b true]) rfl (key.mono ?_)).mono fun r h => ⟨h.1.imp fun a' h => ⟨h.1, Ints.mk h.2⟩, h.2⟩
    rintro ⟨v, σ2⟩ (⟨l', a', h1, h2, h3, h4, h5⟩ | ⟨h1, _⟩)
    · rw [hR] at h1
      obtain rfl := Option.some.inj h1
      exact ⟨a', 82, h2, h3, h4, h5⟩
    · rw [hR] at h1; cases h1
  | none =>
    refine frz_ok (s := lines_raws_c digits_ReadHex) (Q := fun v => v = .tup [.sl .nil 0, .b false]) (key.mono ?_)
    rintro ⟨v, σ2⟩ (⟨l', a', h1, _⟩ | ⟨h1, h2, h3⟩)
    · rw [hR] at h1; cases h1
    · simp only at h2 h3; subst h2
      exact ⟨_, [], FZ.tup (FZL.flat rfl), by simp, h3, rfl⟩
end Go.Abs.Tryd
namespace Go.Abs.Tryd
open Go Go.Abs
variable {O : Type}
theorem split_ok {σ : AH O} {s : Bs} {c : UInt8} (hl : s.length ≤ 1000000) : Ok (strings_Split [.s s, .s [c]] σ) fun r => ∃ a, r = (.sl a (cutB c s).length, σ) ∧ Strs a (cutB c s) := by
  have : strings_Split [.s s, .s [c]] σ = some (.sl (.loc (.f ((cutB c s).map AV.s)) 0 1) (cutB c s).length, σ) := by
    simp only [strings_Split, Nat.ble_eq_true_of_le hl, cond_true]
  rw [this]
  exact Ok_some.2 ⟨_, rfl, Imm.f (by simp)⟩
theorem cut_few {c : UInt8} {s w : Bs} (hl : s.length ≤ 1000000) (h : w ∈ cutB c s) : w.length ≤ 1000000 := by
  have h1 : ∀ (ws : List Bs), ∀ w ∈ ws, w.length ≤ (joinS c ws).length := fun ws => by
    induction ws with
    | nil => intro w hw; cases hw
    | cons x ws ih =>
      intro w hw
      cases ws with
      | nil => rcases List.mem_cons.1 hw with rfl | hw
               · simp [joinS]
               · cases hw
      | cons y ws =>
        rw [joinS_cons c x (by simp), List.length_append, List.length_cons]
        rcases List.mem_cons.1 hw with rfl | hw
        · omega
        · have := ih w hw; omega
  have := h1 _ w h
  rw [join_cut] at this; omega
theorem strs_tail {a : SA} {w : Bs} {ws : List Bs} (h : Strs a (w :: ws)) : ∃ a', a.adv 1 1 = some a' ∧ Strs a' ws := by
  obtain ⟨a', h1, h2⟩ := h.adv (lo := 1) (m := ws.length) (by simp; omega)
  refine ⟨a', h1, ?_⟩
  have e : (((w :: ws).map AV.s).drop (1 * 1)).take (ws.length * 1) = ws.map AV.s := by rw [Nat.mul_one, Nat.mul_one, List.map_cons, List.drop_one, List.tail_cons, List.take_of_length_le (by simp)]
  rw [e] at h2; exact h2
theorem gnumL_ok {σ : AH O} {s w : Bs} (hl : s.length ≤ 1000000) :
    Ok (lines_readNumbers [.s s, .s w] σ) fun r => (match lnumL w s with | some l => ∃ a', r.1 = .tup [.sl a' l.length, .b true] ∧ Ints .i64 a' l | none => r.1 = .tup [.sl .nil 0, .b false]) ∧ Ext σ r.2 := by
  unfold lines_readNumbers
  refine frz_ok (s := lines_readNumbers_c strings_Split lines_all) (Q := fun v => match lnumL w s with | some l => ∃ a', v = .tup [.sl a' l.length, .b true] ∧ Ints .i64 a' l | none => v = .tup [.sl .nil 0, .b false]) ?_
  have fin : ∀ {v : AV} {σ' : AH O}, (match lnumL w s with | some l => ∃ a', v = .tup [.sl a' l.length, .b true] ∧ Ints .i64 a' l | none => v = .tup [.sl .nil 0, .b false]) → Ext σ σ' → ∃ v' L, FZ 8 σ'.blk L v v' ∧ (∀ b ∈ L, σ.next ≤ b) ∧ Ext σ σ' ∧ (match lnumL w s with | some l => ∃ a', v' = .tup [.sl a' l.length, .b true] ∧ Ints .i64 a' l | none => v' = .tup [.sl .nil 0, .b false]) := fun {v σ'} h E => by
    refine ⟨v, [], ?_, by simp, E, h⟩
    cases hR : lnumL w s with
    | some l =>
      rw [hR] at h
      obtain ⟨a', rfl, h⟩ := h
      exact FZ.tup (FZL.flat (by have := h.imm.flat; simp only [List.all_cons, List.all_nil, this]; rfl))
    | none =>
      rw [hR] at h
      subst h
      exact FZ.tup (FZL.flat rfl)
  simp -implicitDefEqProofs only [lines_readNumbers_c, Nat.reduceAdd, Nat.reduceMul, Nat.reduceLT, Int.reduceToNat, Int.reduceAdd, Int.reduceSub, Int.reduceMul, rsU, s_ldI, s_ldU, s_ldS, s_ldP, s_gtI, s_gtU, s_gtS, s_bleD, Nat.reduceLeDiff, decide_true, decide_false]
  refine Ok.step (split_ok hl) ?_
  rintro _ ⟨a, rfl, ha⟩
  have hf := fun v hv => cut_few (c := 32) (w := v) hl hv
  have hcl := cut_len 32 s
  have hLe : lnumL w s = if (cutB 32 s).head? = some w then lnumsR (cutB 32 s).tail else none := rfl
  cases hc : cutB 32 s with
  | nil => exact absurd hc (cutB_ne 32 s)
  | cons x ws =>
    rw [hc] at ha hf hcl hLe
    obtain ⟨b, o, r1, ld⟩ := strs_ref ha (k := 0) (w := x) rfl
    have ld := ld O σ
    rw [Nat.add_zero] at ld
    have d0 : decide ((0 : Int) < (((x :: ws).length : Nat) : Int)) = true := decide_eq_true (by simp only [List.length_cons]; omega)
    have d1 : decide ((1 : Int) ≤ (((x :: ws).length : Nat) : Int)) = true := decide_eq_true (by simp only [List.length_cons]; omega)
    have d2 : decide ((((x :: ws).length : Nat) : Int) ≤ (((x :: ws).length : Nat) : Int)) = true := decide_eq_true (by omega)
    have en : (x :: ws).length - 1 = ws.length := by simp
    obtain ⟨a', r2, ha'⟩ := strs_tail ha
    generalize (x :: ws).length = n at *
    have t3 : (true && true) = true := rfl
    by_cases hx : x = w
    · have q : (x == w) = true := by simpa using hx
      simp -implicitDefEqProofs only [d0, r1, ld, q, Bool.not_true, d1, d2, t3, r2, Int.toNat_natCast, en, Nat.reduceAdd, Nat.reduceMul, Nat.reduceLT, Int.reduceToNat, Int.reduceAdd, Int.reduceSub, Int.reduceMul, rsU, s_ldI, s_ldU, s_ldS, s_ldP, s_gtI, s_gtU, s_gtS, s_bleD, Nat.reduceLeDiff, decide_true, decide_false]
      refine Ok.step (gall_ok ha' (fun v hv => Nat.le_trans (hf v (List.mem_cons_of_mem _ hv)) (by omega)) (by omega)) ?_
      rintro ⟨v, σ2⟩ ⟨h1, E⟩
      simp only at h1 E
      have hLs : lnumL w s = lnumsR ws := by rw [hLe, hx]; simp
      cases hR : lnumsR ws with
      | some l =>
        rw [hR] at h1
        obtain ⟨a2, rfl, h2⟩ := h1
        simp -implicitDefEqProofs only [Nat.reduceAdd, Nat.reduceMul, Nat.reduceLT, Int.reduceToNat, Int.reduceAdd, Int.reduceSub, Int.reduceMul, rsU, s_ldI, s_ldU, s_ldS, s_ldP, s_gtI, s_gtU, s_gtS, s_bleD, Nat.reduceLeDiff, decide_true, decide_false]
        exact Ok_some.2 (fin (by rw [hLs, hR]; exact ⟨a2, rfl, h2⟩) E)
      | none =>
        rw [hR] at h1
        subst h1
        simp -implicitDefEqProofs only [Nat.reduceAdd, Nat.reduceMul, Nat.reduceLT, Int.reduceToNat, Int.reduceAdd, Int.reduceSub, Int.reduceMul, rsU, s_ldI, s_ldU, s_ldS, s_ldP, s_gtI, s_gtU, s_gtS, s_bleD, Nat.reduceLeDiff, decide_true, decide_false]
        exact Ok_some.2 (fin (by rw [hLs, hR]) E)
    · have q : (x == w) = false := by simpa using hx
      have hLs : lnumL w s = none := by rw [hLe, if_neg (by simpa using hx)]
      simp -implicitDefEqProofs only [d0, r1, ld, q, Bool.not_false, Nat.reduceAdd, Nat.reduceMul, Nat.reduceLT, Int.reduceToNat, Int.reduceAdd, Int.reduceSub, Int.reduceMul, rsU, s_ldI, s_ldU, s_ldS, s_ldP, s_gtI, s_gtU, s_gtS, s_bleD, Nat.reduceLeDiff, decide_true, decide_false]
      exact Ok_some.2 (fin (by rw [hLs]) (Ext.refl _))
end Go.Abs.Tryd
namespace Go.Abs.Tryd
open Go Go.Abs
variable {O : Type}
theorem colon_le (w : List Bs) : colonAt w ≤ w.length := List.findIdx_le_length
theorem colon_at {w : List Bs} {k : Nat} (h : w[k]? = some colonB) (hn : ∀ j, j < k → w[j]? ≠ some colonB) : colonAt w = k := by
  obtain ⟨hk, e⟩ := List.getElem?_eq_some_iff.1 h
  unfold colonAt
  rw [List.findIdx_eq hk]
  refine ⟨by simp [e], fun j hj => ?_⟩
  have := hn j hj
  rw [List.getElem?_eq_getElem (by omega)] at this
  simpa using this
theorem colon_no {w : List Bs} (hn : ∀ j, j < w.length → w[j]? ≠ some colonB) : colonAt w = w.length := by
  unfold colonAt
  rw [List.findIdx_eq_length]
  intro x hx
  obtain ⟨j, hj, rfl⟩ := List.getElem_of_mem hx
  have := hn j hj
  rw [List.getElem?_eq_getElem hj] at this
  simpa using this
theorem gcolon_ok {σ : AH O} {a : SA} {w : List Bs} (ha : Strs a w) (hn : w.length ≤ 1000001) :
    Ok (loopF (S := List AV × AH O) (T := List AV × AH O) (lines_readNode_L1 (a, w.length)) ([.i .i64 (-1), .i .i64 0], σ)) fun r => r = ([.i .i64 (if colonAt w < w.length then (colonAt w : Int) else -1)], σ) := by
  refine Ok.count w.length (fun k s => s = ([.i .i64 (-1), .i .i64 (k : Int)], σ) ∧ ∀ j, j < k → w[j]? ≠ some colonB) ?_ ?_ ⟨rfl, fun j h => by omega⟩
  · rintro k _ hk ⟨rfl, hc⟩
    have hx : w[k]? = some w[k] := List.getElem?_eq_getElem hk
    generalize hw : w[k] = x at hx
    obtain ⟨bb, oo, r1, ld⟩ := strs_ref ha hx
    have ld := ld O σ
    have dk : decide ((k : Int) < (w.length : Int)) = true := decide_eq_true (by omega)
    have d0 : decide ((0 : Int) ≤ (k : Int)) = true := decide_eq_true (by omega)
    have t3 : (true && true) = true := rfl
    have k1 : k * 1 = k := Nat.mul_one k
    have e1 : IntKind.i64.wrap ((k : Int) + 1) = ((k + 1 : Nat) : Int) := by rw [i64_id (by omega) (by omega)]; omega
    by_cases h : x = colonB
    · have q : (x == ([58] : List UInt8)) = true := by rw [h]; rfl
      simp -implicitDefEqProofs only [lines_readNode_L1, dk, d0, t3, r1, Int.toNat_natCast, k1, ld, q, Nat.reduceAdd, Nat.reduceMul, Nat.reduceLT, Int.reduceToNat, Int.reduceAdd, Int.reduceSub, Int.reduceMul, rsU, s_ldI, s_ldU, s_ldS, s_ldP, s_gtI, s_gtU, s_gtS, s_bleD, Nat.reduceLeDiff, decide_true, decide_false]
      have := colon_at (by rw [hx, h]) hc
      exact Ok_some.2 (by rw [this, if_pos hk])
    · have q : (x == ([58] : List UInt8)) = false := by simpa [colonB] using h
      simp -implicitDefEqProofs only [lines_readNode_L1, dk, d0, t3, r1, Int.toNat_natCast, k1, ld, q, e1, Nat.reduceAdd, Nat.reduceMul, Nat.reduceLT, Int.reduceToNat, Int.reduceAdd, Int.reduceSub, Int.reduceMul, rsU, s_ldI, s_ldU, s_ldS, s_ldP, s_gtI, s_gtU, s_gtS, s_bleD, Nat.reduceLeDiff, decide_true, decide_false]
      refine Ok_some.2 ⟨rfl, fun j hj => ?_⟩
      by_cases hjk : j = k
      · subst hjk; rw [hx]; simpa using h
      · exact hc j (by omega)
  · rintro _ ⟨rfl, hc⟩
    have dk : decide ((w.length : Int) < (w.length : Int)) = false := decide_eq_false (by omega)
    simp -implicitDefEqProofs only [lines_readNode_L1, dk, Nat.reduceAdd, Nat.reduceMul, Nat.reduceLT, Int.reduceToNat, Int.reduceAdd, Int.reduceSub, Int.reduceMul, rsU, s_ldI, s_ldU, s_ldS, s_ldP, s_gtI, s_gtU, s_gtS, s_bleD, Nat.reduceLeDiff, decide_true, decide_false]
    exact Ok_some.2 (by rw [colon_no hc, if_neg (by omega)])
theorem rcolon_ok {σ : AH O} {a : SA} {w : List Bs} (ha : Strs a w) (hn : w.length ≤ 1000001) :
    Ok (loopF (S := List AV × AH O) (T := List AV × AH O) (haymowref46_readNode_L1 (a, w.length)) ([.i .i64 0], σ)) fun r => r = ([.i .i64 (colonAt w : Int)], σ) := by
  have t1 : (true == true) = true := rfl
  have t2 : (false == true) = false := rfl
  refine Ok.count w.length (fun k s => s = ([.i .i64 (k : Int)], σ) ∧ ∀ j, j < k → w[j]? ≠ some colonB) ?_ ?_ ⟨rfl, fun j h => by omega⟩
  · rintro k _ hk ⟨rfl, hc⟩
    have hx : w[k]? = some w[k] := List.getElem?_eq_getElem hk
    generalize hw : w[k] = x at hx
    obtain ⟨bb, oo, r1, ld⟩ := strs_ref ha hx
    have ld := ld O σ
    have dk : decide ((k : Int) < (w.length : Int)) = true := decide_eq_true (by omega)
    have d0 : decide ((0 : Int) ≤ (k : Int)) = true := decide_eq_true (by omega)
    have t3 : (true && true) = true := rfl
    have k1 : k * 1 = k := Nat.mul_one k
    have e1 : IntKind.i64.wrap ((k : Int) + 1) = ((k + 1 : Nat) : Int) := by rw [i64_id (by omega) (by omega)]; omega
    by_cases h : x = colonB
    · have q : (x == ([58] : List UInt8)) = true := by rw [h]; rfl
      simp -implicitDefEqProofs only [haymowref46_readNode_L1, dk, d0, t1, t3, r1, Int.toNat_natCast, k1, ld, q, Bool.not_true, Nat.reduceAdd, Nat.reduceMul, Nat.reduceLT, Int.reduceToNat, Int.reduceAdd, Int.reduceSub, Int.reduceMul, rsU, s_ldI, s_ldU, s_ldS, s_ldP, s_gtI, s_gtU, s_gtS, s_bleD, Nat.reduceLeDiff, decide_true, decide_false]
      have := colon_at (by rw [hx, h]) hc
      exact Ok_some.2 (by rw [this])
    · have q : (x == ([58] : List UInt8)) = false := by simpa [colonB] using h
      simp -implicitDefEqProofs only [haymowref46_readNode_L1, dk, d0, t1, t3, r1, Int.toNat_natCast, k1, ld, q, e1, Bool.not_false, Nat.reduceAdd, Nat.reduceMul, Nat.reduceLT, Int.reduceToNat, Int.reduceAdd, Int.reduceSub, Int.reduceMul, rsU, s_ldI, s_ldU, s_ldS, s_ldP, s_gtI, s_gtU, s_gtS, s_bleD, Nat.reduceLeDiff, decide_true, decide_false]
      refine Ok_some.2 ⟨rfl, fun j hj => ?_⟩
      by_cases hjk : j = k
      · subst hjk; rw [hx]; simpa using h
      · exact hc j (by omega)
  · rintro _ ⟨rfl, hc⟩
    have dk : decide ((w.length : Int) < (w.length : Int)) = false := decide_eq_false (by omega)
    simp -implicitDefEqProofs only [haymowref46_readNode_L1, dk, t2, Nat.reduceAdd, Nat.reduceMul, Nat.reduceLT, Int.reduceToNat, Int.reduceAdd, Int.reduceSub, Int.reduceMul, rsU, s_ldI, s_ldU, s_ldS, s_ldP, s_gtI, s_gtU, s_gtS, s_bleD, Nat.reduceLeDiff, decide_true, decide_false]
    exact Ok_some.2 (by rw [colon_no hc])
end Go.Abs.Tryd
namespace Go.Abs.Tryd
open Go Go.Abs
variable {O : Type}
theorem Ok.to {A B : Type} {m : Option A} {k : A → Option B} {Q : B → Prop} {x : A} (h : m = some x) (hk : Ok (k x) Q) : Ok (m.bind k) Q := by subst h; exact hk
theorem Ok.cT {A : Type} {c : Bool} {x y : Option A} {Q : A → Prop} (h : c = true) (hx : Ok x Q) : Ok (bif c then x else y) Q := by subst h; exact hx
theorem Ok.cF {A : Type} {c : Bool} {x y : Option A} {Q : A → Prop} (h : c = false) (hx : Ok y Q) : Ok (bif c then x else y) Q := by subst h; exact hx
def NodeA (x : Option NV) (v : AV) : Prop := match x with
  | some x => ∃ c d, v = .tup [.agg (x.cells c d), .b true] ∧ Ints .i64 c x.P ∧ Ints .u64 d x.R
  | none => v = .tup [.agg [.i .i64 0, .i .i64 0, .i .i64 0, .i .i64 0, .b false, .sl .nil 0, .sl .nil 0], .b false]
theorem NodeA.fz {σ : AH O} {x : Option NV} {v : AV} (h : NodeA x v) : FZ 8 σ.blk [] v v := by
  have t1 : ∀ {vs : List AV} {b : Bool}, vs.all AV.flat = true → FZ 8 σ.blk [] (.tup [.agg vs, .b b]) (.tup [.agg vs, .b b]) := fun {vs b} h => by
    have := FZL.cons (FZ.agg (FZL.flat (H := σ.blk) (d := 5) (vs := vs) h)) (FZL.flat (H := σ.blk) (d := 6) (vs := [.b b]) rfl) (by simp)
    exact FZ.tup this
  cases x with
  | some x =>
    obtain ⟨c, d, rfl, hc, hd⟩ := h
    have f1 := hc.imm.flat
    have f2 := hd.imm.flat
    refine t1 ?_
    simp only [NV.cells, List.all_cons, List.all_nil, f1, f2]; rfl
  | none =>
    have h : v = _ := h
    subst h
    exact t1 rfl
theorem lnumsR_len : ∀ {ws : List Bs} {l : List Int}, lnumsR ws = some l → l.length = ws.length
  | [], l, h => by cases h; rfl
  | w :: ws, l, h => by
    rw [lnumsR] at h
    split at h
    · cases hr : lnumsR ws with
      | none => rw [hr] at h; cases h
      | some m => rw [hr] at h; cases h; simp [lnumsR_len hr]
    · cases h
theorem strs_mid {a : SA} {w : List Bs} (h : Strs a w) {lo hi : Nat} (h1 : lo ≤ hi) (h2 : hi ≤ w.length) : ∃ a', a.adv lo 1 = some a' ∧ Strs a' ((w.take hi).drop lo) ∧ ((w.take hi).drop lo).length = hi - lo := by
  obtain ⟨a', q1, q2⟩ := h.adv (lo := lo) (m := hi - lo) (by omega)
  have e : ((w.take hi).drop lo).length = hi - lo := by rw [List.length_drop, List.length_take]; omega
  refine ⟨a', q1, ?_, e⟩
  rw [Nat.mul_one, Nat.mul_one, ← List.map_drop, ← List.map_take, ← List.drop_take] at q2
  show Imm 1 a' _ _
  rw [e]; exact q2
theorem ints_ld {k : IntKind} {a : SA} {l : List Int} (h : Ints k a l) {i : Nat} {x : Int} (hx : l[i]? = some x) : ∃ b o, SA.ref a = some (b, o) ∧ ∀ (O : Type) (σ : AH O), σ.ld b (o + i) = some (.i k x) := by
  obtain ⟨b, o, rfl, h2⟩ := h.at hx
  exact ⟨b, o, rfl, h2⟩
theorem ints_drop {k : IntKind} {a : SA} {l : List Int} (h : Ints k a l) {lo : Nat} (h1 : lo ≤ l.length) : ∃ a', a.adv lo 1 = some a' ∧ Ints k a' (l.drop lo) := by
  obtain ⟨a', q1, q2⟩ := h.imm.adv (lo := lo) (m := l.length - lo) (by omega)
  refine ⟨a', q1, Ints.mk ?_⟩
  rw [Nat.mul_one, Nat.mul_one, ← List.map_drop, List.take_of_length_le (by simp)] at q2
  rw [List.length_drop]; exact q2
theorem gReadNode_ok {σ : AH O} {a : SA} {w : List Bs} (ha : Strs a w) (hf : ∀ s ∈ w, s.length ≤ 1000000) (hn : w.length ≤ 1000000) :
    Ok (lines_readNode [.sl a w.length] σ) fun r => NodeA (lnodeR w) r.1 ∧ Ext σ r.2 := by
  unfold lines_readNode
  refine frz_ok (s := lines_readNode_c lines_all lines_raws) (Q := NodeA (lnodeR w)) ?_
  refine Ok.mono (Q := fun r => NodeA (lnodeR w) r.1 ∧ Ext σ r.2) ?_ fun r h => ⟨r.1, [], h.1.fz, by simp, h.2, h.1⟩
  have hno : ¬ nodeOK w → lnodeR w = none := fun h => by unfold lnodeR; rw [if_neg h]
  unfold lines_readNode_c
  refine Ok.cT rfl ?_
  refine Ok.to (x := (a, w.length)) rfl ?_
  refine Ok.step (gcolon_ok ha (Nat.le_succ_of_le hn)) ?_
  rintro _ rfl
  generalize hm : (if colonAt w < w.length then (colonAt w : Int) else -1) = m
  generalize hσ2 : (σ.bump 1).put σ.next _ = σ2
  have b2 : σ2.blk σ.next = some (.cells true 48 [.i .i64 0, .i .i64 0, .i .i64 0, .i .i64 0, .b false, .sl .nil 0, .sl .nil 0]) := by rw [← hσ2]; exact s_bs
  have E2 : Ext σ σ2 := by rw [← hσ2]; exact ((Ext.refl σ).bump 1).put (Nat.le_refl _) _
  have n2 : σ2.next = σ.next + 1 := by rw [← hσ2]; rfl
  clear hσ2
  have t1 : (true == true) = true := rfl
  have t2 : (false == true) = false := rfl
  have t3 : (true == false) = false := rfl
  have t4 : (false == false) = true := rfl
  have t5 : (true && true) = true := rfl
  refine Ok.to (x := m) rfl ?_
  have hw0 : 4 ≤ m → m = (colonAt w : Int) ∧ colonAt w < w.length := fun h4 => by split at hm <;> omega
  refine Ok.step (Q := fun r => ∃ b, r = ([.b b], σ2) ∧ (b = false ↔ (4 ≤ m ∧ w[0]? = some nodeB))) ?_ ?_
  · by_cases h4 : m < 4
    · have d4 : decide (m < 4) = true := decide_eq_true h4
      simp -implicitDefEqProofs only [d4, t1, t2, t3, t4, Nat.reduceAdd, Nat.reduceMul, Nat.reduceLT, Int.reduceToNat, Int.reduceAdd, Int.reduceSub, Int.reduceMul, rsU, s_ldI, s_ldU, s_ldS, s_ldP, s_gtI, s_gtU, s_gtS, s_bleD, Nat.reduceLeDiff, decide_true, decide_false]
      exact Ok_some.2 ⟨true, rfl, by simp; omega⟩
    · have d4 : decide (m < 4) = false := decide_eq_false h4
      have hw1 := hw0 (by omega)
      obtain ⟨x0, h0⟩ : ∃ x, w[0]? = some x := ⟨w[0], List.getElem?_eq_getElem (by omega)⟩
      obtain ⟨b, o, r0, ld0⟩ := strs_ref ha h0
      have ld0 := ld0 O σ2
      rw [Nat.add_zero] at ld0
      have g0 : decide ((0 : Int) < (w.length : Int)) = true := decide_eq_true (by omega)
      simp -implicitDefEqProofs only [d4, t4, g0, r0, ld0, Nat.reduceAdd, Nat.reduceMul, Nat.reduceLT, Int.reduceToNat, Int.reduceAdd, Int.reduceSub, Int.reduceMul, rsU, s_ldI, s_ldU, s_ldS, s_ldP, s_gtI, s_gtU, s_gtS, s_bleD, Nat.reduceLeDiff, decide_true, decide_false]
      refine Ok_some.2 ⟨_, rfl, ?_⟩
      rw [h0]
      simp only [Bool.not_eq_false', beq_iff_eq, Option.some.injEq, nodeB]
      exact ⟨fun h => ⟨by omega, h⟩, fun h => h.2⟩
  · rintro _ ⟨b15, rfl, hb15⟩
    refine Ok.to (x := b15) rfl ?_
    refine Ok.step (Q := fun r => ∃ b, r = ([.b b], σ2) ∧ (b = false ↔ nodeOK w)) ?_ ?_
    · cases b15 with
      | true =>
        simp -implicitDefEqProofs only [t3, Nat.reduceAdd, Nat.reduceMul, Nat.reduceLT, Int.reduceToNat, Int.reduceAdd, Int.reduceSub, Int.reduceMul, rsU, s_ldI, s_ldU, s_ldS, s_ldP, s_gtI, s_gtU, s_gtS, s_bleD, Nat.reduceLeDiff, decide_true, decide_false]
        refine Ok_some.2 ⟨true, rfl, ?_⟩
        simp only [Bool.true_eq_false, false_iff] at hb15 ⊢
        rintro ⟨p1, p2, p3, p4⟩
        rw [if_pos p2] at hm
        exact hb15 ⟨by omega, p3⟩
      | false =>
        obtain ⟨h4, h0⟩ := hb15.1 rfl
        have hw1 := hw0 h4
        obtain ⟨x1, h1⟩ : ∃ x, w[1]? = some x := ⟨w[1], List.getElem?_eq_getElem (by omega)⟩
        obtain ⟨b, o, r0, ld0⟩ := strs_ref ha h1
        have ld0 := ld0 O σ2
        have g0 : decide ((1 : Int) < (w.length : Int)) = true := decide_eq_true (by omega)
        by_cases q : x1 = largeB
        · have q1 : (x1 == ([108, 97, 114, 103, 101] : List UInt8)) = true := by rw [q]; rfl
          simp -implicitDefEqProofs only [t4, t2, g0, r0, ld0, q1, Bool.not_true, Nat.reduceAdd, Nat.reduceMul, Nat.reduceLT, Int.reduceToNat, Int.reduceAdd, Int.reduceSub, Int.reduceMul, rsU, s_ldI, s_ldU, s_ldS, s_ldP, s_gtI, s_gtU, s_gtS, s_bleD, Nat.reduceLeDiff, decide_true, decide_false]
          exact Ok_some.2 ⟨false, rfl, by simp only [true_iff]; exact ⟨by omega, hw1.2, h0, .inl (by rw [h1, q])⟩⟩
        · have q1 : (x1 == ([108, 97, 114, 103, 101] : List UInt8)) = false := by simpa [largeB] using q
          simp -implicitDefEqProofs only [t4, t1, g0, r0, ld0, q1, Bool.not_false, Nat.reduceAdd, Nat.reduceMul, Nat.reduceLT, Int.reduceToNat, Int.reduceAdd, Int.reduceSub, Int.reduceMul, rsU, s_ldI, s_ldU, s_ldS, s_ldP, s_gtI, s_gtU, s_gtS, s_bleD, Nat.reduceLeDiff, decide_true, decide_false]
          refine Ok_some.2 ⟨_, rfl, ?_⟩
          simp only [Bool.not_eq_false', beq_iff_eq]
          constructor
          · intro h; exact ⟨by omega, hw1.2, h0, .inr (by rw [h1, h]; rfl)⟩
          · rintro ⟨_, _, _, h | h⟩
            · rw [h1] at h; exact absurd (Option.some.inj h) q
            · rw [h1] at h; exact Option.some.inj h
    · rintro _ ⟨b27, rfl, hb27⟩
      refine Ok.to (x := b27) rfl ?_
      cases b27 with
      | true =>
        have hN : ¬ nodeOK w := fun h => by cases hb27.2 h
        refine Ok.cT rfl ?_
        simp -implicitDefEqProofs only [b2, Nat.reduceAdd, Nat.reduceMul, Nat.reduceLT, Int.reduceToNat, Int.reduceAdd, Int.reduceSub, Int.reduceMul, rsU, s_ldI, s_ldU, s_ldS, s_ldP, s_gtI, s_gtU, s_gtS, s_bleD, Nat.reduceLeDiff, decide_true, decide_false]
        exact Ok_some.2 ⟨by rw [hno hN]; rfl, E2.put (Nat.le_refl _) _⟩
      | false =>
        have hN : nodeOK w := hb27.1 rfl
        have hL : lnodeR w = match lnumsR ((w.take (colonAt w)).drop 2), lhexsR (w.drop (colonAt w + 1)) with
            | some n, some r => some (mkN (decide (w[1]? = some largeB)) n r)
            | _, _ => none := by unfold lnodeR; rw [if_pos hN]; rfl
        obtain ⟨k4, kn, k0, k1⟩ := hN
        rw [if_pos kn] at hm
        refine Ok.cF rfl ?_
        generalize colonAt w = k at *
        have c1 : (decide ((2 : Int) ≤ m) && decide (m ≤ (w.length : Int))) = true := by rw [decide_eq_true (by omega), decide_eq_true (by omega)]; rfl
        refine Ok.cT c1 ?_
        obtain ⟨a1, r1, s1, l1⟩ := strs_mid ha (lo := 2) (hi := k) (by omega) (by omega)
        refine Ok.to (x := a1) r1 ?_
        have H1 := gall_ok (σ := σ2) s1 (fun v hv => Nat.le_trans (hf v (List.mem_of_mem_take (List.mem_of_mem_drop hv))) (by omega)) (by omega)
        have e1 : ((w.take k).drop 2).length = m.toNat - 2 := by omega
        generalize hws1 : (w.take k).drop 2 = ws1 at *
        rw [e1] at H1
        refine Ok.step H1 ?_
        rintro ⟨v, σ3⟩ ⟨q1, E3⟩
        simp only at q1 E3
        obtain ⟨A1, n1, k1', rfl, hk1, hk1'⟩ : ∃ A n k, v = .tup [.sl A n, .b k] ∧ (k = true → ∃ l, lnumsR ws1 = some l ∧ n = l.length ∧ Ints .i64 A l) ∧ (k = false → lnumsR ws1 = none) := by
          cases hR : lnumsR ws1 with
          | some l =>
            rw [hR] at q1
            obtain ⟨a', rfl, h2⟩ := q1
            exact ⟨_, _, _, rfl, fun _ => ⟨l, rfl, rfl, h2⟩, fun h => Bool.noConfusion h⟩
          | none =>
            rw [hR] at q1
            exact ⟨_, _, _, q1, fun h => Bool.noConfusion h, fun _ => rfl⟩
        refine Ok.to (x := [.sl A1 n1, .b k1']) rfl ?_
        refine Ok.to (x := (A1, n1)) rfl ?_
        refine Ok.to (x := k1') rfl ?_
        have ew : IntKind.i64.wrap (m + 1) = m + 1 := i64_id (by omega) (by omega)
        refine Ok.cT (by rw [ew, decide_eq_true (show (0 : Int) ≤ m + 1 by omega), decide_eq_true (show m + 1 ≤ (w.length : Int) by omega), decide_eq_true (Int.le_refl _)]; rfl) ?_
        obtain ⟨a2, r2, s2, l2⟩ := strs_mid ha (lo := k + 1) (hi := w.length) (by omega) (by omega)
        rw [List.take_length] at s2 l2
        have ek : (IntKind.i64.wrap (m + 1)).toNat = k + 1 := by omega
        refine Ok.to (x := a2) (by rw [ek]; exact r2) ?_
        have H2 := graws_ok (σ := σ3) s2 (fun v hv => Nat.le_trans (hf v (List.mem_of_mem_drop hv)) (by omega)) (by omega)
        have e2 : (w.drop (k + 1)).length = ((w.length : Int)).toNat - (IntKind.i64.wrap (m + 1)).toNat := by rw [ek, Int.toNat_natCast]; omega
        generalize hws2 : w.drop (k + 1) = ws2 at *
        rw [e2] at H2
        refine Ok.step H2 ?_
        rintro ⟨v, σ4⟩ ⟨q2, E4⟩
        simp only at q2 E4
        obtain ⟨A2, n2', k2', rfl, hk2, hk2'⟩ : ∃ A n k, v = .tup [.sl A n, .b k] ∧ (k = true → ∃ l, lhexsR ws2 = some l ∧ n = l.length ∧ Ints .u64 A l) ∧ (k = false → lhexsR ws2 = none) := by
          cases hR : lhexsR ws2 with
          | some l =>
            rw [hR] at q2
            obtain ⟨a', rfl, h2⟩ := q2
            exact ⟨_, _, _, rfl, fun _ => ⟨l, rfl, rfl, h2⟩, fun h => Bool.noConfusion h⟩
          | none =>
            rw [hR] at q2
            exact ⟨_, _, _, q2, fun h => Bool.noConfusion h, fun _ => rfl⟩
        refine Ok.to (x := [.sl A2 n2', .b k2']) rfl ?_
        refine Ok.to (x := (A2, n2')) rfl ?_
        refine Ok.to (x := k2') rfl ?_
        have b4 : σ4.blk σ.next = some (.cells true 48 [.i .i64 0, .i .i64 0, .i .i64 0, .i .i64 0, .b false, .sl .nil 0, .sl .nil 0]) := by rw [E4.blk _ (by have := E3.next; omega), E3.blk _ (by omega)]; exact b2
        have n4 : σ.next + 1 ≤ σ4.next := by have := E3.next; have := E4.next; omega
        have EE : Ext σ σ4 := (E2.trans E3).trans E4
        clear H1 H2 E3 E4 E2 b2 n2
        refine Ok.step (Q := fun r => r = ([.b (!(k1' && k2'))], σ4)) (by cases k1' <;> cases k2' <;> exact Ok_some.2 rfl) ?_
        rintro _ rfl
        refine Ok.to (x := !(k1' && k2')) rfl ?_
        cases hkk : (k1' && k2') with
        | false =>
          refine Ok.cT rfl ?_
          simp -implicitDefEqProofs only [b4, Nat.reduceAdd, Nat.reduceMul, Nat.reduceLT, Int.reduceToNat, Int.reduceAdd, Int.reduceSub, Int.reduceMul, rsU, s_ldI, s_ldU, s_ldS, s_ldP, s_gtI, s_gtU, s_gtS, s_bleD, Nat.reduceLeDiff, decide_true, decide_false]
          refine Ok_some.2 ⟨?_, EE.put (Nat.le_refl _) _⟩
          have hnn : lnodeR w = none := by
            rw [hL]
            cases k1' with
            | false => rw [hk1' rfl]
            | true => rw [hk2' (by simpa using hkk)]; cases lnumsR ws1 <;> rfl
          rw [hnn]; rfl
        | true =>
          rw [Bool.and_eq_true] at hkk
          obtain ⟨l, g1, rfl, g2⟩ := hk1 hkk.1
          obtain ⟨r, g3, rfl, g4⟩ := hk2 hkk.2
          refine Ok.cF rfl ?_
          have l1 := lnumsR_len g1
          have hl : l.length = k - 2 := by omega
          obtain ⟨A3, v1, v2⟩ := ints_drop g2 (lo := 2) (by omega)
          obtain ⟨y0, h0⟩ : ∃ y, l[0]? = some y := ⟨l[0], List.getElem?_eq_getElem (by omega)⟩
          obtain ⟨y1, h1⟩ : ∃ y, l[1]? = some y := ⟨l[1], List.getElem?_eq_getElem (by omega)⟩
          obtain ⟨b, o, r0, ld0⟩ := ints_ld g2 h0
          obtain ⟨b', o', r0', ld1⟩ := ints_ld g2 h1
          rw [r0] at r0'
          obtain ⟨rfl, rfl⟩ := Prod.mk.inj (Option.some.inj r0')
          obtain ⟨x1, hx1⟩ : ∃ x, w[1]? = some x := ⟨w[1], List.getElem?_eq_getElem (by omega)⟩
          obtain ⟨b2, o2, r3, ld2⟩ := strs_ref ha hx1
          have ld0 := fun σ => ld0 O σ
          have ld1 := fun σ => ld1 O σ
          have ld2 := fun σ => ld2 O σ
          simp only [Nat.add_zero] at ld0
          have d1 : (decide ((2 : Int) ≤ (l.length : Int)) && decide ((l.length : Int) ≤ (l.length : Int))) = true := by rw [decide_eq_true (by omega), decide_eq_true (by omega)]; rfl
          refine Ok.cT d1 ?_
          refine Ok.to (x := A3) v1 ?_
          have d2 : decide ((0 : Int) < (l.length : Int)) = true := decide_eq_true (by omega)
          have d3 : decide ((1 : Int) < (l.length : Int)) = true := decide_eq_true (by omega)
          have d4 : decide ((1 : Int) < (w.length : Int)) = true := decide_eq_true (by omega)
          have ne : σ4.next ≠ σ.next := by omega
          have ne' : σ.next ≠ σ4.next := by omega
          generalize hnl : l.length = n at *
          have bb : ∀ x, ((σ4.bump 1).put σ4.next x).blk σ.next = some (.cells true 48 [.i .i64 0, .i .i64 0, .i .i64 0, .i .i64 0, .b false, .sl .nil 0, .sl .nil 0]) := fun x => by rw [s_bn ne']; exact b4
          simp -implicitDefEqProofs only [d2, d3, d4, r0, r3, ld0, ld1, ld2, bb, Nat.reduceAdd, Nat.reduceMul, Nat.reduceLT, Int.reduceToNat, Int.reduceAdd, Int.reduceSub, Int.reduceMul, rsU, s_ldI, s_ldU, s_ldS, s_ldP, s_gtI, s_gtU, s_gtS, s_bleD, Nat.reduceLeDiff, decide_true, decide_false]
          refine Ok_some.2 ⟨?_, ((EE.bump 1).put (by omega) _).put (Nat.le_refl _) _⟩
          rw [hL, g1, g3]
          refine ⟨A3, A2, ?_, v2, g4⟩
          have e0 : l.getD 0 0 = y0 := by simp [List.getD, h0]
          have e1 : l.getD 1 0 = y1 := by simp [List.getD, h1]
          have e5 : decide (w[1]? = some largeB) = (x1 == ([108, 97, 114, 103, 101] : List UInt8)) := by
            rw [hx1]
            by_cases h : x1 = largeB
            · rw [h]; rfl
            · rw [decide_eq_false (fun q => h (Option.some.inj q))]
              exact (by simpa [largeB] using h : (x1 == ([108, 97, 114, 103, 101] : List UInt8)) = false).symm
          simp only [mkN, NV.cells, e0, e1, e5, List.length_drop]
          rw [hnl]
end Go.Abs.Tryd
