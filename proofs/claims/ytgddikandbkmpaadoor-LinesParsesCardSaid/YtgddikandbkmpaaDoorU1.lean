/-
  The document's texts of numbers: haymowref03. No conditions.
-/
import Derived.Test.YtgddikandbkmpaaDoorS10l
import Derived.Test.YtgddikandbkmpaaDoorT3
import Derived.Test.YtgddikandbkmpaaDoorT1
import Derived.Test.YtgddikandbkmpaaDoorI4
set_option linter.unusedVariables false
set_option linter.unusedSimpArgs false
set_option linter.constructorNameAsVariable false
set_option linter.unusedSimpArgs false
set_option linter.unusedVariables false
set_option maxHeartbeats 2000000
namespace Go.Abs.Tryd
open Go Go.Abs
variable {O : Type}
theorem tdivN (v : Nat) : Int.tdiv (v : Int) 10 = ((v / 10 : Nat) : Int) := (Int.ofNat_tdiv v 10).symm
theorem asBytesU : ∀ bs : Bs, asBytes (bs.map fun c => .i .u8 (c.toNat : Int)) = some bs
 | [] => rfl
 | c :: bs => by
  have := asBytesU bs
  simp only [List.map_cons, asBytes, this, Option.map_some]; simp
theorem rdNew1 {σ : AH O} {el b : Nat} {x : AV} : (σ.put b (.cells true el [x])).rdSl (.loc (.n b) 0 1) 1 1 = some [x] := by
 have : Rd (σ.put b (.cells true el [x])) 1 (.loc (.n b) 0 1) 1 [x] := ⟨rfl, rfl, [x], by simp [AH.cs], by simp, rfl⟩
 exact this.rdSl
theorem digs_few {u : Nat} (hu : u < 18446744073709551616) : (digs u).length ≤ 20 := digs_len (by decide) (Nat.lt_trans hu (by decide))
theorem numT_few {n : Int} (h : I64 n) : (numT n).length ≤ 21 := by
 obtain ⟨h0, h1⟩ := h
 unfold numT; split
 ·have := digs_few (u := (-n).toNat) (by omega); simp; omega
 ·have := digs_few (u := n.toNat) (by omega); omega
end Go.Abs.Tryd
namespace Go.Abs.Tryd
open Go Go.Abs
variable {O : Type}
theorem p16 {k : Nat} (h : k < 16) : 16 ^ k * 16 ≤ 18446744073709551616 := by
 have : 16 ^ (k + 1) ≤ 16 ^ 16 := Nat.pow_le_pow_right (by omega) (by omega)
 rw [Nat.pow_succ] at this; exact this
def hexA (s : Bs) : AV := match hexR s with | some w => .tup [.i .u64 (w : Int), .b true] | none => .tup [.i .u64 0, .b false]
theorem rReadHex_ok {σ : AH O} {s : Bs} : Ok (haymowref03_ReadHex [.s s] σ) fun r => r = (hexA s, σ) := by
 by_cases hl : s.length = 16
 ·have f0 : (((s.length : Int) : Int) != 16) = false := by simp [hl]
  simp (maxSteps := 2000000) -implicitDefEqProofs (disch := (first | omega | rfl | assumption | (simp only [rsD]; first | omega | assumption))) only [haymowref03_ReadHex, haymowref03_ReadHex_c, f0, Nat.reduceAdd, Nat.reduceMul, Nat.reduceLT, Int.reduceToNat, Int.reduceAdd, Int.reduceSub, Int.reduceMul, rsU, rsC]
  have hh : hexA s = match hexF 0 s with | some w => .tup [.i .u64 (w : Int), .b true] | none => .tup [.i .u64 0, .b false] := by unfold hexA hexR; rw [if_pos hl]
  refine Ok.bindS (Q := fun r => match r with | .inl q => ∃ w : Nat, q = ([.i .u64 (w : Int)], σ) ∧ hexF 0 s = some w | .inr r => hexF 0 s = none ∧ r = (.tup [.i .u64 0, .b false], σ)) ?_ ?_ ?_
  ·refine Ok.count 16 (fun k q => ∃ v : Nat, q = ([.i .u64 (v : Int), .i .i64 (k : Int)], σ) ∧ v < 16 ^ k ∧ hexF 0 s = hexF v (s.drop k)) ?_ ?_ ⟨0, rfl, by simp, by simp⟩
   ·rintro k _ hk ⟨v, rfl, hv, hf⟩
    have hp := p16 hk
    have dk : decide ((k : Int) < 16) = true := decide_eq_true (by omega)
    have d0 : decide ((0 : Int) ≤ (k : Int)) = true := decide_eq_true (by omega)
    have e1 : IntKind.i64.wrap ((k : Int) + 1) = ((k + 1 : Nat) : Int) := by rw [i64_id (by omega) (by omega)]; omega
    have hg : s[k]? = some s[k] := List.getElem?_eq_getElem (by omega)
    have hd : s.drop k = s[k] :: s.drop (k + 1) := List.drop_eq_getElem_cons (by omega)
    rw [hd, hexF] at hf
    generalize s[k] = c at *
    have t1 : (true == true) = true := rfl
    have t2 : (false == true) = false := rfl
    by_cases h48 : 48 ≤ c.toNat ∧ c.toNat ≤ 57
    ·have g1 : decide (((c.toNat : Nat) : Int) ≥ 48) = true := decide_eq_true (by omega)
     have g2 : decide (((c.toNat : Nat) : Int) ≤ 57) = true := decide_eq_true (by omega)
     have fv : figV c = some (c.toNat - 48) := by rw [figV, if_pos h48]
     rw [fv] at hf
     have ew : IntKind.u64.wrap (IntKind.u64.wrap ((v : Int) * 16 + ((c.toNat : Nat) : Int)) - 48) = ((v * 16 + (c.toNat - 48) : Nat) : Int) := by
      rw [wrap_u64, wrap_u64]; omega
     simp (maxSteps := 2000000) -implicitDefEqProofs (disch := (first | omega | rfl | assumption | (simp only [rsD]; first | omega | assumption))) only [haymowref03_ReadHex_L1, dk, d0, Int.toNat_natCast, hg, g1, g2, t1, ew, e1, Nat.reduceAdd, Nat.reduceMul, Nat.reduceLT, Int.reduceToNat, Int.reduceAdd, Int.reduceSub, Int.reduceMul, rsU, rsC]
     exact Ok_some.2 ⟨_, rfl, by rw [Nat.pow_succ]; omega, hf⟩
    ·have g12 : ∀ {x : Bool}, decide (((c.toNat : Nat) : Int) ≥ 48) = x → x = true → decide (((c.toNat : Nat) : Int) ≤ 57) = false := fun hx ht => decide_eq_false fun h => h48 ⟨by rw [ht] at hx; have := of_decide_eq_true hx; omega, by omega⟩
     by_cases h97 : 97 ≤ c.toNat ∧ c.toNat ≤ 102
     ·have g1 : decide (((c.toNat : Nat) : Int) ≥ 48) = true := decide_eq_true (by omega)
      have g2 := g12 g1 rfl
      have g3 : decide (((c.toNat : Nat) : Int) ≥ 97) = true := decide_eq_true (by omega)
      have g4 : decide (((c.toNat : Nat) : Int) ≤ 102) = true := decide_eq_true (by omega)
      have fv : figV c = some (c.toNat - 87) := by rw [figV, if_neg h48, if_pos h97]
      rw [fv] at hf
      have ew : IntKind.u64.wrap (IntKind.u64.wrap ((v : Int) * 16 + ((c.toNat : Nat) : Int)) - 87) = ((v * 16 + (c.toNat - 87) : Nat) : Int) := by
       rw [wrap_u64, wrap_u64]; omega
      simp (maxSteps := 2000000) -implicitDefEqProofs (disch := (first | omega | rfl | assumption | (simp only [rsD]; first | omega | assumption))) only [haymowref03_ReadHex_L1, dk, d0, Int.toNat_natCast, hg, g1, g2, g3, g4, t1, t2, ew, e1, Nat.reduceAdd, Nat.reduceMul, Nat.reduceLT, Int.reduceToNat, Int.reduceAdd, Int.reduceSub, Int.reduceMul, rsU, rsC]
      exact Ok_some.2 ⟨_, rfl, by rw [Nat.pow_succ]; omega, hf⟩
     ·have fv : figV c = none := by rw [figV, if_neg h48, if_neg h97]
      rw [fv] at hf
      cases g1 : decide (((c.toNat : Nat) : Int) ≥ 48) with
      | true =>
       have g2 := g12 g1 rfl
       cases g3 : decide (((c.toNat : Nat) : Int) ≥ 97) with
       | true =>
        have g4 : decide (((c.toNat : Nat) : Int) ≤ 102) = false := decide_eq_false fun h => h97 ⟨by have := of_decide_eq_true g3; omega, by omega⟩
        simp (maxSteps := 2000000) -implicitDefEqProofs (disch := (first | omega | rfl | assumption | (simp only [rsD]; first | omega | assumption))) only [haymowref03_ReadHex_L1, dk, d0, Int.toNat_natCast, hg, g1, g2, g3, g4, t1, t2, Nat.reduceAdd, Nat.reduceMul, Nat.reduceLT, Int.reduceToNat, Int.reduceAdd, Int.reduceSub, Int.reduceMul, rsU, rsC]
        exact Ok_some.2 ⟨hf, rfl⟩
       | false =>
        simp (maxSteps := 2000000) -implicitDefEqProofs (disch := (first | omega | rfl | assumption | (simp only [rsD]; first | omega | assumption))) only [haymowref03_ReadHex_L1, dk, d0, Int.toNat_natCast, hg, g1, g2, g3, t1, t2, Nat.reduceAdd, Nat.reduceMul, Nat.reduceLT, Int.reduceToNat, Int.reduceAdd, Int.reduceSub, Int.reduceMul, rsU, rsC]
        exact Ok_some.2 ⟨hf, rfl⟩
      | false =>
       have g3 : decide (((c.toNat : Nat) : Int) ≥ 97) = false := decide_eq_false fun h => by have := of_decide_eq_false g1; omega
       simp (maxSteps := 2000000) -implicitDefEqProofs (disch := (first | omega | rfl | assumption | (simp only [rsD]; first | omega | assumption))) only [haymowref03_ReadHex_L1, dk, d0, Int.toNat_natCast, hg, g1, g3, t1, t2, Nat.reduceAdd, Nat.reduceMul, Nat.reduceLT, Int.reduceToNat, Int.reduceAdd, Int.reduceSub, Int.reduceMul, rsU, rsC]
       exact Ok_some.2 ⟨hf, rfl⟩
   ·rintro _ ⟨v, rfl, hv, hf⟩
    have dk : decide (((16 : Nat) : Int) < 16) = false := rfl
    simp (maxSteps := 2000000) -implicitDefEqProofs (disch := (first | omega | rfl | assumption | (simp only [rsD]; first | omega | assumption))) only [haymowref03_ReadHex_L1, dk, Nat.reduceAdd, Nat.reduceMul, Nat.reduceLT, Int.reduceToNat, Int.reduceAdd, Int.reduceSub, Int.reduceMul, rsU, rsC]
    exact Ok_some.2 ⟨v, rfl, by rw [hf, List.drop_eq_nil_of_le (by omega)]; rfl⟩
  ·rintro q ⟨w, rfl, hf⟩
   simp (maxSteps := 2000000) -implicitDefEqProofs (disch := (first | omega | rfl | assumption | (simp only [rsD]; first | omega | assumption))) only [Nat.reduceAdd, Nat.reduceMul, Nat.reduceLT, Int.reduceToNat, Int.reduceAdd, Int.reduceSub, Int.reduceMul, rsU, rsC]
   exact Ok_some.2 (by rw [hh, hf])
  ·rintro r ⟨hf, rfl⟩
   rw [hh, hf]
 ·have f0 : (((s.length : Int) : Int) != 16) = true := by simp; omega
  simp (maxSteps := 2000000) -implicitDefEqProofs (disch := (first | omega | rfl | assumption | (simp only [rsD]; first | omega | assumption))) only [haymowref03_ReadHex, haymowref03_ReadHex_c, f0, Nat.reduceAdd, Nat.reduceMul, Nat.reduceLT, Int.reduceToNat, Int.reduceAdd, Int.reduceSub, Int.reduceMul, rsU, rsC]
  exact Ok_some.2 (by unfold hexA hexR; rw [if_neg hl])
def numA (s : Bs) : AV := .tup [.i .i64 (numR s).1, .i .i64 ((numR s).2 : Int)]
theorem rl1_ok {σ : AH O} {d : Bs} (hl : d.length ≤ 1000000000) : Ok (loopF (S := List AV × AH O) (T := (List AV × AH O) ⊕ (AV × AH O)) (haymowref03_Read_L1 d) ([.i .i64 0], σ)) fun r => match r with | .inl q => q = ([], σ) ∧ d.all isD = true | .inr r => r = (.tup [.i .i64 0, .i .i64 5], σ) ∧ d.all isD = false := by
 refine Ok.count d.length (fun k q => q = ([.i .i64 (k : Int)], σ) ∧ (d.take k).all isD = true) ?_ ?_ ⟨rfl, by simp⟩
 ·rintro k _ hk ⟨rfl, ha⟩
  have dk : decide ((k : Int) < (d.length : Int)) = true := decide_eq_true (by omega)
  have d0 : decide ((0 : Int) ≤ (k : Int)) = true := decide_eq_true (by omega)
  have e1 : IntKind.i64.wrap ((k : Int) + 1) = ((k + 1 : Nat) : Int) := by rw [i64_id (by omega) (by omega)]; omega
  have hg : d[k]? = some d[k] := List.getElem?_eq_getElem hk
  have ht : (d.take (k + 1)).all isD = ((d.take k).all isD && isD d[k]) := by rw [List.take_succ_eq_append_getElem hk, List.all_append]; simp
  have hn : isD d[k] = false → d.all isD = false := fun h => by
   rw [Bool.eq_false_iff]; intro e
   rw [List.all_eq_true.1 e _ (List.getElem_mem hk)] at h; cases h
  rw [ha, Bool.true_and] at ht
  generalize d[k] = c at *
  have t1 : (true == false) = false := rfl
  have t2 : (false == false) = true := rfl
  by_cases h48 : c.toNat < 48
  ·have g1 : decide (((c.toNat : Nat) : Int) < 48) = true := decide_eq_true (by omega)
   simp (maxSteps := 2000000) -implicitDefEqProofs (disch := (first | omega | rfl | assumption | (simp only [rsD]; first | omega | assumption))) only [haymowref03_Read_L1, dk, d0, Int.toNat_natCast, hg, g1, t1, Nat.reduceAdd, Nat.reduceMul, Nat.reduceLT, Int.reduceToNat, Int.reduceAdd, Int.reduceSub, Int.reduceMul, rsU, rsC]
   exact Ok_some.2 ⟨rfl, hn (by unfold isD; exact decide_eq_false (by omega))⟩
  ·have g1 : decide (((c.toNat : Nat) : Int) < 48) = false := decide_eq_false (by omega)
   by_cases h57 : 57 < c.toNat
   ·have g2 : decide (((c.toNat : Nat) : Int) > 57) = true := decide_eq_true (by omega)
    simp (maxSteps := 2000000) -implicitDefEqProofs (disch := (first | omega | rfl | assumption | (simp only [rsD]; first | omega | assumption))) only [haymowref03_Read_L1, dk, d0, Int.toNat_natCast, hg, g1, g2, t2, Nat.reduceAdd, Nat.reduceMul, Nat.reduceLT, Int.reduceToNat, Int.reduceAdd, Int.reduceSub, Int.reduceMul, rsU, rsC]
    exact Ok_some.2 ⟨rfl, hn (by unfold isD; exact decide_eq_false (by omega))⟩
   ·have g2 : decide (((c.toNat : Nat) : Int) > 57) = false := decide_eq_false (by omega)
    simp (maxSteps := 2000000) -implicitDefEqProofs (disch := (first | omega | rfl | assumption | (simp only [rsD]; first | omega | assumption))) only [haymowref03_Read_L1, dk, d0, Int.toNat_natCast, hg, g1, g2, t2, e1, Nat.reduceAdd, Nat.reduceMul, Nat.reduceLT, Int.reduceToNat, Int.reduceAdd, Int.reduceSub, Int.reduceMul, rsU, rsC]
    exact Ok_some.2 ⟨rfl, by rw [ht]; unfold isD; exact decide_eq_true (by omega)⟩
 ·rintro _ ⟨rfl, ha⟩
  have dk : decide ((d.length : Int) < (d.length : Int)) = false := decide_eq_false (by omega)
  simp (maxSteps := 2000000) -implicitDefEqProofs (disch := (first | omega | rfl | assumption | (simp only [rsD]; first | omega | assumption))) only [haymowref03_Read_L1, dk, Nat.reduceAdd, Nat.reduceMul, Nat.reduceLT, Int.reduceToNat, Int.reduceAdd, Int.reduceSub, Int.reduceMul, rsU, rsC]
  exact Ok_some.2 ⟨rfl, by rw [List.take_length] at ha; exact ha⟩
theorem rl2_ok {σ : AH O} {d : Bs} (hl : d.length ≤ 19) (ha : d.all isD = true) : Ok (loopF (S := List AV × AH O) (T := List AV × AH O) (haymowref03_Read_L2 d) ([.i .u64 0, .i .i64 0], σ)) fun r => r = ([.i .u64 (valF 0 d : Int)], σ) := by
 refine Ok.count d.length (fun k q => q = ([.i .u64 (valF 0 (d.take k) : Int), .i .i64 (k : Int)], σ)) ?_ ?_ rfl
 ·rintro k _ hk rfl
  have dk : decide ((k : Int) < (d.length : Int)) = true := decide_eq_true (by omega)
  have d0 : decide ((0 : Int) ≤ (k : Int)) = true := decide_eq_true (by omega)
  have e1 : IntKind.i64.wrap ((k : Int) + 1) = ((k + 1 : Nat) : Int) := by rw [i64_id (by omega) (by omega)]; omega
  have hg : d[k]? = some d[k] := List.getElem?_eq_getElem hk
  have hv : valF 0 (d.take (k + 1)) = valF 0 (d.take k) * 10 + (d[k].toNat - 48) := by rw [List.take_succ_eq_append_getElem hk, valF_append]; rfl
  have hc : isD d[k] = true := List.all_eq_true.1 ha _ (List.getElem_mem hk)
  have hb := valF_lt 0 (d.take (k + 1)) (List.all_eq_true.2 fun c hc => List.all_eq_true.1 ha c (List.mem_of_mem_take hc))
  have hp : 10 ^ (d.take (k + 1)).length ≤ 10 ^ 19 := Nat.pow_le_pow_right (by omega) (by rw [List.length_take]; omega)
  have h19 : (10 : Nat) ^ 19 = 10000000000000000000 := by decide
  rw [hv] at *
  have hc := of_decide_eq_true hc
  generalize d[k] = c at *
  generalize valF 0 (d.take k) = v at *
  have ew : (v : Int) * 10 + ((c.toNat : Nat) : Int) - 48 = ((v * 10 + (c.toNat - 48) : Nat) : Int) := by omega
  simp (maxSteps := 2000000) -implicitDefEqProofs (disch := (first | omega | rfl | assumption | (simp only [rsD]; first | omega | assumption))) only [haymowref03_Read_L2, dk, d0, Int.toNat_natCast, hg, ew, e1, Nat.reduceAdd, Nat.reduceMul, Nat.reduceLT, Int.reduceToNat, Int.reduceAdd, Int.reduceSub, Int.reduceMul, rsU, rsC]
  exact Ok_some.2 rfl
 ·rintro _ h
  rw [List.take_length] at h
  subst h
  have dk : decide ((d.length : Int) < (d.length : Int)) = false := decide_eq_false (by omega)
  simp (maxSteps := 2000000) -implicitDefEqProofs (disch := (first | omega | rfl | assumption | (simp only [rsD]; first | omega | assumption))) only [haymowref03_Read_L2, dk, Nat.reduceAdd, Nat.reduceMul, Nat.reduceLT, Int.reduceToNat, Int.reduceAdd, Int.reduceSub, Int.reduceMul, rsU, rsC]
  exact Ok_some.2 rfl
theorem rRead_ok {σ : AH O} {s : Bs} (hl : s.length ≤ 1000000000) : Ok (haymowref03_Read [.s s] σ) fun r => r = (numA s, σ) := by
 have t1 : (true == true) = true := rfl
 have t2 : (false == true) = false := rfl
 have t3 : (true == false) = false := rfl
 have t4 : (false == false) = true := rfl
 have key : ∀ {d : Bs} {b : Bool}, noSign s = d → d.length ≤ s.length → (((d.length : Int) : Int) == (s.length : Int)) = b → (b = true → d = s) → numR s = (if d = [] ∨ (d.head? = some 48 ∧ 1 < s.length) then (0, 5) else if d.all isD = false then (0, 5) else if 19 < d.length then (0, 2) else if b = true then (if 9223372036854775807 < valF 0 d then (0, 2) else ((valF 0 d : Int), 0)) else (if 9223372036854775808 < valF 0 d then (0, 2) else (-(valF 0 d : Int), 0))) := fun {d b} hd hle hb hs => by
  unfold numR; rw [hd]
  cases b with
  | true =>
   have := hs rfl
   subst this
   simp
  | false =>
   have : d.length ≠ s.length := fun h => by rw [h] at hb; simp at hb
   simp [this]
 by_cases hs0 : s.length = 0
 ·have : s = [] := List.eq_nil_of_length_eq_zero hs0
  subst this
  simp (maxSteps := 2000000) -implicitDefEqProofs (disch := (first | omega | rfl | assumption | (simp only [rsD]; first | omega | assumption))) only [haymowref03_Read, haymowref03_Read_c, t1, t2, t3, t4, List.length_nil, Nat.reduceAdd, Nat.reduceMul, Nat.reduceLT, Int.reduceToNat, Int.reduceAdd, Int.reduceSub, Int.reduceMul, rsU, rsC]
  exact Ok_some.2 rfl
 have pos : decide ((s.length : Int) > 0) = true := decide_eq_true (by omega)
 obtain ⟨c, hg⟩ : ∃ c, s[0]? = some c := ⟨s[0], List.getElem?_eq_getElem (by omega)⟩
 have hh0 : s.head? = some c := by rw [List.head?_eq_getElem?]; exact hg
 by_cases h45 : c = 45
 ·have y45 : (((c.toNat : Int) : Int) == 45) = true := by subst h45; rfl
  have dA1 : decide ((1 : Int) ≤ (s.length : Int)) = true := decide_eq_true (by omega)
  have dA2 : decide ((s.length : Int) ≤ (s.length : Int)) = true := decide_eq_true (by omega)
  have eD : (s.drop 1).take (s.length - 1) = s.tail := by rw [List.take_of_length_le (by simp)]; simp
  have hdn : noSign s = s.tail := by unfold noSign; rw [hh0, h45]; simp
  have hle : s.tail.length ≤ s.length := by simp
  have fb : (((s.tail.length : Int) : Int) == (s.length : Int)) = false := by
   have : s.tail.length = s.length - 1 := by simp
   rw [this]; simp; omega
  have K := key hdn hle fb (fun h => by cases h)
  simp (maxSteps := 2000000) -implicitDefEqProofs (disch := (first | omega | rfl | assumption | (simp only [rsD]; first | omega | assumption))) only [haymowref03_Read, haymowref03_Read_c, pos, hg, y45, dA1, dA2, eD, Int.toNat_natCast, t1, t2, t3, t4, Nat.reduceAdd, Nat.reduceMul, Nat.reduceLT, Int.reduceToNat, Int.reduceAdd, Int.reduceSub, Int.reduceMul, rsU, rsC]
  clear eD hdn key
  generalize s.tail = d at *
  by_cases hd : d.length = 0
  ·have dn : d = [] := List.eq_nil_of_length_eq_zero hd
   have z : (((d.length : Int) : Int) == 0) = true := by simp [hd]
   simp -implicitDefEqProofs only [z, t1, t2, t3, t4, Nat.reduceAdd, Nat.reduceMul, Nat.reduceLT, Int.reduceToNat, Int.reduceAdd, Int.reduceSub, Int.reduceMul, rsU, s_ldI, s_ldU, s_ldS, s_ldP, s_gtI, s_gtU, s_gtS, s_bleD, Nat.reduceLeDiff, decide_true, decide_false]
   exact Ok_some.2 (by unfold numA; rw [K, if_pos (.inl dn)]; rfl)
  ·have z : (((d.length : Int) : Int) == 0) = false := by simp; intro h; exact hd (by rw [h]; rfl)
   obtain ⟨e, hge⟩ : ∃ e, d[0]? = some e := ⟨d[0], List.getElem?_eq_getElem (by omega)⟩
   have hh : d.head? = some e := by rw [List.head?_eq_getElem?]; exact hge
   have dn : d ≠ [] := fun h => hd (by rw [h]; rfl)
   have body : ¬ (d = [] ∨ (d.head? = some 48 ∧ 1 < s.length)) → Ok (bindS (S := List AV × AH O) (R := (AV × AH O)) (loopF (S := List AV × AH O) (T := (List AV × AH O) ⊕ (AV × AH O)) (haymowref03_Read_L1 d) ([(.i .i64 0)], σ)) fun r17 =>
     (bif (decide ((d.length : Int) > 19)) then
     some ((.tup [(.i .i64 0), (.i .i64 2)]), r17.2)
     else (loopF (S := List AV × AH O) (T := List AV × AH O) (haymowref03_Read_L2 d) ([(.i .u64 0), (.i .i64 0)], r17.2)).bind fun r23 =>
     (AV.asI .u64 (r23.1.getD 0 .u)).bind fun n24 =>
     (bif (((d.length : Int) : Int) == (s.length : Int)) then
     (bif (decide (n24 > 9223372036854775807)) then
     some ((.tup [(.i .i64 0), (.i .i64 2)]), r23.2)
     else some ((.tup [(.i .i64 (IntKind.i64.wrap n24)), (.i .i64 0)]), r23.2))
     else (bif (decide (n24 > 9223372036854775808)) then
     some ((.tup [(.i .i64 0), (.i .i64 2)]), r23.2)
     else some ((.tup [(.i .i64 (IntKind.i64.wrap (IntKind.u64.wrap (0 - n24)))), (.i .i64 0)]), r23.2))))) fun r => r = (numA s, σ) := fun nc => by
    rw [if_neg nc] at K
    refine Ok.bindS (rl1_ok (by omega)) (fun q hq => ?_) (fun r hr => ?_)
    ·obtain ⟨rfl, ha⟩ := hq
     rw [ha, if_neg (by simp)] at K
     by_cases h19 : 19 < d.length
     ·have g19 : decide ((d.length : Int) > 19) = true := decide_eq_true (by omega)
      rw [if_pos h19] at K
      simp (maxSteps := 2000000) -implicitDefEqProofs (disch := (first | omega | rfl | assumption | (simp only [rsD]; first | omega | assumption))) only [g19, Nat.reduceAdd, Nat.reduceMul, Nat.reduceLT, Int.reduceToNat, Int.reduceAdd, Int.reduceSub, Int.reduceMul, rsU, rsC]
      exact Ok_some.2 (by unfold numA; rw [K]; rfl)
     ·have g19 : decide ((d.length : Int) > 19) = false := decide_eq_false (by omega)
      rw [if_neg h19] at K
      simp (maxSteps := 2000000) -implicitDefEqProofs (disch := (first | omega | rfl | assumption | (simp only [rsD]; first | omega | assumption))) only [g19, Nat.reduceAdd, Nat.reduceMul, Nat.reduceLT, Int.reduceToNat, Int.reduceAdd, Int.reduceSub, Int.reduceMul, rsU, rsC]
      refine Ok.step (rl2_ok (by omega) ha) ?_
      rintro _ rfl
      generalize valF 0 d = v at *
      rw [if_neg (by simp)] at K
      by_cases hv : 9223372036854775808 < v
      ·have gv : decide ((v : Int) > 9223372036854775808) = true := decide_eq_true (by omega)
       rw [if_pos hv] at K
       simp (maxSteps := 2000000) -implicitDefEqProofs (disch := (first | omega | rfl | assumption | (simp only [rsD]; first | omega | assumption))) only [fb, gv, Nat.reduceAdd, Nat.reduceMul, Nat.reduceLT, Int.reduceToNat, Int.reduceAdd, Int.reduceSub, Int.reduceMul, rsU, rsC]
       exact Ok_some.2 (by unfold numA; rw [K]; rfl)
      ·have gv : decide ((v : Int) > 9223372036854775808) = false := decide_eq_false (by omega)
       have ew : IntKind.i64.wrap (IntKind.u64.wrap (0 - (v : Int))) = -(v : Int) := by rw [wrap_i64, wrap_u64]; omega
       rw [if_neg hv] at K
       simp (maxSteps := 2000000) -implicitDefEqProofs (disch := (first | omega | rfl | assumption | (simp only [rsD]; first | omega | assumption))) only [fb, gv, ew, Nat.reduceAdd, Nat.reduceMul, Nat.reduceLT, Int.reduceToNat, Int.reduceAdd, Int.reduceSub, Int.reduceMul, rsU, rsC]
       exact Ok_some.2 (by unfold numA; rw [K]; rfl)
    ·obtain ⟨rfl, ha⟩ := hr
     rw [ha, if_pos rfl] at K
     unfold numA; rw [K]; rfl
   by_cases h48 : e = 48
   ·have q48 : (((e.toNat : Int) : Int) == 48) = true := by subst h48; rfl
    by_cases h1 : 1 < s.length
    ·have g1 : decide ((s.length : Int) > 1) = true := decide_eq_true (by omega)
     simp -implicitDefEqProofs only [z, hge, q48, g1, t1, t2, t3, t4, Nat.reduceAdd, Nat.reduceMul, Nat.reduceLT, Int.reduceToNat, Int.reduceAdd, Int.reduceSub, Int.reduceMul, rsU, s_ldI, s_ldU, s_ldS, s_ldP, s_gtI, s_gtU, s_gtS, s_bleD, Nat.reduceLeDiff, decide_true, decide_false]
     exact Ok_some.2 (by unfold numA; rw [K, if_pos (.inr ⟨by rw [hh, h48], h1⟩)]; rfl)
    ·have g1 : decide ((s.length : Int) > 1) = false := decide_eq_false (by omega)
     simp -implicitDefEqProofs only [z, hge, q48, g1, t1, t2, t3, t4, Nat.reduceAdd, Nat.reduceMul, Nat.reduceLT, Int.reduceToNat, Int.reduceAdd, Int.reduceSub, Int.reduceMul, rsU, s_ldI, s_ldU, s_ldS, s_ldP, s_gtI, s_gtU, s_gtS, s_bleD, Nat.reduceLeDiff, decide_true, decide_false]
     exact body fun h => h.elim dn fun h => h1 h.2
   ·have q48 : (((e.toNat : Int) : Int) == 48) = false := by
     simp; intro h; exact h48 (UInt8.toNat.inj (by have : e.toNat = 48 := by omega
                                                   exact this))
    simp -implicitDefEqProofs only [z, hge, q48, t1, t2, t3, t4, Nat.reduceAdd, Nat.reduceMul, Nat.reduceLT, Int.reduceToNat, Int.reduceAdd, Int.reduceSub, Int.reduceMul, rsU, s_ldI, s_ldU, s_ldS, s_ldP, s_gtI, s_gtU, s_gtS, s_bleD, Nat.reduceLeDiff, decide_true, decide_false]
    exact body fun h => h.elim dn fun h => h48 (by rw [hh] at h; exact Option.some.inj h.1)
 ·have y45 : (((c.toNat : Int) : Int) == 45) = false := by
   simp; intro h; exact h45 (UInt8.toNat.inj (by have : c.toNat = 45 := by omega
                                                 exact this))
  have hdn : noSign s = s := by unfold noSign; rw [hh0, if_neg (by simp [h45])]
  have fb : (((s.length : Int) : Int) == (s.length : Int)) = true := by simp
  have K := key hdn (Nat.le_refl _) fb (fun h => rfl)
  have z : (((s.length : Int) : Int) == 0) = false := by simp; intro h; exact hs0 (by rw [h]; rfl)
  simp -implicitDefEqProofs only [haymowref03_Read, haymowref03_Read_c, pos, hg, y45, z, t1, t2, t3, t4, Nat.reduceAdd, Nat.reduceMul, Nat.reduceLT, Int.reduceToNat, Int.reduceAdd, Int.reduceSub, Int.reduceMul, rsU, s_ldI, s_ldU, s_ldS, s_ldP, s_gtI, s_gtU, s_gtS, s_bleD, Nat.reduceLeDiff, decide_true, decide_false]
  clear key
  ·have hge := hg
   have hh := hh0
   have hd := hs0
   have z : (((s.length : Int) : Int) == 0) = false := by simp; intro h; exact hd (by rw [h]; rfl)
   have dn : s ≠ [] := fun h => hd (by rw [h]; rfl)
   have body : ¬ (s = [] ∨ (s.head? = some 48 ∧ 1 < s.length)) → Ok (bindS (S := List AV × AH O) (R := (AV × AH O)) (loopF (S := List AV × AH O) (T := (List AV × AH O) ⊕ (AV × AH O)) (haymowref03_Read_L1 s) ([(.i .i64 0)], σ)) fun r17 =>
     (bif (decide ((s.length : Int) > 19)) then
     some ((.tup [(.i .i64 0), (.i .i64 2)]), r17.2)
     else (loopF (S := List AV × AH O) (T := List AV × AH O) (haymowref03_Read_L2 s) ([(.i .u64 0), (.i .i64 0)], r17.2)).bind fun r23 =>
     (AV.asI .u64 (r23.1.getD 0 .u)).bind fun n24 =>
     (bif (((s.length : Int) : Int) == (s.length : Int)) then
     (bif (decide (n24 > 9223372036854775807)) then
     some ((.tup [(.i .i64 0), (.i .i64 2)]), r23.2)
     else some ((.tup [(.i .i64 (IntKind.i64.wrap n24)), (.i .i64 0)]), r23.2))
     else (bif (decide (n24 > 9223372036854775808)) then
     some ((.tup [(.i .i64 0), (.i .i64 2)]), r23.2)
     else some ((.tup [(.i .i64 (IntKind.i64.wrap (IntKind.u64.wrap (0 - n24)))), (.i .i64 0)]), r23.2))))) fun r => r = (numA s, σ) := fun nc => by
    rw [if_neg nc] at K
    refine Ok.bindS (rl1_ok (by omega)) (fun q hq => ?_) (fun r hr => ?_)
    ·obtain ⟨rfl, ha⟩ := hq
     rw [ha, if_neg (by simp)] at K
     by_cases h19 : 19 < s.length
     ·have g19 : decide ((s.length : Int) > 19) = true := decide_eq_true (by omega)
      rw [if_pos h19] at K
      simp (maxSteps := 2000000) -implicitDefEqProofs (disch := (first | omega | rfl | assumption | (simp only [rsD]; first | omega | assumption))) only [g19, Nat.reduceAdd, Nat.reduceMul, Nat.reduceLT, Int.reduceToNat, Int.reduceAdd, Int.reduceSub, Int.reduceMul, rsU, rsC]
      exact Ok_some.2 (by unfold numA; rw [K]; rfl)
     ·have g19 : decide ((s.length : Int) > 19) = false := decide_eq_false (by omega)
      rw [if_neg h19] at K
      simp (maxSteps := 2000000) -implicitDefEqProofs (disch := (first | omega | rfl | assumption | (simp only [rsD]; first | omega | assumption))) only [g19, Nat.reduceAdd, Nat.reduceMul, Nat.reduceLT, Int.reduceToNat, Int.reduceAdd, Int.reduceSub, Int.reduceMul, rsU, rsC]
      refine Ok.step (rl2_ok (by omega) ha) ?_
      rintro _ rfl
      generalize valF 0 s = v at *
      rw [if_pos rfl] at K
      by_cases hv : 9223372036854775807 < v
      ·have gv : decide ((v : Int) > 9223372036854775807) = true := decide_eq_true (by omega)
       rw [if_pos hv] at K
       simp (maxSteps := 2000000) -implicitDefEqProofs (disch := (first | omega | rfl | assumption | (simp only [rsD]; first | omega | assumption))) only [fb, gv, Nat.reduceAdd, Nat.reduceMul, Nat.reduceLT, Int.reduceToNat, Int.reduceAdd, Int.reduceSub, Int.reduceMul, rsU, rsC]
       exact Ok_some.2 (by unfold numA; rw [K]; rfl)
      ·have gv : decide ((v : Int) > 9223372036854775807) = false := decide_eq_false (by omega)
       have ew : IntKind.i64.wrap (v : Int) = (v : Int) := by rw [wrap_i64]; omega
       rw [if_neg hv] at K
       simp (maxSteps := 2000000) -implicitDefEqProofs (disch := (first | omega | rfl | assumption | (simp only [rsD]; first | omega | assumption))) only [fb, gv, ew, Nat.reduceAdd, Nat.reduceMul, Nat.reduceLT, Int.reduceToNat, Int.reduceAdd, Int.reduceSub, Int.reduceMul, rsU, rsC]
       exact Ok_some.2 (by unfold numA; rw [K]; rfl)
    ·obtain ⟨rfl, ha⟩ := hr
     rw [ha, if_pos rfl] at K
     unfold numA; rw [K]; rfl
   by_cases h48 : c = 48
   ·have q48 : (((c.toNat : Int) : Int) == 48) = true := by subst h48; rfl
    by_cases h1 : 1 < s.length
    ·have g1 : decide ((s.length : Int) > 1) = true := decide_eq_true (by omega)
     simp -implicitDefEqProofs only [q48, g1, t1, t2, t3, t4, Nat.reduceAdd, Nat.reduceMul, Nat.reduceLT, Int.reduceToNat, Int.reduceAdd, Int.reduceSub, Int.reduceMul, rsU, s_ldI, s_ldU, s_ldS, s_ldP, s_gtI, s_gtU, s_gtS, s_bleD, Nat.reduceLeDiff, decide_true, decide_false]
     exact Ok_some.2 (by unfold numA; rw [K, if_pos (.inr ⟨by rw [hh, h48], h1⟩)]; rfl)
    ·have g1 : decide ((s.length : Int) > 1) = false := decide_eq_false (by omega)
     simp -implicitDefEqProofs only [q48, g1, t1, t2, t3, t4, Nat.reduceAdd, Nat.reduceMul, Nat.reduceLT, Int.reduceToNat, Int.reduceAdd, Int.reduceSub, Int.reduceMul, rsU, s_ldI, s_ldU, s_ldS, s_ldP, s_gtI, s_gtU, s_gtS, s_bleD, Nat.reduceLeDiff, decide_true, decide_false]
     exact body fun h => h.elim dn fun h => h1 h.2
   ·have q48 : (((c.toNat : Int) : Int) == 48) = false := by
     simp; intro h; exact h48 (UInt8.toNat.inj (by have : c.toNat = 48 := by omega
                                                   exact this))
    simp -implicitDefEqProofs only [q48, t1, t2, t3, t4, Nat.reduceAdd, Nat.reduceMul, Nat.reduceLT, Int.reduceToNat, Int.reduceAdd, Int.reduceSub, Int.reduceMul, rsU, s_ldI, s_ldU, s_ldS, s_ldP, s_gtI, s_gtU, s_gtS, s_bleD, Nat.reduceLeDiff, decide_true, decide_false]
    exact body fun h => h.elim dn fun h => h48 (by rw [hh] at h; exact Option.some.inj h.1)
end Go.Abs.Tryd
namespace Go.Abs.Tryd
open Go Go.Abs
variable {O : Type}
theorem flat_strs (l : List Bs) : (l.map AV.s).all AV.flat = true := by simp [AV.flat]
theorem deep_leaves {el es n : Nat} (xs : List AV) (d : Nat) : (TV.sl el es n (xs.map TV.lf)).deep (d + 1) := by
 simp only [TV.deep]
 intro t ht
 obtain ⟨x, _, rfl⟩ := List.mem_map.1 ht
 simp [TV.deep]
theorem rl_cut {s : Bs} {c : UInt8} {f k : Nat} (hf : f ≤ k) (hk : s[k]? = some c) (hw : c ∉ (s.drop f).take (k - f)) : cutB c (s.drop f) = ((s.drop f).take (k - f)) :: cutB c (s.drop (k + 1)) := by
 obtain ⟨hkl, hkc⟩ := List.getElem?_eq_some_iff.1 hk
 have e : s.drop f = (s.drop f).take (k - f) ++ c :: s.drop (k + 1) := by
  have h1 := (List.take_append_drop (k - f) (s.drop f)).symm
  rw [List.drop_drop, show f + (k - f) = k by omega, List.drop_eq_getElem_cons hkl, hkc] at h1
  exact h1
 have := cut_app c (s.drop (k + 1)) hw
 rw [← e] at this; exact this
theorem rCut_ok {σ : AH O} {s : Bs} {c : UInt8} (hl : s.length ≤ 1000000) : Ok (haymowref03_Cut [.s s, .i .u8 (c.toNat : Int)] σ) fun r => (∃ a, r.1 = .sl a (cutB c s).length ∧ Imm 1 a (cutB c s).length ((cutB c s).map AV.s)) ∧ Ext σ r.2 := by
 have main : Ok (haymowref03_Cut_c [.s s, .i .u8 (c.toNat : Int)] σ) fun r => New σ r.2 [.sl 9 1 (cutB c s).length (((cutB c s).map AV.s).map TV.lf)] [r.1] := by
  simp (maxSteps := 2000000) -implicitDefEqProofs (disch := (first | omega | rfl | assumption | (simp only [rsD]; first | omega | assumption))) only [haymowref03_Cut_c, Nat.reduceAdd, Nat.reduceMul, Nat.reduceLT, Int.reduceToNat, Int.reduceAdd, Int.reduceSub, Int.reduceMul, rsU, rsC]
  refine Ok.step (Q := fun r => ∃ a ws f, r.1 = [.sl a ws.length, .i .i64 ((f : Nat) : Int)] ∧ OwnS r.2 9 1 a ws.length (ws.map AV.s) ∧ Ext σ r.2 ∧ (∀ b ∈ SA.bk a, σ.next ≤ b) ∧ ws.length ≤ s.length ∧ f ≤ s.length ∧ cutB c s = ws ++ [s.drop f]) ?_ ?_
  ·refine Ok.count s.length (fun k q => ∃ a ws f σ', q = ([.sl a ws.length, .i .i64 ((f : Nat) : Int), .i .i64 (k : Int)], σ') ∧ OwnS σ' 9 1 a ws.length (ws.map AV.s) ∧ Ext σ σ' ∧ (∀ b ∈ SA.bk a, σ.next ≤ b) ∧ ws.length ≤ k ∧ f ≤ k ∧ cutB c s = ws ++ cutB c (s.drop f) ∧ c ∉ (s.drop f).take (k - f)) ?_ ?_ ⟨.nil, [], 0, σ, rfl, OwnS.nil _ _ _, Ext.refl _, by simp [SA.bk], by simp, by simp, by simp, by simp⟩
   ·rintro k _ hk ⟨a, ws, f, σ', rfl, own, E, fr, hw, hf, hc, hn⟩
    have dk : decide ((k : Int) < (s.length : Int)) = true := decide_eq_true (by omega)
    have d0 : decide ((0 : Int) ≤ (k : Int)) = true := decide_eq_true (by omega)
    have d1 : decide ((0 : Int) ≤ (f : Int)) = true := decide_eq_true (by omega)
    have d2 : decide ((f : Int) ≤ (k : Int)) = true := decide_eq_true (by omega)
    have d3 : decide ((k : Int) ≤ (s.length : Int)) = true := decide_eq_true (by omega)
    have e1 : IntKind.i64.wrap ((k : Int) + 1) = ((k + 1 : Nat) : Int) := by rw [i64_id (by omega) (by omega)]; omega
    have hg : s[k]? = some s[k] := List.getElem?_eq_getElem hk
    have bl : Nat.ble ((ws.length + 1) * 17) 35184372088832 = true := Nat.ble_eq_true_of_le (by omega)
    by_cases hy : s[k] = c
    ·have q : (((s[k].toNat : Int) : Int) == (c.toNat : Int)) = true := by rw [hy]; simp
     rw [hy] at hg q
     simp (maxSteps := 2000000) -implicitDefEqProofs (disch := (first | omega | rfl | assumption | (simp only [rsD]; first | omega | assumption))) only [haymowref03_Cut_L1, dk, d0, d1, d2, d3, Int.toNat_natCast, hg, q, rdNew1, bl, Nat.reduceAdd, Nat.reduceMul, Nat.reduceLT, Int.reduceToNat, Int.reduceAdd, Int.reduceSub, Int.reduceMul, rsU, rsC]
     refine Ok.step (grow1 own) ?_
     rintro ⟨v, σ2⟩ ⟨a2, g1, g2, g3, g4⟩
     simp only at g1 g2 g3 g4
     subst g1
     simp (maxSteps := 2000000) -implicitDefEqProofs (disch := (first | omega | rfl | assumption | (simp only [rsD]; first | omega | assumption))) only [e1, Nat.reduceAdd, Nat.reduceMul, Nat.reduceLT, Int.reduceToNat, Int.reduceAdd, Int.reduceSub, Int.reduceMul, rsU, rsC]
     refine Ok_some.2 ⟨a2, ws ++ [(s.drop f).take (k - f)], k + 1, σ2, by simp, by simpa using g2, Chg.new E fr g3, fun b hb => by have := g4 b hb; have := E.next; omega, by simp; omega, by omega, ?_, by simp⟩
     rw [hc, rl_cut hf hg hn]; simp
    ·have q : (((s[k].toNat : Int) : Int) == (c.toNat : Int)) = false := by
      simp; intro h; exact hy (UInt8.toNat.inj (by omega))
     have hn' : c ∉ (s.drop f).take (k + 1 - f) := by
      rw [show k + 1 - f = (k - f) + 1 by omega]
      have h1 : (s.drop f).take (k - f + 1) = (s.drop f).take (k - f) ++ [s[k]] := by
       rw [List.take_succ_eq_append_getElem (by simp; omega)]
       simp [show f + (k - f) = k by omega]
      rw [h1]; simp [hn]
      exact fun h => hy h.symm
     simp (maxSteps := 2000000) -implicitDefEqProofs (disch := (first | omega | rfl | assumption | (simp only [rsD]; first | omega | assumption))) only [haymowref03_Cut_L1, dk, d0, Int.toNat_natCast, hg, q, e1, Nat.reduceAdd, Nat.reduceMul, Nat.reduceLT, Int.reduceToNat, Int.reduceAdd, Int.reduceSub, Int.reduceMul, rsU, rsC]
     exact Ok_some.2 ⟨a, ws, f, σ', rfl, own, E, fr, by omega, by omega, hc, hn'⟩
   ·rintro _ ⟨a, ws, f, σ', rfl, own, E, fr, hw, hf, hc, hn⟩
    have dk : decide ((s.length : Int) < (s.length : Int)) = false := decide_eq_false (by omega)
    simp (maxSteps := 2000000) -implicitDefEqProofs (disch := (first | omega | rfl | assumption | (simp only [rsD]; first | omega | assumption))) only [haymowref03_Cut_L1, dk, Nat.reduceAdd, Nat.reduceMul, Nat.reduceLT, Int.reduceToNat, Int.reduceAdd, Int.reduceSub, Int.reduceMul, rsU, rsC]
    refine Ok_some.2 ⟨a, ws, f, rfl, own, E, fr, hw, hf, ?_⟩
    rw [List.take_of_length_le (by simp)] at hn
    rw [hc, cut_free c hn]
  ·rintro ⟨q, σ1⟩ ⟨a, ws, f, rfl, own, E, fr, hw, hf, hc⟩
   simp only at own E
   have d1 : decide ((0 : Int) ≤ (f : Int)) = true := decide_eq_true (by omega)
   have d2 : decide ((f : Int) ≤ (s.length : Int)) = true := decide_eq_true (by omega)
   have d3 : decide ((s.length : Int) ≤ (s.length : Int)) = true := decide_eq_true (by omega)
   have bl : Nat.ble ((ws.length + 1) * 17) 35184372088832 = true := Nat.ble_eq_true_of_le (by omega)
   have et : (s.drop f).take (s.length - f) = s.drop f := List.take_of_length_le (by simp)
   simp (maxSteps := 2000000) -implicitDefEqProofs (disch := (first | omega | rfl | assumption | (simp only [rsD]; first | omega | assumption))) only [d1, d2, d3, Int.toNat_natCast, et, rdNew1, bl, Nat.reduceAdd, Nat.reduceMul, Nat.reduceLT, Int.reduceToNat, Int.reduceAdd, Int.reduceSub, Int.reduceMul, rsU, rsC]
   refine Ok.step (grow1 own) ?_
   rintro ⟨v, σ2⟩ ⟨a2, g1, g2, g3, g4⟩
   simp only at g1 g2 g3 g4
   subst g1
   simp (maxSteps := 2000000) -implicitDefEqProofs (disch := (first | omega | rfl | assumption | (simp only [rsD]; first | omega | assumption))) only [Nat.reduceAdd, Nat.reduceMul, Nat.reduceLT, Int.reduceToNat, Int.reduceAdd, Int.reduceSub, Int.reduceMul, rsU, rsC]
   refine Ok_some.2 ?_
   have g2' : OwnS σ2 9 1 a2 (cutB c s).length ((cutB c s).map AV.s) := by rw [hc]; simpa using g2
   have := New.ints g2' (flat_strs _) (Chg.new E fr g3) (fun b hb => by have := g4 b hb; have := E.next; omega)
   rw [hc] at this ⊢
   simpa using this
 unfold haymowref03_Cut
 refine (frz_sl (deep_leaves _ _) main).mono ?_
 rintro ⟨v, σ'⟩ ⟨h1, E⟩
 obtain ⟨a, vs, rfl, h2, h3⟩ := h1.rd
 rw [h3.ofLeaves] at h2
 exact ⟨⟨a, rfl, h2⟩, E⟩
end Go.Abs.Tryd
namespace Go.Abs.Tryd
open Go Go.Abs
variable {O : Type}
def figsB : Bs := [48, 49, 50, 51, 52, 53, 54, 55, 56, 57, 97, 98, 99, 100, 101, 102]
theorem idx_fig0 : ∀ n, n < 256 → Lib.indexByte figsB (UInt8.ofNat n) = (match figV (UInt8.ofNat n) with | some d => (d : Int) | none => -1) := by decide +kernel
theorem idx_fig (c : UInt8) : Lib.indexByte figsB c = (match figV c with | some d => (d : Int) | none => -1) := by
 have := idx_fig0 c.toNat (UInt8.toNat_lt c)
 rw [UInt8.ofNat_toNat] at this; exact this
theorem figV_lt {c : UInt8} {d : Nat} (h : figV c = some d) : d < 16 := (fig_figV h).2
theorem idxF_ok {σ : AH O} {c : UInt8} : strings_IndexByte [.s figsB, .i .u8 (c.toNat : Int)] σ = some (.i .i64 (match figV c with | some d => (d : Int) | none => -1), σ) := by
 have e : ((c.toNat : Nat) : Int).toNat.toUInt8 = c := by rw [Int.toNat_natCast]; simp
 have h0 : stringslite_IndexByte [.s figsB, .i .u8 (c.toNat : Int)] σ = some (.i .i64 (match figV c with | some d => (d : Int) | none => -1), σ) := by
  simp only [stringslite_IndexByte, e, idx_fig]
 simp (maxSteps := 2000000) -implicitDefEqProofs (disch := (first | omega | rfl | assumption | (simp only [rsD]; first | omega | assumption))) only [strings_IndexByte, strings_IndexByte_c, h0, Nat.reduceAdd, Nat.reduceMul, Nat.reduceLT, Int.reduceToNat, Int.reduceAdd, Int.reduceSub, Int.reduceMul, rsU, rsC]
def hexE (s : Bs) : AV := match hexR s with | some w => .tup [.i .u64 (w : Int), .i .i64 0] | none => .tup [.i .u64 0, .i .i64 5]
theorem gReadHex_ok {σ : AH O} {s : Bs} : Ok (digits_ReadHex [.s s] σ) fun r => r = (hexE s, σ) := by
 by_cases hl : s.length = 16
 ·have f0 : (((s.length : Int) : Int) != 16) = false := by simp [hl]
  simp (maxSteps := 2000000) -implicitDefEqProofs (disch := (first | omega | rfl | assumption | (simp only [rsD]; first | omega | assumption))) only [digits_ReadHex, digits_ReadHex_c, f0, Nat.reduceAdd, Nat.reduceMul, Nat.reduceLT, Int.reduceToNat, Int.reduceAdd, Int.reduceSub, Int.reduceMul, rsU, rsC]
  have hh : hexE s = match hexF 0 s with | some w => .tup [.i .u64 (w : Int), .i .i64 0] | none => .tup [.i .u64 0, .i .i64 5] := by unfold hexE hexR; rw [if_pos hl]
  refine Ok.bindS (Q := fun r => match r with | .inl q => ∃ w : Nat, q = ([.i .u64 (w : Int)], σ) ∧ hexF 0 s = some w | .inr r => hexF 0 s = none ∧ r = (.tup [.i .u64 0, .i .i64 5], σ)) ?_ ?_ ?_
  ·refine Ok.count 16 (fun k q => ∃ v : Nat, q = ([.i .u64 (v : Int), .i .i64 (k : Int)], σ) ∧ v < 16 ^ k ∧ hexF 0 s = hexF v (s.drop k)) ?_ ?_ ⟨0, rfl, by simp, by simp⟩
   ·rintro k _ hk ⟨v, rfl, hv, hf⟩
    have hp := p16 hk
    have dk : decide ((k : Int) < (s.length : Int)) = true := decide_eq_true (by omega)
    have d0 : decide ((0 : Int) ≤ (k : Int)) = true := decide_eq_true (by omega)
    have e1 : IntKind.i64.wrap ((k : Int) + 1) = ((k + 1 : Nat) : Int) := by rw [i64_id (by omega) (by omega)]; omega
    have hg : s[k]? = some s[k] := List.getElem?_eq_getElem (by omega)
    have hd : s.drop k = s[k] :: s.drop (k + 1) := List.drop_eq_getElem_cons (by omega)
    rw [hd, hexF] at hf
    generalize s[k] = c at *
    have ix := idxF_ok (σ := σ) (c := c)
    unfold figsB at ix
    cases fv : figV c with
    | none =>
     rw [fv] at hf ix
     have d1 : decide ((-1 : Int) < 0) = true := rfl
     simp (maxSteps := 2000000) -implicitDefEqProofs (disch := (first | omega | rfl | assumption | (simp only [rsD]; first | omega | assumption))) only [digits_ReadHex_L1, dk, d0, Int.toNat_natCast, hg, ix, d1, Nat.reduceAdd, Nat.reduceMul, Nat.reduceLT, Int.reduceToNat, Int.reduceAdd, Int.reduceSub, Int.reduceMul, rsU, rsC]
     exact Ok_some.2 ⟨hf, rfl⟩
    | some d =>
     rw [fv] at hf ix
     have hd := figV_lt fv
     have d1 : decide ((d : Int) < 0) = false := decide_eq_false (by omega)
     have ew : ibits .or .u64 (IntKind.u64.wrap ((v : Int) * 2 ^ 4)) (IntKind.u64.wrap (d : Int)) = ((v * 16 + d : Nat) : Int) := by
      rw [u64_id (n := (v : Int) * 2 ^ 4) (by omega) (by omega), u64_id (n := (d : Int)) (by omega) (by omega)]
      rw [or_u64 (by omega) (by omega) (by omega) (by omega)]
      have := Nat.two_pow_add_eq_or_of_lt (i := 4) (b := d) (by omega) v
      have e3 : ((v : Int) * 2 ^ 4).toNat = 2 ^ 4 * v := by omega
      rw [e3, Int.toNat_natCast, ← this]; omega
     simp -implicitDefEqProofs only [digits_ReadHex_L1, dk, d0, Int.toNat_natCast, hg, ix, d1, ew, e1, Nat.reduceAdd, Nat.reduceMul, Nat.reduceLT, Int.reduceToNat, Int.reduceAdd, Int.reduceSub, Int.reduceMul, rsU, s_ldI, s_ldU, s_ldS, s_ldP, s_gtI, s_gtU, s_gtS, s_bleD, Nat.reduceLeDiff, decide_true, decide_false]
     exact Ok_some.2 ⟨_, rfl, by rw [Nat.pow_succ]; omega, hf⟩
   ·rintro _ ⟨v, rfl, hv, hf⟩
    have dk : decide (((16 : Nat) : Int) < (s.length : Int)) = false := by rw [hl]; rfl
    simp (maxSteps := 2000000) -implicitDefEqProofs (disch := (first | omega | rfl | assumption | (simp only [rsD]; first | omega | assumption))) only [digits_ReadHex_L1, dk, Nat.reduceAdd, Nat.reduceMul, Nat.reduceLT, Int.reduceToNat, Int.reduceAdd, Int.reduceSub, Int.reduceMul, rsU, rsC]
    exact Ok_some.2 ⟨v, rfl, by rw [hf, List.drop_eq_nil_of_le (by omega)]; rfl⟩
  ·rintro q ⟨w, rfl, hf⟩
   simp (maxSteps := 2000000) -implicitDefEqProofs (disch := (first | omega | rfl | assumption | (simp only [rsD]; first | omega | assumption))) only [Nat.reduceAdd, Nat.reduceMul, Nat.reduceLT, Int.reduceToNat, Int.reduceAdd, Int.reduceSub, Int.reduceMul, rsU, rsC]
   exact Ok_some.2 (by rw [hh, hf])
  ·rintro r ⟨hf, rfl⟩
   rw [hh, hf]
 ·have f0 : (((s.length : Int) : Int) != 16) = true := by simp; omega
  simp (maxSteps := 2000000) -implicitDefEqProofs (disch := (first | omega | rfl | assumption | (simp only [rsD]; first | omega | assumption))) only [digits_ReadHex, digits_ReadHex_c, f0, Nat.reduceAdd, Nat.reduceMul, Nat.reduceLT, Int.reduceToNat, Int.reduceAdd, Int.reduceSub, Int.reduceMul, rsU, rsC]
  exact Ok_some.2 (by unfold hexE hexR; rw [if_neg hl])
end Go.Abs.Tryd
namespace Go.Abs.Tryd
open Go Go.Abs
variable {O : Type}
def cellB (c : UInt8) : AV := .i .u8 (c.toNat : Int)
theorem st1 {σ : AH O} {b el : Nat} {cs : List AV} {j : Nat} {x : AV} (h : σ.blk b = some (.cells true el cs)) (hj : j < cs.length) : σ.st (.n b) j [x] = some (σ.put b (.cells true el (cs.set j x))) := by
 have e : cs.take j ++ [x] ++ cs.drop (j + 1) = cs.set j x := by rw [List.set_eq_take_append_cons_drop, if_pos hj]; simp
 simp only [AH.st, h]
 rw [Nat.ble_eq_true_of_le (by simp; omega)]
 simp only [List.length_cons, List.length_nil, Nat.zero_add, cond_true]
 rw [e]
theorem rdAr {σ : AH O} {b el : Nat} {cs : List AV} {o n : Nat} (h : σ.blk b = some (.cells true el cs)) (hn : o + n ≤ cs.length) : σ.rdSl (.ar (.n b) o 1) n 1 = some ((cs.drop o).take n) := by
 simp only [AH.rdSl, AH.ldN, h]
 rw [Nat.mul_one, Nat.ble_eq_true_of_le hn]; rfl
def sI (b : Bool) (v : Nat) : Int := if b then -(v : Int) else v
theorem tmodS (b : Bool) (v : Nat) : Int.tmod (sI b v) 10 = sI b (v % 10) := by
 cases b
 ·rfl
 ·simp only [sI, if_true, Int.neg_tmod]; rfl
theorem tdivS (b : Bool) (v : Nat) : Int.tdiv (sI b v) 10 = sI b (v / 10) := by
 cases b
 ·exact tdivN v
 ·simp only [sI, if_true, Int.neg_tdiv]; rw [tdivN]
theorem absS {b : Bool} {r : Nat} (hr : r < 10) : (if IntKind.i64.wrap (0 - sI b r) > sI b r then IntKind.i64.wrap (0 - sI b r) else sI b r) = (r : Int) := by
 have : IntKind.i64.wrap (0 - sI b r) = 0 - sI b r := i64_id (by unfold sI; split <;> omega) (by unfold sI; split <;> omega)
 rw [this]; unfold sI; split <;> split <;> omega
theorem textLoop_ok {σ σ0 : AH O} {sg : Bool} {u : Nat} (hu : u ≤ 9223372036854775808) (hs : sg = false → u ≤ 9223372036854775807) {cs : List AV} (hl : cs.length = 20) (hb : σ.blk σ0.next = some (.cells true 99 cs)) (E : Ext σ0 σ) (hlt : σ0.next < σ.next) :
  Ok (loopF (S := List AV × AH O) (T := List AV × AH O) (digits_Text_L1 σ0) ([.i .i64 20, .i .i64 (sI sg u)], σ)) fun r => ∃ (i : Nat) (cs : List AV), r.1 = [.i .i64 (i : Int)] ∧ i < 20 ∧ cs.length = 20 ∧ r.2.blk σ0.next = some (.cells true 99 cs) ∧ Ext σ0 r.2 ∧ cs.drop i = (digs u).map cellB := by
 have h20 : u < 10 ^ (19 + 1) := by
  have : (10 : Nat) ^ (19 + 1) = 100000000000000000000 := by decide
  omega
 refine Ok.loop (fun m (s : List AV × AH O) => ∃ (v j : Nat) (t : Bs) (cs : List AV) (σ' : AH O), s = ([.i .i64 ((j + 1 : Nat) : Int), .i .i64 (sI sg v)], σ') ∧ m = j ∧ j < 20 ∧ v < 10 ^ (j + 1) ∧ v ≤ u ∧ cs.length = 20 ∧ σ'.blk σ0.next = some (.cells true 99 cs) ∧ Ext σ0 σ' ∧ cs.drop (j + 1) = t.map cellB ∧ digs u = digs v ++ t) ?_ 19 _ ⟨u, 19, [], cs, σ, rfl, rfl, by omega, h20, by omega, hl, hb, E, by simp [hl], by simp⟩
 rintro j _ ⟨v, j', t, cs, σ', rfl, rfl, hj, hv, hvu, hl, hb, E, hd, ht⟩
 have e1 : IntKind.i64.wrap (((j + 1 : Nat) : Int) - 1) = (j : Int) := by rw [i64_id (by omega) (by omega)]; omega
 have d0 : decide ((0 : Int) ≤ (j : Int)) = true := decide_eq_true (by omega)
 have d1 : decide ((j : Int) < 20) = true := decide_eq_true (by omega)
 have ab := absS (b := sg) (r := v % 10) (by omega)
 have ew1 : IntKind.u8.wrap (IntKind.i64.wrap (48 + ((v % 10 : Nat) : Int))) = (((UInt8.ofNat (48 + v % 10)).toNat : Nat) : Int) := by
  rw [i64_id (by omega) (by omega), u8_id (by omega) (by omega), u8n (by omega)]; omega
 have ew2 : IntKind.i64.wrap (sI sg (v / 10)) = sI sg (v / 10) := i64_id (by unfold sI; split <;> omega) (by unfold sI; split <;> omega)
 have dg : digs v = if v < 10 then [UInt8.ofNat (48 + v % 10)] else digs (v / 10) ++ [UInt8.ofNat (48 + v % 10)] := by
  rw [digs]; split
  ·rw [Nat.mod_eq_of_lt (by assumption)]
  ·rfl
 have hst := st1 (x := .i .u8 (((UInt8.ofNat (48 + v % 10)).toNat : Nat) : Int)) hb (j := j) (by omega)
 have jj : 0 + j * 1 = j := by omega
 have hst : stM σ' σ0.next (σ'.blk σ0.next) j [.i .u8 (((UInt8.ofNat (48 + v % 10)).toNat : Nat) : Int)] = some (σ'.put σ0.next (.cells true 99 (cs.set j (.i .u8 (((UInt8.ofNat (48 + v % 10)).toNat : Nat) : Int))))) := hst
 have hdr : (cs.set j (.i .u8 (((UInt8.ofNat (48 + v % 10)).toNat : Nat) : Int))).drop j = (UInt8.ofNat (48 + v % 10) :: t).map cellB := by
  rw [List.drop_eq_getElem_cons (by simp; omega)]
  simp only [List.getElem_set_self, List.map_cons, cellB]
  rw [List.drop_set_of_lt (by omega), hd]
 have hv9 : v / 10 < 10 ^ j := by rw [Nat.pow_succ] at hv; omega
 by_cases h9 : v < 10
 ·have z : ((sI sg (v / 10) : Int) == 0) = true := by
   have : v / 10 = 0 := by omega
   rw [this]; cases sg <;> rfl
  simp -implicitDefEqProofs only [digits_Text_L1, e1, d0, d1, tmodS, tdivS, ab, ew1, ew2, Int.toNat_natCast, jj, hst, z, Nat.reduceAdd, Nat.reduceMul, Nat.reduceLT, Int.reduceToNat, Int.reduceAdd, Int.reduceSub, Int.reduceMul, rsU, s_ldI, s_ldU, s_ldS, s_ldP, s_gtI, s_gtU, s_gtS, s_bleD, Nat.reduceLeDiff, decide_true, decide_false]
  refine Ok_some.2 ⟨j, _, rfl, hj, by simp [hl], s_bs, E.put (Nat.le_refl _) _, ?_⟩
  rw [hdr, ht, dg, if_pos h9]; rfl
 ·have z : ((sI sg (v / 10) : Int) == 0) = false := by
   have : v / 10 ≠ 0 := by omega
   unfold sI; cases sg <;> simp <;> omega
  simp -implicitDefEqProofs only [digits_Text_L1, e1, d0, d1, tmodS, tdivS, ab, ew1, ew2, Int.toNat_natCast, jj, hst, z, Nat.reduceAdd, Nat.reduceMul, Nat.reduceLT, Int.reduceToNat, Int.reduceAdd, Int.reduceSub, Int.reduceMul, rsU, s_ldI, s_ldU, s_ldS, s_ldP, s_gtI, s_gtU, s_gtS, s_bleD, Nat.reduceLeDiff, decide_true, decide_false]
  have hj0 : j ≠ 0 := fun h => by subst h; simp at hv9; omega
  obtain ⟨k, rfl⟩ : ∃ k, j = k + 1 := ⟨j - 1, by omega⟩
  refine Ok_some.2 ⟨k, by omega, v / 10, k, _, _, _, rfl, rfl, by omega, hv9, by omega, by simp [hl], s_bs, E.put (Nat.le_refl _) _, hdr, ?_⟩
  rw [ht, dg, if_neg h9]; simp
theorem gText_ok {σ : AH O} {n : Int} (h : I64 n) : Ok (digits_Text [.i .i64 n] σ) fun r => r.1 = .s (numT n) ∧ Ext σ r.2 := by
 obtain ⟨h0, h1⟩ := h
 obtain ⟨sg, u, hn, hu, hs, hneg⟩ : ∃ (sg : Bool) (u : Nat), n = sI sg u ∧ u ≤ 9223372036854775808 ∧ (sg = false → u ≤ 9223372036854775807) ∧ (sg = decide (n < 0)) := by
  by_cases hn : n < 0
  ·exact ⟨true, (-n).toNat, by simp [sI]; omega, by omega, fun h => (by cases h), (decide_eq_true hn).symm⟩
  ·exact ⟨false, n.toNat, by simp [sI]; omega, by omega, fun _ => by omega, (decide_eq_false hn).symm⟩
 simp (maxSteps := 2000000) -implicitDefEqProofs (disch := (first | omega | rfl | assumption | (simp only [rsD]; first | omega | assumption))) only [digits_Text, digits_Text_c, Nat.reduceAdd, Nat.reduceMul, Nat.reduceLT, Int.reduceToNat, Int.reduceAdd, Int.reduceSub, Int.reduceMul, rsU, rsC]
 generalize hσ : (σ.bump 1).put σ.next (Blk.cells true 99 _) = σ1
 have hb : ∃ cs, cs.length = 20 ∧ σ1.blk σ.next = some (.cells true 99 cs) := ⟨_, rfl, by rw [← hσ]; exact s_bs⟩
 have E : Ext σ σ1 := by rw [← hσ]; exact ((Ext.refl σ).bump 1).put (Nat.le_refl _) _
 have hn1 : σ1.next = σ.next + 1 := by rw [← hσ]; rfl
 clear hσ
 obtain ⟨cs, hl, hb⟩ := hb
 have tl := textLoop_ok (O := O) hu hs hl hb E (by omega)
 rw [← hn] at tl
 refine Ok.step tl ?_
 rintro ⟨q, σ2⟩ ⟨i, cs2, rfl, hi, hl2, hb2, E2, hd⟩
 simp only at hb2 E2
 have d0 : decide ((0 : Int) ≤ (i : Int)) = true := decide_eq_true (by omega)
 have d1 : decide ((i : Int) < 20) = true := decide_eq_true (by omega)
 have ii : 0 + i * 1 = i := by omega
 have rr := rdAr hb2 (o := i) (n := 20 - i) (by omega)
 rw [List.take_of_length_le (by simp; omega), hd] at rr
 have ab : asBytes ((digs u).map cellB) = some (digs u) := asBytesU _
 have t1 : (true && true) = true := rfl
 have few : (digs u).length ≤ 20 := digs_few (by omega)
 cases sg with
 | true =>
  have hneg' : decide (n < 0) = true := hneg.symm
  have bl : Nat.ble (1 + (digs u).length) 9223372036854775807 = true := Nat.ble_eq_true_of_le (by omega)
  have e2 : numT n = 45 :: digs u := by
   have : n < 0 := of_decide_eq_true hneg'
   have e3 : (-n).toNat = u := by rw [hn]; simp [sI]
   rw [numT, if_pos this, e3]
  simp -implicitDefEqProofs only [hneg', d0, d1, t1, ii, Int.toNat_natCast, rr, ab, Nat.reduceAdd, Nat.reduceMul, Nat.reduceLT, Int.reduceToNat, Int.reduceAdd, Int.reduceSub, Int.reduceMul, rsU, s_ldI, s_ldU, s_ldS, s_ldP, s_gtI, s_gtU, s_gtS, s_bleD, Nat.reduceLeDiff, decide_true, decide_false]
  simp (maxSteps := 2000000) -implicitDefEqProofs (disch := (first | omega | rfl | assumption | (simp only [rsD]; first | omega | assumption))) only [bl, List.length_cons, List.length_nil, Nat.reduceAdd, Nat.reduceMul, Nat.reduceLT, Int.reduceToNat, Int.reduceAdd, Int.reduceSub, Int.reduceMul, rsU, rsC]
  exact Ok_some.2 ⟨by rw [e2], E2⟩
 | false =>
  have hneg' : decide (n < 0) = false := hneg.symm
  have e2 : numT n = digs u := by
   have : ¬ n < 0 := of_decide_eq_false hneg'
   have e3 : n.toNat = u := by rw [hn]; simp [sI]
   rw [numT, if_neg this, e3]
  simp -implicitDefEqProofs only [hneg', d0, d1, t1, ii, Int.toNat_natCast, rr, ab, Nat.reduceAdd, Nat.reduceMul, Nat.reduceLT, Int.reduceToNat, Int.reduceAdd, Int.reduceSub, Int.reduceMul, rsU, s_ldI, s_ldU, s_ldS, s_ldP, s_gtI, s_gtU, s_gtS, s_bleD, Nat.reduceLeDiff, decide_true, decide_false]
  exact Ok_some.2 ⟨by rw [e2], E2⟩
end Go.Abs.Tryd
namespace Go.Abs.Tryd
open Go Go.Abs
variable {O : Type}
theorem hexN_get : ∀ (m w k : Nat), k < m → (hexN m w)[k]? = some (fig (w / 16 ^ (m - 1 - k) % 16))
 | 0, _, _, h => by omega
 | m + 1, w, k, h => by
  rw [hexN]
  by_cases hk : k < m
  ·rw [List.getElem?_append_left (by rw [hexN_len]; exact hk), hexN_get m (w / 16) k hk, Nat.div_div_eq_div_mul]
   have : 16 * 16 ^ (m - 1 - k) = 16 ^ (m + 1 - 1 - k) := by rw [show m + 1 - 1 - k = (m - 1 - k) + 1 by omega, Nat.pow_succ, Nat.mul_comm]
   rw [this]
  ·have : k = m := by omega
   subst this
   rw [List.getElem?_append_right (by rw [hexN_len]; omega), hexN_len]
   simp
theorem figs_get : ∀ d, d < 16 → ([48, 49, 50, 51, 52, 53, 54, 55, 56, 57, 97, 98, 99, 100, 101, 102] : List UInt8)[d]? = some (fig d) := by decide
theorem gHex_ok {σ : AH O} {w : Nat} (hw : w < 18446744073709551616) : Ok (digits_Hex [.i .u64 (w : Int)] σ) fun r => r.1 = .s (hexT w) ∧ Ext σ r.2 := by
 simp (maxSteps := 2000000) -implicitDefEqProofs (disch := (first | omega | rfl | assumption | (simp only [rsD]; first | omega | assumption))) only [digits_Hex, digits_Hex_c, Nat.reduceAdd, Nat.reduceMul, Nat.reduceLT, Int.reduceToNat, Int.reduceAdd, Int.reduceSub, Int.reduceMul, rsU, rsC]
 generalize hσ : (σ.bump 1).put σ.next (Blk.cells true 100 _) = σ1
 have hb : ∃ cs, cs.length = 16 ∧ σ1.blk σ.next = some (.cells true 100 cs) := ⟨_, rfl, by rw [← hσ]; exact s_bs⟩
 have E : Ext σ σ1 := by rw [← hσ]; exact ((Ext.refl σ).bump 1).put (Nat.le_refl _) _
 clear hσ
 obtain ⟨cs, hl, hb⟩ := hb
 refine Ok.step (Q := fun r => ∃ cs, r.1 = [] ∧ r.2.blk σ.next = some (.cells true 100 cs) ∧ cs = (hexT w).map cellB ∧ Ext σ r.2) ?_ ?_
 ·refine Ok.count 16 (fun k s => ∃ (cs : List AV) (σ' : AH O), s = ([.i .i64 (k : Int)], σ') ∧ cs.length = 16 ∧ σ'.blk σ.next = some (.cells true 100 cs) ∧ Ext σ σ' ∧ ∀ j, j < k → cs[j]? = ((hexT w).map cellB)[j]?) ?_ ?_ ⟨cs, σ1, rfl, hl, hb, E, fun j h => by omega⟩
  ·rintro k _ hk ⟨cs, σ', rfl, hl, hb, E, hc⟩
   have dk : decide ((k : Int) < 16) = true := decide_eq_true (by omega)
   have d0 : decide ((0 : Int) ≤ (k : Int)) = true := decide_eq_true (by omega)
   have e1 : IntKind.i64.wrap ((k : Int) + 1) = ((k + 1 : Nat) : Int) := by rw [i64_id (by omega) (by omega)]; omega
   have e5 : IntKind.i64.wrap (60 - IntKind.i64.wrap (4 * (k : Int))) = ((60 - 4 * k : Nat) : Int) := by
    rw [i64_id (n := 4 * (k : Int)) (by omega) (by omega), i64_id (by omega) (by omega)]; omega
   have d5 : decide (((60 - 4 * k : Nat) : Int) < 0) = false := decide_eq_false (by omega)
   have hmin : min (60 - 4 * k) 64 = 60 - 4 * k := by omega
   have hp : (2 : Nat) ^ (60 - 4 * k) = 16 ^ (15 - k) := by rw [show 60 - 4 * k = 4 * (15 - k) by omega, Nat.pow_mul]
   have ef : Int.fdiv (w : Int) (2 ^ (60 - 4 * k)) = ((w / 16 ^ (15 - k) : Nat) : Int) := by
    have : ((2 : Int) ^ (60 - 4 * k)) = ((16 ^ (15 - k) : Nat) : Int) := by rw [← hp]; push_cast; rfl
    rw [this, Int.fdiv_eq_ediv_of_nonneg _ (Int.natCast_nonneg _)]; rfl
   have hle : w / 16 ^ (15 - k) ≤ w := Nat.div_le_self _ _
   have hg := hexN_get 16 w k hk
   have h15 : 16 - 1 - k = 15 - k := by omega
   rw [h15] at hg
   generalize w / 16 ^ (15 - k) = qq at *
   have e6 : ibits .and .u64 ((qq : Nat) : Int) 15 = ((qq % 16 : Nat) : Int) := by
    rw [and_u64 (by omega) (by omega) (by omega) (by omega)]
    have := Nat.and_two_pow_sub_one_eq_mod (qq) 4
    rw [Int.toNat_natCast]; exact congrArg Int.ofNat this
   have d6 : decide ((0 : Int) ≤ ((qq % 16 : Nat) : Int)) = true := decide_eq_true (by omega)
   have hf := figs_get (qq % 16) (by omega)
   have jj : 0 + k * 1 = k := by omega
   generalize qq % 16 = d at *
   have hst := st1 (x := cellB (fig d)) hb (j := k) (by omega)
   have hst : stM σ' σ.next (σ'.blk σ.next) k [.i .u8 (((fig d).toNat : Nat) : Int)] = some (σ'.put σ.next (.cells true 100 (cs.set k (cellB (fig d))))) := hst
   simp -implicitDefEqProofs only [digits_Hex_L1, dk, d0, e5, d5, hmin, ef, e6, d6, Int.toNat_natCast, hf, jj, hst, e1, Nat.reduceAdd, Nat.reduceMul, Nat.reduceLT, Int.reduceToNat, Int.reduceAdd, Int.reduceSub, Int.reduceMul, rsU, s_ldI, s_ldU, s_ldS, s_ldP, s_gtI, s_gtU, s_gtS, s_bleD, Nat.reduceLeDiff, decide_true, decide_false]
   refine Ok_some.2 ⟨_, _, rfl, by simp [hl], s_bs, E.put (Nat.le_refl _) _, fun j hj => ?_⟩
   by_cases h : j = k
   ·subst h
    rw [List.getElem?_set_self (by omega), List.getElem?_map, hexT, hg]; rfl
   ·rw [List.getElem?_set_ne (by omega)]; exact hc j (by omega)
  ·rintro _ ⟨cs, σ', rfl, hl, hb, E, hc⟩
   have dk : decide (((16 : Nat) : Int) < 16) = false := rfl
   simp (maxSteps := 2000000) -implicitDefEqProofs (disch := (first | omega | rfl | assumption | (simp only [rsD]; first | omega | assumption))) only [digits_Hex_L1, dk, Nat.reduceAdd, Nat.reduceMul, Nat.reduceLT, Int.reduceToNat, Int.reduceAdd, Int.reduceSub, Int.reduceMul, rsU, rsC]
   refine Ok_some.2 ⟨cs, rfl, hb, ?_, E⟩
   refine List.ext_getElem? fun j => ?_
   by_cases hj : j < 16
   ·exact hc j hj
   ·rw [List.getElem?_eq_none (by omega), List.getElem?_eq_none (by simp [hexT, hexN_len]; omega)]
 ·rintro ⟨q, σ2⟩ ⟨cs2, rfl, hb2, rfl, E2⟩
  have rr := rdAr hb2 (o := 0) (n := 16) (by simp [hexT, hexN_len])
  rw [List.drop_zero, List.take_of_length_le (by simp [hexT, hexN_len])] at rr
  have ab : asBytes ((hexT w).map cellB) = some (hexT w) := asBytesU _
  simp only at rr
  simp -implicitDefEqProofs only [rr, ab, Nat.sub_zero, Nat.reduceAdd, Nat.reduceMul, Nat.reduceLT, Int.reduceToNat, Int.reduceAdd, Int.reduceSub, Int.reduceMul, rsU, s_ldI, s_ldU, s_ldS, s_ldP, s_gtI, s_gtU, s_gtS, s_bleD, Nat.reduceLeDiff, decide_true, decide_false]
  exact Ok_some.2 ⟨rfl, E2⟩
end Go.Abs.Tryd
