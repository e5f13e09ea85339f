/-
  The document's texts of numbers: haymowref03. No conditions.
-/
import Derived.Test.YtgddikandbkmpaaDoorS10l
import Derived.Test.YtgddikandbkmpaaDoorT3
import Derived.Test.YtgddikandbkmpaaDoorT1
import Derived.Test.YtgddikandbkmpaaDoorI4
set_option linter.unusedVariables false
set_option linter.unusedSimpArgs false
set_option linter.constructorNameAsVariable false
set_option linter.unusedSimpArgs false
set_option linter.unusedVariables false
set_option maxHeartbeats 2000000
namespace Go.Abs.Tryd
open Go Go.Abs
variable {O : Type}
theorem tdivN (v : Nat) : Int.tdiv (v : Int) 10 = ((v / 10 : Nat) : Int) := (Int.ofNat_tdiv v 10).symm
theorem tmodN (v : Nat) : Int.tmod (v : Int) 10 = ((v % 10 : Nat) : Int) := rfl
theorem tdivH (v : Nat) : Int.tdiv (v : Int) 16 = ((v / 16 : Nat) : Int) := (Int.ofNat_tdiv v 16).symm
theorem tmodH (v : Nat) : Int.tmod (v : Int) 16 = ((v % 16 : Nat) : Int) := rfl
theorem asBytesU : ∀ bs : Bs, asBytes (bs.map fun c => .i .u8 (c.toNat : Int)) = some bs
 | [] => rfl
 | c :: bs => by
  have := asBytesU bs
  simp only [List.map_cons, asBytes, this, Option.map_some]; simp
theorem asByte1 {d : Nat} (h : d < 256) : asBytes [.i .u8 (d : Int)] = some [UInt8.ofNat d] := by
 have := asBytesU [UInt8.ofNat d]
 simpa [u8n h] using this
theorem rdNew1 {σ : AH O} {el b : Nat} {x : AV} : (σ.put b (.cells true el [x])).rdSl (.loc (.n b) 0 1) 1 1 = some [x] := by
 have : Rd (σ.put b (.cells true el [x])) 1 (.loc (.n b) 0 1) 1 [x] := ⟨rfl, rfl, [x], by simp [AH.cs], by simp, rfl⟩
 exact this.rdSl
theorem whole_ok {σ : AH O} {u : Nat} (hu : u < 18446744073709551616) : Ok (haymowref03_whole [.i .u64 (u : Int)] σ) fun r => r.1 = .s (digs u) ∧ Ext σ r.2 := by
 simp (maxSteps := 2000000) -implicitDefEqProofs (disch := (first | omega | rfl | assumption | (simp only [rsD]; first | omega | assumption))) only [haymowref03_whole, haymowref03_whole_c, Nat.reduceAdd, Nat.reduceMul, Nat.reduceLT, Int.reduceToNat, Int.reduceAdd, Int.reduceSub, Int.reduceMul, rsU, rsC]
 refine Ok.step (Q := fun r => r.1 = [.s (digs u)] ∧ Ext σ r.2) ?_ ?_
 ·refine Ok.loop (fun m (s : List AV × AH O) => ∃ (v i : Nat) (t : Bs) (σ' : AH O), s = ([.i .u64 (v : Int), .s t, .i .i64 (i : Int)], σ') ∧ Ext σ σ' ∧ m = v + (if i = 0 then 1 else 0) ∧ v < 18446744073709551616 ∧ t.length ≤ i ∧ (i = 0 → v = u ∧ t = []) ∧ (i ≠ 0 → i + v ≤ 1900000000000000000 ∧ (v = 0 → t = digs u) ∧ (v ≠ 0 → digs v ++ t = digs u))) ?_ (u + 1) _ ⟨u, 0, [], σ, rfl, Ext.refl _, by simp, hu, by simp, fun _ => ⟨rfl, rfl⟩, fun h => (h rfl).elim⟩
  rintro m _ ⟨v, i, t, σ', rfl, E, rfl, hv, ht, c0, c1⟩
  have ew1 : IntKind.u64.wrap (48 + ((v % 10 : Nat) : Int)) = ((48 + v % 10 : Nat) : Int) := by rw [u64_id (by omega) (by omega)]; omega
  have ew2 : IntKind.u8.wrap ((48 + v % 10 : Nat) : Int) = ((48 + v % 10 : Nat) : Int) := u8_id (by omega) (by omega)
  have ew3 : IntKind.u64.wrap ((v / 10 : Nat) : Int) = ((v / 10 : Nat) : Int) := u64_id (by omega) (by omega)
  have ab := asByte1 (d := 48 + v % 10) (by omega)
  have dg : digs v = if v < 10 then [UInt8.ofNat (48 + v % 10)] else digs (v / 10) ++ [UInt8.ofNat (48 + v % 10)] := by
   rw [digs]; split
   ·rw [Nat.mod_eq_of_lt (by assumption)]
   ·rfl
  by_cases hi : i = 0
  ·obtain ⟨rfl, rfl⟩ := c0 hi
   subst hi
   have z0 : (((0 : Nat) : Int) == 0) = true := rfl
   have f0 : (true == false) = false := rfl
   have bl : Nat.ble ([UInt8.ofNat (48 + v % 10)].length + ([] : Bs).length) 9223372036854775807 = true := rfl
   have e1 : IntKind.i64.wrap (((0 : Nat) : Int) + 1) = ((1 : Nat) : Int) := rfl
   simp (maxSteps := 2000000) -implicitDefEqProofs (disch := (first | omega | rfl | assumption | (simp only [rsD]; first | omega | assumption))) only [haymowref03_whole_L1, z0, f0, tdivN, tmodN, ew1, ew2, ew3, rdNew1, ab, bl, e1, Nat.reduceAdd, Nat.reduceMul, Nat.reduceLT, Int.reduceToNat, Int.reduceAdd, Int.reduceSub, Int.reduceMul, rsU, rsC]
   refine Ok_some.2 ⟨v / 10, by simp; omega, v / 10, 1, _, _, rfl, (E.bump 1).put E.next _, by simp, by omega, by simp, fun h => by omega, fun _ => ⟨by omega, fun h => ?_, fun h => ?_⟩⟩
   ·rw [dg, if_pos (by omega)]
   ·rw [dg, if_neg (by omega)]
  ·obtain ⟨c1, c2, c3⟩ := c1 hi
   have z0 : ((i : Int) == 0) = false := by simp; omega
   have f0 : (false == false) = true := rfl
   by_cases hv0 : v = 0
   ·subst hv0
    have d0 : decide (((0 : Nat) : Int) > 0) = false := rfl
    simp (maxSteps := 2000000) -implicitDefEqProofs (disch := (first | omega | rfl | assumption | (simp only [rsD]; first | omega | assumption))) only [haymowref03_whole_L1, z0, f0, d0, Nat.reduceAdd, Nat.reduceMul, Nat.reduceLT, Int.reduceToNat, Int.reduceAdd, Int.reduceSub, Int.reduceMul, rsU, rsC]
    exact Ok_some.2 ⟨by rw [c2 rfl], E⟩
   ·have d0 : decide ((v : Int) > 0) = true := decide_eq_true (by omega)
    have bl : Nat.ble ([UInt8.ofNat (48 + v % 10)].length + t.length) 9223372036854775807 = true := Nat.ble_eq_true_of_le (by simp; omega)
    have e1 : IntKind.i64.wrap ((i : Int) + 1) = ((i + 1 : Nat) : Int) := by rw [i64_id (by omega) (by omega)]; omega
    simp (maxSteps := 2000000) -implicitDefEqProofs (disch := (first | omega | rfl | assumption | (simp only [rsD]; first | omega | assumption))) only [haymowref03_whole_L1, z0, f0, d0, tdivN, tmodN, ew1, ew2, ew3, rdNew1, ab, bl, e1, Nat.reduceAdd, Nat.reduceMul, Nat.reduceLT, Int.reduceToNat, Int.reduceAdd, Int.reduceSub, Int.reduceMul, rsU, rsC]
    have c3 := c3 hv0
    refine Ok_some.2 ⟨v / 10, by simp [hi]; omega, v / 10, i + 1, _, _, rfl, (E.bump 1).put E.next _, by simp, by omega, by simp; omega, fun h => by omega, fun _ => ⟨by omega, fun h => ?_, fun h => ?_⟩⟩
    ·rw [← c3, dg, if_pos (by omega)]; rfl
    ·rw [← c3, dg, if_neg (by omega)]; simp
 ·rintro ⟨q, σ1⟩ ⟨rfl, E⟩
  simp (maxSteps := 2000000) -implicitDefEqProofs (disch := (first | omega | rfl | assumption | (simp only [rsD]; first | omega | assumption))) only [Nat.reduceAdd, Nat.reduceMul, Nat.reduceLT, Int.reduceToNat, Int.reduceAdd, Int.reduceSub, Int.reduceMul, rsU, rsC]
  exact Ok_some.2 ⟨rfl, E⟩
theorem digs_few {u : Nat} (hu : u < 18446744073709551616) : (digs u).length ≤ 20 := digs_len (by decide) (Nat.lt_trans hu (by decide))
theorem numT_few {n : Int} (h : I64 n) : (numT n).length ≤ 21 := by
 obtain ⟨h0, h1⟩ := h
 unfold numT; split
 ·have := digs_few (u := (-n).toNat) (by omega); simp; omega
 ·have := digs_few (u := n.toNat) (by omega); omega
theorem rText_ok {σ : AH O} {n : Int} (h : I64 n) : Ok (haymowref03_Text [.i .i64 n] σ) fun r => r.1 = .s (numT n) ∧ Ext σ r.2 := by
 obtain ⟨h0, h1⟩ := h
 by_cases hn : n < 0
 ·have d0 : decide (n < 0) = true := decide_eq_true hn
  have e1 : IntKind.u64.wrap (0 - IntKind.u64.wrap n) = (((-n).toNat : Nat) : Int) := by
   rw [wrap_u64, wrap_u64]; omega
  simp (maxSteps := 2000000) -implicitDefEqProofs (disch := (first | omega | rfl | assumption | (simp only [rsD]; first | omega | assumption))) only [haymowref03_Text, haymowref03_Text_c, d0, e1, Nat.reduceAdd, Nat.reduceMul, Nat.reduceLT, Int.reduceToNat, Int.reduceAdd, Int.reduceSub, Int.reduceMul, rsU, rsC]
  refine Ok.step (whole_ok (by omega)) ?_
  rintro ⟨q, σ1⟩ ⟨rfl, E⟩
  have bl : Nat.ble (1 + (digs (-n).toNat).length) 9223372036854775807 = true := Nat.ble_eq_true_of_le (by have := digs_few (u := (-n).toNat) (by omega); omega)
  simp (maxSteps := 2000000) -implicitDefEqProofs (disch := (first | omega | rfl | assumption | (simp only [rsD]; first | omega | assumption))) only [bl, List.length_cons, List.length_nil, Nat.reduceAdd, Nat.reduceMul, Nat.reduceLT, Int.reduceToNat, Int.reduceAdd, Int.reduceSub, Int.reduceMul, rsU, rsC]
  have e2 : numT n = [45] ++ digs (-n).toNat := by simp [numT, hn]
  exact Ok_some.2 ⟨by rw [e2]; rfl, E⟩
 ·have d0 : decide (n < 0) = false := decide_eq_false hn
  have e1 : IntKind.u64.wrap n = ((n.toNat : Nat) : Int) := by rw [u64_id (by omega) (by omega)]; omega
  simp (maxSteps := 2000000) -implicitDefEqProofs (disch := (first | omega | rfl | assumption | (simp only [rsD]; first | omega | assumption))) only [haymowref03_Text, haymowref03_Text_c, d0, e1, Nat.reduceAdd, Nat.reduceMul, Nat.reduceLT, Int.reduceToNat, Int.reduceAdd, Int.reduceSub, Int.reduceMul, rsU, rsC]
  refine Ok.step (whole_ok (by omega)) ?_
  rintro ⟨q, σ1⟩ ⟨rfl, E⟩
  simp (maxSteps := 2000000) -implicitDefEqProofs (disch := (first | omega | rfl | assumption | (simp only [rsD]; first | omega | assumption))) only [Nat.reduceAdd, Nat.reduceMul, Nat.reduceLT, Int.reduceToNat, Int.reduceAdd, Int.reduceSub, Int.reduceMul, rsU, rsC]
  exact Ok_some.2 ⟨by simp [numT, hn], E⟩
theorem hexN_snoc : ∀ (k w : Nat), hexN (k + 1) w = hexN k (w / 16) ++ [fig (w % 16)] := fun k w => by rfl
theorem rHex_ok {σ : AH O} {w : Nat} (hw : w < 18446744073709551616) : Ok (haymowref03_Hex [.i .u64 (w : Int)] σ) fun r => r.1 = .s (hexT w) ∧ Ext σ r.2 := by
 simp (maxSteps := 2000000) -implicitDefEqProofs (disch := (first | omega | rfl | assumption | (simp only [rsD]; first | omega | assumption))) only [haymowref03_Hex, haymowref03_Hex_c, Nat.reduceAdd, Nat.reduceMul, Nat.reduceLT, Int.reduceToNat, Int.reduceAdd, Int.reduceSub, Int.reduceMul, rsU, rsC]
 refine Ok.step (Q := fun r => r.1 = [.s (hexT w)] ∧ Ext σ r.2) ?_ ?_
 ·refine Ok.count 16 (fun k s => ∃ (v : Nat) (t : Bs) (σ' : AH O), s = ([.i .u64 (v : Int), .s t, .i .i64 (k : Int)], σ') ∧ Ext σ σ' ∧ v < 18446744073709551616 ∧ t.length = k ∧ hexN (16 - k) v ++ t = hexT w) ?_ ?_ ⟨w, [], σ, rfl, Ext.refl _, hw, rfl, by simp [hexT]⟩
  ·rintro k _ hk ⟨v, t, σ', rfl, E, hv, ht, c⟩
   have dk : decide ((k : Int) < 16) = true := decide_eq_true (by omega)
   have bl : Nat.ble (1 + t.length) 9223372036854775807 = true := Nat.ble_eq_true_of_le (by omega)
   have e1 : IntKind.i64.wrap ((k : Int) + 1) = ((k + 1 : Nat) : Int) := by rw [i64_id (by omega) (by omega)]; omega
   have ew3 : IntKind.u64.wrap ((v / 16 : Nat) : Int) = ((v / 16 : Nat) : Int) := u64_id (by omega) (by omega)
   have c' : hexN (16 - (k + 1)) (v / 16) ++ ([fig (v % 16)] ++ t) = hexT w := by
    rw [← c, show 16 - k = (16 - (k + 1)) + 1 by omega, hexN_snoc]; simp
   by_cases h9 : v % 16 < 10
   ·have d9 : decide (((v % 16 : Nat) : Int) > 9) = false := decide_eq_false (by omega)
    have ew1 : IntKind.u64.wrap (48 + ((v % 16 : Nat) : Int)) = ((48 + v % 16 : Nat) : Int) := by rw [u64_id (by omega) (by omega)]; omega
    have ew2 : IntKind.u8.wrap ((48 + v % 16 : Nat) : Int) = ((48 + v % 16 : Nat) : Int) := u8_id (by omega) (by omega)
    have ab := asByte1 (d := 48 + v % 16) (by omega)
    have fg : fig (v % 16) = UInt8.ofNat (48 + v % 16) := by rw [fig, if_pos h9]
    simp (maxSteps := 2000000) -implicitDefEqProofs (disch := (first | omega | rfl | assumption | (simp only [rsD]; first | omega | assumption))) only [haymowref03_Hex_L1, dk, d9, tdivH, tmodH, ew1, ew2, ew3, rdNew1, ab, bl, e1, List.length_cons, List.length_nil, Nat.reduceAdd, Nat.reduceMul, Nat.reduceLT, Int.reduceToNat, Int.reduceAdd, Int.reduceSub, Int.reduceMul, rsU, rsC]
    exact Ok_some.2 ⟨v / 16, _, _, rfl, (E.bump 1).put E.next _, by omega, by simp [ht], by rw [← fg]; exact c'⟩
   ·have d9 : decide (((v % 16 : Nat) : Int) > 9) = true := decide_eq_true (by omega)
    have ew1 : IntKind.u64.wrap (87 + ((v % 16 : Nat) : Int)) = ((87 + v % 16 : Nat) : Int) := by rw [u64_id (by omega) (by omega)]; omega
    have ew2 : IntKind.u8.wrap ((87 + v % 16 : Nat) : Int) = ((87 + v % 16 : Nat) : Int) := u8_id (by omega) (by omega)
    have ab := asByte1 (d := 87 + v % 16) (by omega)
    have fg : fig (v % 16) = UInt8.ofNat (87 + v % 16) := by rw [fig, if_neg h9]
    simp (maxSteps := 2000000) -implicitDefEqProofs (disch := (first | omega | rfl | assumption | (simp only [rsD]; first | omega | assumption))) only [haymowref03_Hex_L1, dk, d9, tdivH, tmodH, ew1, ew2, ew3, rdNew1, ab, bl, e1, List.length_cons, List.length_nil, Nat.reduceAdd, Nat.reduceMul, Nat.reduceLT, Int.reduceToNat, Int.reduceAdd, Int.reduceSub, Int.reduceMul, rsU, rsC]
    exact Ok_some.2 ⟨v / 16, _, _, rfl, (E.bump 1).put E.next _, by omega, by simp [ht], by rw [← fg]; exact c'⟩
  ·rintro _ ⟨v, t, σ', rfl, E, hv, ht, c⟩
   have dk : decide (((16 : Nat) : Int) < 16) = false := rfl
   simp (maxSteps := 2000000) -implicitDefEqProofs (disch := (first | omega | rfl | assumption | (simp only [rsD]; first | omega | assumption))) only [haymowref03_Hex_L1, dk, Nat.reduceAdd, Nat.reduceMul, Nat.reduceLT, Int.reduceToNat, Int.reduceAdd, Int.reduceSub, Int.reduceMul, rsU, rsC]
   exact Ok_some.2 ⟨by rw [← c]; rfl, E⟩
 ·rintro ⟨q, σ1⟩ ⟨rfl, E⟩
  simp (maxSteps := 2000000) -implicitDefEqProofs (disch := (first | omega | rfl | assumption | (simp only [rsD]; first | omega | assumption))) only [Nat.reduceAdd, Nat.reduceMul, Nat.reduceLT, Int.reduceToNat, Int.reduceAdd, Int.reduceSub, Int.reduceMul, rsU, rsC]
  exact Ok_some.2 ⟨rfl, E⟩
end Go.Abs.Tryd
namespace Go.Abs.Tryd
open Go Go.Abs
variable {O : Type}
theorem p16 {k : Nat} (h : k < 16) : 16 ^ k * 16 ≤ 18446744073709551616 := by
 have : 16 ^ (k + 1) ≤ 16 ^ 16 := Nat.pow_le_pow_right (by omega) (by omega)
 rw [Nat.pow_succ] at this; exact this
def numA (s : Bs) : AV := .tup [.i .i64 (numR s).1, .i .i64 ((numR s).2 : Int)]
end Go.Abs.Tryd
namespace Go.Abs.Tryd
open Go Go.Abs
variable {O : Type}
end Go.Abs.Tryd
namespace Go.Abs.Tryd
open Go Go.Abs
variable {O : Type}
def figsB : Bs := [48, 49, 50, 51, 52, 53, 54, 55, 56, 57, 97, 98, 99, 100, 101, 102]
theorem idx_fig0 : ∀ n, n < 256 → Lib.indexByte figsB (UInt8.ofNat n) = (match figV (UInt8.ofNat n) with | some d => (d : Int) | none => -1) := by decide +kernel
theorem idx_fig (c : UInt8) : Lib.indexByte figsB c = (match figV c with | some d => (d : Int) | none => -1) := by
 have := idx_fig0 c.toNat (UInt8.toNat_lt c)
 rw [UInt8.ofNat_toNat] at this; exact this
theorem figV_lt {c : UInt8} {d : Nat} (h : figV c = some d) : d < 16 := (fig_figV h).2
theorem idxF_ok {σ : AH O} {c : UInt8} : strings_IndexByte [.s figsB, .i .u8 (c.toNat : Int)] σ = some (.i .i64 (match figV c with | some d => (d : Int) | none => -1), σ) := by
 have e : ((c.toNat : Nat) : Int).toNat.toUInt8 = c := by rw [Int.toNat_natCast]; simp
 have h0 : stringslite_IndexByte [.s figsB, .i .u8 (c.toNat : Int)] σ = some (.i .i64 (match figV c with | some d => (d : Int) | none => -1), σ) := by
  simp only [stringslite_IndexByte, e, idx_fig]
 simp (maxSteps := 2000000) -implicitDefEqProofs (disch := (first | omega | rfl | assumption | (simp only [rsD]; first | omega | assumption))) only [strings_IndexByte, strings_IndexByte_c, h0, Nat.reduceAdd, Nat.reduceMul, Nat.reduceLT, Int.reduceToNat, Int.reduceAdd, Int.reduceSub, Int.reduceMul, rsU, rsC]
def hexE (s : Bs) : AV := match hexR s with | some w => .tup [.i .u64 (w : Int), .i .i64 0] | none => .tup [.i .u64 0, .i .i64 5]
theorem gReadHex_ok {σ : AH O} {s : Bs} : Ok (digits_ReadHex [.s s] σ) fun r => r = (hexE s, σ) := by
 by_cases hl : s.length = 16
 ·have f0 : (((s.length : Int) : Int) != 16) = false := by simp [hl]
  simp (maxSteps := 2000000) -implicitDefEqProofs (disch := (first | omega | rfl | assumption | (simp only [rsD]; first | omega | assumption))) only [digits_ReadHex, digits_ReadHex_c, f0, Nat.reduceAdd, Nat.reduceMul, Nat.reduceLT, Int.reduceToNat, Int.reduceAdd, Int.reduceSub, Int.reduceMul, rsU, rsC]
  have hh : hexE s = match hexF 0 s with | some w => .tup [.i .u64 (w : Int), .i .i64 0] | none => .tup [.i .u64 0, .i .i64 5] := by unfold hexE hexR; rw [if_pos hl]
  refine Ok.bindS (Q := fun r => match r with | .inl q => ∃ w : Nat, q = ([.i .u64 (w : Int)], σ) ∧ hexF 0 s = some w | .inr r => hexF 0 s = none ∧ r = (.tup [.i .u64 0, .i .i64 5], σ)) ?_ ?_ ?_
  ·refine Ok.count 16 (fun k q => ∃ v : Nat, q = ([.i .u64 (v : Int), .i .i64 (k : Int)], σ) ∧ v < 16 ^ k ∧ hexF 0 s = hexF v (s.drop k)) ?_ ?_ ⟨0, rfl, by simp, by simp⟩
   ·rintro k _ hk ⟨v, rfl, hv, hf⟩
    have hp := p16 hk
    have dk : decide ((k : Int) < (s.length : Int)) = true := decide_eq_true (by omega)
    have d0 : decide ((0 : Int) ≤ (k : Int)) = true := decide_eq_true (by omega)
    have e1 : IntKind.i64.wrap ((k : Int) + 1) = ((k + 1 : Nat) : Int) := by rw [i64_id (by omega) (by omega)]; omega
    have hg : s[k]? = some s[k] := List.getElem?_eq_getElem (by omega)
    have hd : s.drop k = s[k] :: s.drop (k + 1) := List.drop_eq_getElem_cons (by omega)
    rw [hd, hexF] at hf
    generalize s[k] = c at *
    have ix := idxF_ok (σ := σ) (c := c)
    unfold figsB at ix
    cases fv : figV c with
    | none =>
     rw [fv] at hf ix
     have d1 : decide ((-1 : Int) < 0) = true := rfl
     simp (maxSteps := 2000000) -implicitDefEqProofs (disch := (first | omega | rfl | assumption | (simp only [rsD]; first | omega | assumption))) only [digits_ReadHex_L1, dk, d0, Int.toNat_natCast, hg, ix, d1, Nat.reduceAdd, Nat.reduceMul, Nat.reduceLT, Int.reduceToNat, Int.reduceAdd, Int.reduceSub, Int.reduceMul, rsU, rsC]
     exact Ok_some.2 ⟨hf, rfl⟩
    | some d =>
     rw [fv] at hf ix
     have hd := figV_lt fv
     have d1 : decide ((d : Int) < 0) = false := decide_eq_false (by omega)
     have ew : ibits .or .u64 (IntKind.u64.wrap ((v : Int) * 2 ^ 4)) (IntKind.u64.wrap (d : Int)) = ((v * 16 + d : Nat) : Int) := by
      rw [u64_id (n := (v : Int) * 2 ^ 4) (by omega) (by omega), u64_id (n := (d : Int)) (by omega) (by omega)]
      rw [or_u64 (by omega) (by omega) (by omega) (by omega)]
      have := Nat.two_pow_add_eq_or_of_lt (i := 4) (b := d) (by omega) v
      have e3 : ((v : Int) * 2 ^ 4).toNat = 2 ^ 4 * v := by omega
      rw [e3, Int.toNat_natCast, ← this]; omega
     simp -implicitDefEqProofs only [digits_ReadHex_L1, dk, d0, Int.toNat_natCast, hg, ix, d1, ew, e1, Nat.reduceAdd, Nat.reduceMul, Nat.reduceLT, Int.reduceToNat, Int.reduceAdd, Int.reduceSub, Int.reduceMul, rsU, s_ldI, s_ldU, s_ldS, s_ldP, s_gtI, s_gtU, s_gtS, s_bleD, Nat.reduceLeDiff, decide_true, decide_false]
     exact Ok_some.2 ⟨_, rfl, by rw [Nat.pow_succ]; omega, hf⟩
   ·rintro _ ⟨v, rfl, hv, hf⟩
    have dk : decide (((16 : Nat) : Int) < (s.length : Int)) = false := by rw [hl]; rfl
    simp (maxSteps := 2000000) -implicitDefEqProofs (disch := (first | omega | rfl | assumption | (simp only [rsD]; first | omega | assumption))) only [digits_ReadHex_L1, dk, Nat.reduceAdd, Nat.reduceMul, Nat.reduceLT, Int.reduceToNat, Int.reduceAdd, Int.reduceSub, Int.reduceMul, rsU, rsC]
    exact Ok_some.2 ⟨v, rfl, by rw [hf, List.drop_eq_nil_of_le (by omega)]; rfl⟩
  ·rintro q ⟨w, rfl, hf⟩
   simp (maxSteps := 2000000) -implicitDefEqProofs (disch := (first | omega | rfl | assumption | (simp only [rsD]; first | omega | assumption))) only [Nat.reduceAdd, Nat.reduceMul, Nat.reduceLT, Int.reduceToNat, Int.reduceAdd, Int.reduceSub, Int.reduceMul, rsU, rsC]
   exact Ok_some.2 (by rw [hh, hf])
  ·rintro r ⟨hf, rfl⟩
   rw [hh, hf]
 ·have f0 : (((s.length : Int) : Int) != 16) = true := by simp; omega
  simp (maxSteps := 2000000) -implicitDefEqProofs (disch := (first | omega | rfl | assumption | (simp only [rsD]; first | omega | assumption))) only [digits_ReadHex, digits_ReadHex_c, f0, Nat.reduceAdd, Nat.reduceMul, Nat.reduceLT, Int.reduceToNat, Int.reduceAdd, Int.reduceSub, Int.reduceMul, rsU, rsC]
  exact Ok_some.2 (by unfold hexE hexR; rw [if_neg hl])
end Go.Abs.Tryd
namespace Go.Abs.Tryd
open Go Go.Abs
variable {O : Type}
def cellB (c : UInt8) : AV := .i .u8 (c.toNat : Int)
theorem st1 {σ : AH O} {b el : Nat} {cs : List AV} {j : Nat} {x : AV} (h : σ.blk b = some (.cells true el cs)) (hj : j < cs.length) : σ.st (.n b) j [x] = some (σ.put b (.cells true el (cs.set j x))) := by
 have e : cs.take j ++ [x] ++ cs.drop (j + 1) = cs.set j x := by rw [List.set_eq_take_append_cons_drop, if_pos hj]; simp
 simp only [AH.st, h]
 rw [Nat.ble_eq_true_of_le (by simp; omega)]
 simp only [List.length_cons, List.length_nil, Nat.zero_add, cond_true]
 rw [e]
theorem rdAr {σ : AH O} {b el : Nat} {cs : List AV} {o n : Nat} (h : σ.blk b = some (.cells true el cs)) (hn : o + n ≤ cs.length) : σ.rdSl (.ar (.n b) o 1) n 1 = some ((cs.drop o).take n) := by
 simp only [AH.rdSl, AH.ldN, h]
 rw [Nat.mul_one, Nat.ble_eq_true_of_le hn]; rfl
def sI (b : Bool) (v : Nat) : Int := if b then -(v : Int) else v
theorem tmodS (b : Bool) (v : Nat) : Int.tmod (sI b v) 10 = sI b (v % 10) := by
 cases b
 ·rfl
 ·simp only [sI, if_true, Int.neg_tmod]; rfl
theorem tdivS (b : Bool) (v : Nat) : Int.tdiv (sI b v) 10 = sI b (v / 10) := by
 cases b
 ·exact tdivN v
 ·simp only [sI, if_true, Int.neg_tdiv]; rw [tdivN]
theorem absS {b : Bool} {r : Nat} (hr : r < 10) : (if IntKind.i64.wrap (0 - sI b r) > sI b r then IntKind.i64.wrap (0 - sI b r) else sI b r) = (r : Int) := by
 have : IntKind.i64.wrap (0 - sI b r) = 0 - sI b r := i64_id (by unfold sI; split <;> omega) (by unfold sI; split <;> omega)
 rw [this]; unfold sI; split <;> split <;> omega
theorem textLoop_ok {σ σ0 : AH O} {sg : Bool} {u : Nat} (hu : u ≤ 9223372036854775808) (hs : sg = false → u ≤ 9223372036854775807) {cs : List AV} (hl : cs.length = 20) (hb : σ.blk σ0.next = some (.cells true 99 cs)) (E : Ext σ0 σ) (hlt : σ0.next < σ.next) :
  Ok (loopF (S := List AV × AH O) (T := List AV × AH O) (digits_Text_L1 σ0) ([.i .i64 20, .i .i64 (sI sg u)], σ)) fun r => ∃ (i : Nat) (cs : List AV), r.1 = [.i .i64 (i : Int)] ∧ i < 20 ∧ cs.length = 20 ∧ r.2.blk σ0.next = some (.cells true 99 cs) ∧ Ext σ0 r.2 ∧ cs.drop i = (digs u).map cellB := by
 have h20 : u < 10 ^ (19 + 1) := by
  have : (10 : Nat) ^ (19 + 1) = 100000000000000000000 := by decide
  omega
 refine Ok.loop (fun m (s : List AV × AH O) => ∃ (v j : Nat) (t : Bs) (cs : List AV) (σ' : AH O), s = ([.i .i64 ((j + 1 : Nat) : Int), .i .i64 (sI sg v)], σ') ∧ m = j ∧ j < 20 ∧ v < 10 ^ (j + 1) ∧ v ≤ u ∧ cs.length = 20 ∧ σ'.blk σ0.next = some (.cells true 99 cs) ∧ Ext σ0 σ' ∧ cs.drop (j + 1) = t.map cellB ∧ digs u = digs v ++ t) ?_ 19 _ ⟨u, 19, [], cs, σ, rfl, rfl, by omega, h20, by omega, hl, hb, E, by simp [hl], by simp⟩
 rintro j _ ⟨v, j', t, cs, σ', rfl, rfl, hj, hv, hvu, hl, hb, E, hd, ht⟩
 have e1 : IntKind.i64.wrap (((j + 1 : Nat) : Int) - 1) = (j : Int) := by rw [i64_id (by omega) (by omega)]; omega
 have d0 : decide ((0 : Int) ≤ (j : Int)) = true := decide_eq_true (by omega)
 have d1 : decide ((j : Int) < 20) = true := decide_eq_true (by omega)
 have ab := absS (b := sg) (r := v % 10) (by omega)
 have ew1 : IntKind.u8.wrap (IntKind.i64.wrap (48 + ((v % 10 : Nat) : Int))) = (((UInt8.ofNat (48 + v % 10)).toNat : Nat) : Int) := by
  rw [i64_id (by omega) (by omega), u8_id (by omega) (by omega), u8n (by omega)]; omega
 have ew2 : IntKind.i64.wrap (sI sg (v / 10)) = sI sg (v / 10) := i64_id (by unfold sI; split <;> omega) (by unfold sI; split <;> omega)
 have dg : digs v = if v < 10 then [UInt8.ofNat (48 + v % 10)] else digs (v / 10) ++ [UInt8.ofNat (48 + v % 10)] := by
  rw [digs]; split
  ·rw [Nat.mod_eq_of_lt (by assumption)]
  ·rfl
 have hst := st1 (x := .i .u8 (((UInt8.ofNat (48 + v % 10)).toNat : Nat) : Int)) hb (j := j) (by omega)
 have jj : 0 + j * 1 = j := by omega
 have hst : stM σ' σ0.next (σ'.blk σ0.next) j [.i .u8 (((UInt8.ofNat (48 + v % 10)).toNat : Nat) : Int)] = some (σ'.put σ0.next (.cells true 99 (cs.set j (.i .u8 (((UInt8.ofNat (48 + v % 10)).toNat : Nat) : Int))))) := hst
 have hdr : (cs.set j (.i .u8 (((UInt8.ofNat (48 + v % 10)).toNat : Nat) : Int))).drop j = (UInt8.ofNat (48 + v % 10) :: t).map cellB := by
  rw [List.drop_eq_getElem_cons (by simp; omega)]
  simp only [List.getElem_set_self, List.map_cons, cellB]
  rw [List.drop_set_of_lt (by omega), hd]
 have hv9 : v / 10 < 10 ^ j := by rw [Nat.pow_succ] at hv; omega
 by_cases h9 : v < 10
 ·have z : ((sI sg (v / 10) : Int) == 0) = true := by
   have : v / 10 = 0 := by omega
   rw [this]; cases sg <;> rfl
  simp -implicitDefEqProofs only [digits_Text_L1, e1, d0, d1, tmodS, tdivS, ab, ew1, ew2, Int.toNat_natCast, jj, hst, z, Nat.reduceAdd, Nat.reduceMul, Nat.reduceLT, Int.reduceToNat, Int.reduceAdd, Int.reduceSub, Int.reduceMul, rsU, s_ldI, s_ldU, s_ldS, s_ldP, s_gtI, s_gtU, s_gtS, s_bleD, Nat.reduceLeDiff, decide_true, decide_false]
  refine Ok_some.2 ⟨j, _, rfl, hj, by simp [hl], s_bs, E.put (Nat.le_refl _) _, ?_⟩
  rw [hdr, ht, dg, if_pos h9]; rfl
 ·have z : ((sI sg (v / 10) : Int) == 0) = false := by
   have : v / 10 ≠ 0 := by omega
   unfold sI; cases sg <;> simp <;> omega
  simp -implicitDefEqProofs only [digits_Text_L1, e1, d0, d1, tmodS, tdivS, ab, ew1, ew2, Int.toNat_natCast, jj, hst, z, Nat.reduceAdd, Nat.reduceMul, Nat.reduceLT, Int.reduceToNat, Int.reduceAdd, Int.reduceSub, Int.reduceMul, rsU, s_ldI, s_ldU, s_ldS, s_ldP, s_gtI, s_gtU, s_gtS, s_bleD, Nat.reduceLeDiff, decide_true, decide_false]
  have hj0 : j ≠ 0 := fun h => by subst h; simp at hv9; omega
  obtain ⟨k, rfl⟩ : ∃ k, j = k + 1 := ⟨j - 1, by omega⟩
  refine Ok_some.2 ⟨k, by omega, v / 10, k, _, _, _, rfl, rfl, by omega, hv9, by omega, by simp [hl], s_bs, E.put (Nat.le_refl _) _, hdr, ?_⟩
  rw [ht, dg, if_neg h9]; simp
theorem gText_ok {σ : AH O} {n : Int} (h : I64 n) : Ok (digits_Text [.i .i64 n] σ) fun r => r.1 = .s (numT n) ∧ Ext σ r.2 := by
 obtain ⟨h0, h1⟩ := h
 obtain ⟨sg, u, hn, hu, hs, hneg⟩ : ∃ (sg : Bool) (u : Nat), n = sI sg u ∧ u ≤ 9223372036854775808 ∧ (sg = false → u ≤ 9223372036854775807) ∧ (sg = decide (n < 0)) := by
  by_cases hn : n < 0
  ·exact ⟨true, (-n).toNat, by simp [sI]; omega, by omega, fun h => (by cases h), (decide_eq_true hn).symm⟩
  ·exact ⟨false, n.toNat, by simp [sI]; omega, by omega, fun _ => by omega, (decide_eq_false hn).symm⟩
 simp (maxSteps := 2000000) -implicitDefEqProofs (disch := (first | omega | rfl | assumption | (simp only [rsD]; first | omega | assumption))) only [digits_Text, digits_Text_c, Nat.reduceAdd, Nat.reduceMul, Nat.reduceLT, Int.reduceToNat, Int.reduceAdd, Int.reduceSub, Int.reduceMul, rsU, rsC]
 generalize hσ : (σ.bump 1).put σ.next (Blk.cells true 99 _) = σ1
 have hb : ∃ cs, cs.length = 20 ∧ σ1.blk σ.next = some (.cells true 99 cs) := ⟨_, rfl, by rw [← hσ]; exact s_bs⟩
 have E : Ext σ σ1 := by rw [← hσ]; exact ((Ext.refl σ).bump 1).put (Nat.le_refl _) _
 have hn1 : σ1.next = σ.next + 1 := by rw [← hσ]; rfl
 clear hσ
 obtain ⟨cs, hl, hb⟩ := hb
 have tl := textLoop_ok (O := O) hu hs hl hb E (by omega)
 rw [← hn] at tl
 refine Ok.step tl ?_
 rintro ⟨q, σ2⟩ ⟨i, cs2, rfl, hi, hl2, hb2, E2, hd⟩
 simp only at hb2 E2
 have d0 : decide ((0 : Int) ≤ (i : Int)) = true := decide_eq_true (by omega)
 have d1 : decide ((i : Int) < 20) = true := decide_eq_true (by omega)
 have ii : 0 + i * 1 = i := by omega
 have rr := rdAr hb2 (o := i) (n := 20 - i) (by omega)
 rw [List.take_of_length_le (by simp; omega), hd] at rr
 have ab : asBytes ((digs u).map cellB) = some (digs u) := asBytesU _
 have t1 : (true && true) = true := rfl
 have few : (digs u).length ≤ 20 := digs_few (by omega)
 cases sg with
 | true =>
  have hneg' : decide (n < 0) = true := hneg.symm
  have bl : Nat.ble (1 + (digs u).length) 9223372036854775807 = true := Nat.ble_eq_true_of_le (by omega)
  have e2 : numT n = 45 :: digs u := by
   have : n < 0 := of_decide_eq_true hneg'
   have e3 : (-n).toNat = u := by rw [hn]; simp [sI]
   rw [numT, if_pos this, e3]
  simp -implicitDefEqProofs only [hneg', d0, d1, t1, ii, Int.toNat_natCast, rr, ab, Nat.reduceAdd, Nat.reduceMul, Nat.reduceLT, Int.reduceToNat, Int.reduceAdd, Int.reduceSub, Int.reduceMul, rsU, s_ldI, s_ldU, s_ldS, s_ldP, s_gtI, s_gtU, s_gtS, s_bleD, Nat.reduceLeDiff, decide_true, decide_false]
  simp (maxSteps := 2000000) -implicitDefEqProofs (disch := (first | omega | rfl | assumption | (simp only [rsD]; first | omega | assumption))) only [bl, List.length_cons, List.length_nil, Nat.reduceAdd, Nat.reduceMul, Nat.reduceLT, Int.reduceToNat, Int.reduceAdd, Int.reduceSub, Int.reduceMul, rsU, rsC]
  exact Ok_some.2 ⟨by rw [e2], E2⟩
 | false =>
  have hneg' : decide (n < 0) = false := hneg.symm
  have e2 : numT n = digs u := by
   have : ¬ n < 0 := of_decide_eq_false hneg'
   have e3 : n.toNat = u := by rw [hn]; simp [sI]
   rw [numT, if_neg this, e3]
  simp -implicitDefEqProofs only [hneg', d0, d1, t1, ii, Int.toNat_natCast, rr, ab, Nat.reduceAdd, Nat.reduceMul, Nat.reduceLT, Int.reduceToNat, Int.reduceAdd, Int.reduceSub, Int.reduceMul, rsU, s_ldI, s_ldU, s_ldS, s_ldP, s_gtI, s_gtU, s_gtS, s_bleD, Nat.reduceLeDiff, decide_true, decide_false]
  exact Ok_some.2 ⟨by rw [e2], E2⟩
end Go.Abs.Tryd
namespace Go.Abs.Tryd
open Go Go.Abs
variable {O : Type}
theorem hexN_get : ∀ (m w k : Nat), k < m → (hexN m w)[k]? = some (fig (w / 16 ^ (m - 1 - k) % 16))
 | 0, _, _, h => by omega
 | m + 1, w, k, h => by
  rw [hexN]
  by_cases hk : k < m
  ·rw [List.getElem?_append_left (by rw [hexN_len]; exact hk), hexN_get m (w / 16) k hk, Nat.div_div_eq_div_mul]
   have : 16 * 16 ^ (m - 1 - k) = 16 ^ (m + 1 - 1 - k) := by rw [show m + 1 - 1 - k = (m - 1 - k) + 1 by omega, Nat.pow_succ, Nat.mul_comm]
   rw [this]
  ·have : k = m := by omega
   subst this
   rw [List.getElem?_append_right (by rw [hexN_len]; omega), hexN_len]
   simp
theorem figs_get : ∀ d, d < 16 → ([48, 49, 50, 51, 52, 53, 54, 55, 56, 57, 97, 98, 99, 100, 101, 102] : List UInt8)[d]? = some (fig d) := by decide
theorem gHex_ok {σ : AH O} {w : Nat} (hw : w < 18446744073709551616) : Ok (digits_Hex [.i .u64 (w : Int)] σ) fun r => r.1 = .s (hexT w) ∧ Ext σ r.2 := by
 simp (maxSteps := 2000000) -implicitDefEqProofs (disch := (first | omega | rfl | assumption | (simp only [rsD]; first | omega | assumption))) only [digits_Hex, digits_Hex_c, Nat.reduceAdd, Nat.reduceMul, Nat.reduceLT, Int.reduceToNat, Int.reduceAdd, Int.reduceSub, Int.reduceMul, rsU, rsC]
 generalize hσ : (σ.bump 1).put σ.next (Blk.cells true 100 _) = σ1
 have hb : ∃ cs, cs.length = 16 ∧ σ1.blk σ.next = some (.cells true 100 cs) := ⟨_, rfl, by rw [← hσ]; exact s_bs⟩
 have E : Ext σ σ1 := by rw [← hσ]; exact ((Ext.refl σ).bump 1).put (Nat.le_refl _) _
 clear hσ
 obtain ⟨cs, hl, hb⟩ := hb
 refine Ok.step (Q := fun r => ∃ cs, r.1 = [] ∧ r.2.blk σ.next = some (.cells true 100 cs) ∧ cs = (hexT w).map cellB ∧ Ext σ r.2) ?_ ?_
 ·refine Ok.count 16 (fun k s => ∃ (cs : List AV) (σ' : AH O), s = ([.i .i64 (k : Int)], σ') ∧ cs.length = 16 ∧ σ'.blk σ.next = some (.cells true 100 cs) ∧ Ext σ σ' ∧ ∀ j, j < k → cs[j]? = ((hexT w).map cellB)[j]?) ?_ ?_ ⟨cs, σ1, rfl, hl, hb, E, fun j h => by omega⟩
  ·rintro k _ hk ⟨cs, σ', rfl, hl, hb, E, hc⟩
   have dk : decide ((k : Int) < 16) = true := decide_eq_true (by omega)
   have d0 : decide ((0 : Int) ≤ (k : Int)) = true := decide_eq_true (by omega)
   have e1 : IntKind.i64.wrap ((k : Int) + 1) = ((k + 1 : Nat) : Int) := by rw [i64_id (by omega) (by omega)]; omega
   have e5 : IntKind.i64.wrap (60 - IntKind.i64.wrap (4 * (k : Int))) = ((60 - 4 * k : Nat) : Int) := by
    rw [i64_id (n := 4 * (k : Int)) (by omega) (by omega), i64_id (by omega) (by omega)]; omega
   have d5 : decide (((60 - 4 * k : Nat) : Int) < 0) = false := decide_eq_false (by omega)
   have hmin : min (60 - 4 * k) 64 = 60 - 4 * k := by omega
   have hp : (2 : Nat) ^ (60 - 4 * k) = 16 ^ (15 - k) := by rw [show 60 - 4 * k = 4 * (15 - k) by omega, Nat.pow_mul]
   have ef : Int.fdiv (w : Int) (2 ^ (60 - 4 * k)) = ((w / 16 ^ (15 - k) : Nat) : Int) := by
    have : ((2 : Int) ^ (60 - 4 * k)) = ((16 ^ (15 - k) : Nat) : Int) := by rw [← hp]; push_cast; rfl
    rw [this, Int.fdiv_eq_ediv_of_nonneg _ (Int.natCast_nonneg _)]; rfl
   have hle : w / 16 ^ (15 - k) ≤ w := Nat.div_le_self _ _
   have hg := hexN_get 16 w k hk
   have h15 : 16 - 1 - k = 15 - k := by omega
   rw [h15] at hg
   generalize w / 16 ^ (15 - k) = qq at *
   have e6 : ibits .and .u64 ((qq : Nat) : Int) 15 = ((qq % 16 : Nat) : Int) := by
    rw [and_u64 (by omega) (by omega) (by omega) (by omega)]
    have := Nat.and_two_pow_sub_one_eq_mod (qq) 4
    rw [Int.toNat_natCast]; exact congrArg Int.ofNat this
   have d6 : decide ((0 : Int) ≤ ((qq % 16 : Nat) : Int)) = true := decide_eq_true (by omega)
   have hf := figs_get (qq % 16) (by omega)
   have jj : 0 + k * 1 = k := by omega
   generalize qq % 16 = d at *
   have hst := st1 (x := cellB (fig d)) hb (j := k) (by omega)
   have hst : stM σ' σ.next (σ'.blk σ.next) k [.i .u8 (((fig d).toNat : Nat) : Int)] = some (σ'.put σ.next (.cells true 100 (cs.set k (cellB (fig d))))) := hst
   simp -implicitDefEqProofs only [digits_Hex_L1, dk, d0, e5, d5, hmin, ef, e6, d6, Int.toNat_natCast, hf, jj, hst, e1, Nat.reduceAdd, Nat.reduceMul, Nat.reduceLT, Int.reduceToNat, Int.reduceAdd, Int.reduceSub, Int.reduceMul, rsU, s_ldI, s_ldU, s_ldS, s_ldP, s_gtI, s_gtU, s_gtS, s_bleD, Nat.reduceLeDiff, decide_true, decide_false]
   refine Ok_some.2 ⟨_, _, rfl, by simp [hl], s_bs, E.put (Nat.le_refl _) _, fun j hj => ?_⟩
   by_cases h : j = k
   ·subst h
    rw [List.getElem?_set_self (by omega), List.getElem?_map, hexT, hg]; rfl
   ·rw [List.getElem?_set_ne (by omega)]; exact hc j (by omega)
  ·rintro _ ⟨cs, σ', rfl, hl, hb, E, hc⟩
   have dk : decide (((16 : Nat) : Int) < 16) = false := rfl
   simp (maxSteps := 2000000) -implicitDefEqProofs (disch := (first | omega | rfl | assumption | (simp only [rsD]; first | omega | assumption))) only [digits_Hex_L1, dk, Nat.reduceAdd, Nat.reduceMul, Nat.reduceLT, Int.reduceToNat, Int.reduceAdd, Int.reduceSub, Int.reduceMul, rsU, rsC]
   refine Ok_some.2 ⟨cs, rfl, hb, ?_, E⟩
   refine List.ext_getElem? fun j => ?_
   by_cases hj : j < 16
   ·exact hc j hj
   ·rw [List.getElem?_eq_none (by omega), List.getElem?_eq_none (by simp [hexT, hexN_len]; omega)]
 ·rintro ⟨q, σ2⟩ ⟨cs2, rfl, hb2, rfl, E2⟩
  have rr := rdAr hb2 (o := 0) (n := 16) (by simp [hexT, hexN_len])
  rw [List.drop_zero, List.take_of_length_le (by simp [hexT, hexN_len])] at rr
  have ab : asBytes ((hexT w).map cellB) = some (hexT w) := asBytesU _
  simp only at rr
  simp -implicitDefEqProofs only [rr, ab, Nat.sub_zero, Nat.reduceAdd, Nat.reduceMul, Nat.reduceLT, Int.reduceToNat, Int.reduceAdd, Int.reduceSub, Int.reduceMul, rsU, s_ldI, s_ldU, s_ldS, s_ldP, s_gtI, s_gtU, s_gtS, s_bleD, Nat.reduceLeDiff, decide_true, decide_false]
  exact Ok_some.2 ⟨rfl, E2⟩
end Go.Abs.Tryd
