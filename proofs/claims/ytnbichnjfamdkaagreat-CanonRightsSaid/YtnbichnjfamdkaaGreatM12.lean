/-
  Layers 11 and 12: fields of words, headers. No conditions.
-/
import Derived.Test.YtnbichnjfamdkaaGreatS11a
import Derived.Test.YtnbichnjfamdkaaGreatAbsSim
import Derived.Test.YtnbichnjfamdkaaGreatAbsArgs
import Derived.Test.YtnbichnjfamdkaaGreatAbsSl
import Derived.Test.YtnbichnjfamdkaaGreatAbsNat
import Derived.Test.YtnbichnjfamdkaaGreatAbsBits
import Derived.Test.YtnbichnjfamdkaaGreatI4
import Derived.Test.YtnbichnjfamdkaaGreatN1
set_option linter.unusedVariables false
set_option linter.unusedSimpArgs false
set_option linter.constructorNameAsVariable false
set_option linter.unusedSimpArgs false
set_option linter.unusedVariables false
set_option linter.unusedSectionVars false
set_option maxHeartbeats 1000000
namespace Go.Abs.Tryz
open Go Go.Abs
variable {O : Type}
def FA : List (Nat × Nat) := [(0, 12), (12, 12), (24, 5), (29, 3), (32, 1), (62, 1)]
def FC (l : List (Nat × Nat)) : List AV := l.flatMap fun x => [.i .i64 (x.1 : Int), .i .i64 (x.2 : Int)]
def FldAt (σ : AH O) (a : SA) : Prop := ∃ b el, a = .loc (.n b) 0 2 ∧ σ.blk b = some (.cells true el (FC FA)) ∧ b < σ.next
theorem FldAt.ext {σ σ' : AH O} {a : SA} (h : FldAt σ a) (e : Ext σ σ') : FldAt σ' a := by
 obtain ⟨b, el, h1, h2, h3⟩ := h
 exact ⟨b, el, h1, (e.blk _ h3).trans h2, Nat.lt_of_lt_of_le h3 e.next⟩
end Go.Abs.Tryz
namespace Go.Abs.Tryz
open Go Go.Abs
variable {O : Type}
structure Hd where
 p : Nat
 r : Nat
 s : Nat
 g : Nat
 l : Bool
structure Hd.ok (h : Hd) : Prop where
 p : h.p < 4096
 r : h.r < 4096
 s : h.s < 32
 g : h.g < 8
def Hd.ln (h : Hd) : Nat := if h.l then 1 else 0
def Hd.w (h : Hd) : Nat → Nat
 | 0 => 0
 | 1 => 0 + h.p * 2 ^ 0
 | 2 => 0 + h.p * 2 ^ 0 + h.r * 2 ^ 12
 | 3 => 0 + h.p * 2 ^ 0 + h.r * 2 ^ 12 + h.s * 2 ^ 24
 | 4 => 0 + h.p * 2 ^ 0 + h.r * 2 ^ 12 + h.s * 2 ^ 24 + h.g * 2 ^ 29
 | 5 => 0 + h.p * 2 ^ 0 + h.r * 2 ^ 12 + h.s * 2 ^ 24 + h.g * 2 ^ 29 + h.ln * 2 ^ 32
 | _ => 0 + h.p * 2 ^ 0 + h.r * 2 ^ 12 + h.s * 2 ^ 24 + h.g * 2 ^ 29 + h.ln * 2 ^ 32 + 1 * 2 ^ 62
def Hd.word (h : Hd) : Nat := h.w 6
theorem Hd.lnlt (h : Hd) : h.ln < 2 := by unfold Hd.ln; split <;> omega
theorem Hd.ok.w {h : Hd} (k : h.ok) : h.word < 2 ^ 63 ∧ 2 ^ 62 ≤ h.word := by
 have h1 := k.p; have h2 := k.r; have h3 := k.s; have h4 := k.g; have h5 := h.lnlt
 simp only [Hd.word, Hd.w]
 omega
theorem within12 (σ : AH O) (n m : Int) : header_within [.i .i64 n, .i .i64 m] σ = some (.b (decide (0 ≤ n ∧ n ≤ m)), σ) := by
 by_cases h : 0 ≤ n
 ·simp (maxSteps := 2000000) -implicitDefEqProofs (disch := (first | omega | rfl | assumption | (simp only [rsD]; first | omega | assumption))) only [header_within, header_within_c, ge_iff_le, Nat.reduceAdd, Nat.reduceMul, Nat.reduceLT, Int.reduceToNat, Int.reduceAdd, Int.reduceSub, Int.reduceMul, rsU, rsC]
  try simp [h]
 ·simp (maxSteps := 2000000) -implicitDefEqProofs (disch := (first | omega | rfl | assumption | (simp only [rsD]; first | omega | assumption))) only [header_within, header_within_c, ge_iff_le, Nat.reduceAdd, Nat.reduceMul, Nat.reduceLT, Int.reduceToNat, Int.reduceAdd, Int.reduceSub, Int.reduceMul, rsU, rsC]
  try simp [h]
def chkOf (p r s g : Int) : Int := if ¬(0 ≤ p ∧ p ≤ 4095) ∨ ¬(0 ≤ r ∧ r ≤ 4095) then 20 else if ¬(0 ≤ s ∧ s ≤ 31) then 21 else if ¬(0 ≤ g ∧ g ≤ 7) then 2 else 0
theorem check_ok (σ : AH O) (p r s g : Int) (l : Bool) : Ok (header_Check [.agg [.i .i64 p, .i .i64 r, .i .i64 s, .i .i64 g, .b l]] σ) fun q => q.1 = .i .i64 (chkOf p r s g) ∧ Ext σ q.2 := by
 by_cases h1 : 0 ≤ p ∧ p ≤ 4095
 ·by_cases h2 : 0 ≤ r ∧ r ≤ 4095
  ·by_cases h3 : 0 ≤ s ∧ s ≤ 31
   ·by_cases h4 : 0 ≤ g ∧ g ≤ 7
    ·simp (maxSteps := 2000000) -implicitDefEqProofs (disch := (first | omega | rfl | assumption | (simp only [rsD]; first | omega | assumption))) only [header_Check, header_Check_c, within12, decide_eq_true h1, decide_eq_true h2, decide_eq_true h3, decide_eq_true h4, Nat.reduceAdd, Nat.reduceMul, Nat.reduceLT, Int.reduceToNat, Int.reduceAdd, Int.reduceSub, Int.reduceMul, rsU, rsC]
     exact Ok_some.2 ⟨by simp [chkOf, h1, h2, h3, h4], (ext_of (by simp only [put_next, bump_next, kill_next]; omega) (fun b hb => by simp -implicitDefEqProofs (disch := (first | omega | rfl | assumption | (simp only [rsD]; first | omega | assumption))) only [s_bn, s_kn, bump_blk, s_ext]))⟩
    ·simp (maxSteps := 2000000) -implicitDefEqProofs (disch := (first | omega | rfl | assumption | (simp only [rsD]; first | omega | assumption))) only [header_Check, header_Check_c, within12, decide_eq_true h1, decide_eq_true h2, decide_eq_true h3, decide_eq_false h4, Nat.reduceAdd, Nat.reduceMul, Nat.reduceLT, Int.reduceToNat, Int.reduceAdd, Int.reduceSub, Int.reduceMul, rsU, rsC]
     exact Ok_some.2 ⟨by simp [chkOf, h1, h2, h3, h4], (ext_of (by simp only [put_next, bump_next, kill_next]; omega) (fun b hb => by simp -implicitDefEqProofs (disch := (first | omega | rfl | assumption | (simp only [rsD]; first | omega | assumption))) only [s_bn, s_kn, bump_blk, s_ext]))⟩
   ·simp (maxSteps := 2000000) -implicitDefEqProofs (disch := (first | omega | rfl | assumption | (simp only [rsD]; first | omega | assumption))) only [header_Check, header_Check_c, within12, decide_eq_true h1, decide_eq_true h2, decide_eq_false h3, Nat.reduceAdd, Nat.reduceMul, Nat.reduceLT, Int.reduceToNat, Int.reduceAdd, Int.reduceSub, Int.reduceMul, rsU, rsC]
    exact Ok_some.2 ⟨by simp [chkOf, h1, h2, h3], (ext_of (by simp only [put_next, bump_next, kill_next]; omega) (fun b hb => by simp -implicitDefEqProofs (disch := (first | omega | rfl | assumption | (simp only [rsD]; first | omega | assumption))) only [s_bn, s_kn, bump_blk, s_ext]))⟩
  ·simp (maxSteps := 2000000) -implicitDefEqProofs (disch := (first | omega | rfl | assumption | (simp only [rsD]; first | omega | assumption))) only [header_Check, header_Check_c, within12, decide_eq_true h1, decide_eq_false h2, Nat.reduceAdd, Nat.reduceMul, Nat.reduceLT, Int.reduceToNat, Int.reduceAdd, Int.reduceSub, Int.reduceMul, rsU, rsC]
   exact Ok_some.2 ⟨by simp [chkOf, h1, h2], (ext_of (by simp only [put_next, bump_next, kill_next]; omega) (fun b hb => by simp -implicitDefEqProofs (disch := (first | omega | rfl | assumption | (simp only [rsD]; first | omega | assumption))) only [s_bn, s_kn, bump_blk, s_ext]))⟩
 ·simp (maxSteps := 2000000) -implicitDefEqProofs (disch := (first | omega | rfl | assumption | (simp only [rsD]; first | omega | assumption))) only [header_Check, header_Check_c, within12, decide_eq_false h1, Nat.reduceAdd, Nat.reduceMul, Nat.reduceLT, Int.reduceToNat, Int.reduceAdd, Int.reduceSub, Int.reduceMul, rsU, rsC]
  exact Ok_some.2 ⟨by simp [chkOf, h1], (ext_of (by simp only [put_next, bump_next, kill_next]; omega) (fun b hb => by simp -implicitDefEqProofs (disch := (first | omega | rfl | assumption | (simp only [rsD]; first | omega | assumption))) only [s_bn, s_kn, bump_blk, s_ext]))⟩
end Go.Abs.Tryz
set_option maxHeartbeats 2000000
namespace Go.Abs.Tryz
open Go Go.Abs
variable {O : Type}
end Go.Abs.Tryz
namespace Go.Abs.Tryz
open Go Go.Abs
variable {O : Type}
theorem chk_hdP (h : HV) : (chkOf h.p h.r h.site h.age = 0) ↔ hdP h = true := by
 unfold chkOf
 simp only [hdP, decide_eq_true_eq]
 split
 ·omega
 ·split
  ·omega
  ·split <;> omega
theorem checkV_ok (σ : AH O) (h : HV) : Ok (header_Check [.agg [.i .i64 h.p, .i .i64 h.r, .i .i64 h.site, .i .i64 h.age, .b h.large]] σ) fun q => (∃ c, q.1 = .i .i64 c ∧ (c == 0) = hdP h) ∧ Ext σ q.2 := by
 refine (check_ok σ h.p h.r h.site h.age h.large).mono fun q ⟨g1, g2⟩ => ⟨⟨_, g1, ?_⟩, g2⟩
 have := chk_hdP h
 cases hh : hdP h with
 | true => rw [this.2 hh]; rfl
 | false =>
  have : chkOf h.p h.r h.site h.age ≠ 0 := fun e => by rw [this.1 e] at hh; cases hh
  simpa using this
theorem rcheck_ok (σ : AH O) (h : HV) : Ok (haymowref12_Check [.agg [.i .i64 h.p, .i .i64 h.r, .i .i64 h.site, .i .i64 h.age, .b h.large]] σ) fun q => (∃ c, q.1 = .i .i64 c ∧ (c == 0) = hdP h) ∧ Ext σ q.2 := by
 obtain ⟨p, r, s, g, l⟩ := h
 have E : ∀ {x : Blk O}, Ext σ ((σ.bump 1).put σ.next x) := fun {x} => ((Ext.refl σ).bump 1).put (Nat.le_refl _) _
 simp only
 have f0 : (false == false) = true := rfl
 have f1 : (true == false) = false := rfl
 by_cases cplo : p < 0
 ·have dplo : decide (p < 0) = true := decide_eq_true cplo
  simp (maxSteps := 2000000) -implicitDefEqProofs (disch := (first | omega | rfl | assumption | (simp only [rsD]; first | omega | assumption))) only [haymowref12_Check, haymowref12_Check_c, dplo, f0, f1, Nat.reduceAdd, Nat.reduceMul, Nat.reduceLT, Int.reduceToNat, Int.reduceAdd, Int.reduceSub, Int.reduceMul, rsU, rsC]
  exact Ok_some.2 ⟨⟨20, rfl, by rw [show hdP ⟨p, r, s, g, l⟩ = false from decide_eq_false (by show ¬ ((0 ≤ p ∧ p ≤ 4095) ∧ (0 ≤ r ∧ r ≤ 4095) ∧ (0 ≤ s ∧ s ≤ 31) ∧ (0 ≤ g ∧ g ≤ 7)); omega)]; rfl⟩, E⟩
 have dplo : decide (p < 0) = false := decide_eq_false cplo
 by_cases cphi : p > 4095
 ·have dphi : decide (p > 4095) = true := decide_eq_true cphi
  simp (maxSteps := 2000000) -implicitDefEqProofs (disch := (first | omega | rfl | assumption | (simp only [rsD]; first | omega | assumption))) only [haymowref12_Check, haymowref12_Check_c, dplo, dphi, f0, f1, Nat.reduceAdd, Nat.reduceMul, Nat.reduceLT, Int.reduceToNat, Int.reduceAdd, Int.reduceSub, Int.reduceMul, rsU, rsC]
  exact Ok_some.2 ⟨⟨20, rfl, by rw [show hdP ⟨p, r, s, g, l⟩ = false from decide_eq_false (by show ¬ ((0 ≤ p ∧ p ≤ 4095) ∧ (0 ≤ r ∧ r ≤ 4095) ∧ (0 ≤ s ∧ s ≤ 31) ∧ (0 ≤ g ∧ g ≤ 7)); omega)]; rfl⟩, E⟩
 have dphi : decide (p > 4095) = false := decide_eq_false cphi
 by_cases crlo : r < 0
 ·have drlo : decide (r < 0) = true := decide_eq_true crlo
  simp (maxSteps := 2000000) -implicitDefEqProofs (disch := (first | omega | rfl | assumption | (simp only [rsD]; first | omega | assumption))) only [haymowref12_Check, haymowref12_Check_c, dplo, dphi, drlo, f0, f1, Nat.reduceAdd, Nat.reduceMul, Nat.reduceLT, Int.reduceToNat, Int.reduceAdd, Int.reduceSub, Int.reduceMul, rsU, rsC]
  exact Ok_some.2 ⟨⟨20, rfl, by rw [show hdP ⟨p, r, s, g, l⟩ = false from decide_eq_false (by show ¬ ((0 ≤ p ∧ p ≤ 4095) ∧ (0 ≤ r ∧ r ≤ 4095) ∧ (0 ≤ s ∧ s ≤ 31) ∧ (0 ≤ g ∧ g ≤ 7)); omega)]; rfl⟩, E⟩
 have drlo : decide (r < 0) = false := decide_eq_false crlo
 by_cases crhi : r > 4095
 ·have drhi : decide (r > 4095) = true := decide_eq_true crhi
  simp (maxSteps := 2000000) -implicitDefEqProofs (disch := (first | omega | rfl | assumption | (simp only [rsD]; first | omega | assumption))) only [haymowref12_Check, haymowref12_Check_c, dplo, dphi, drlo, drhi, f0, f1, Nat.reduceAdd, Nat.reduceMul, Nat.reduceLT, Int.reduceToNat, Int.reduceAdd, Int.reduceSub, Int.reduceMul, rsU, rsC]
  exact Ok_some.2 ⟨⟨20, rfl, by rw [show hdP ⟨p, r, s, g, l⟩ = false from decide_eq_false (by show ¬ ((0 ≤ p ∧ p ≤ 4095) ∧ (0 ≤ r ∧ r ≤ 4095) ∧ (0 ≤ s ∧ s ≤ 31) ∧ (0 ≤ g ∧ g ≤ 7)); omega)]; rfl⟩, E⟩
 have drhi : decide (r > 4095) = false := decide_eq_false crhi
 by_cases cslo : s < 0
 ·have dslo : decide (s < 0) = true := decide_eq_true cslo
  simp (maxSteps := 2000000) -implicitDefEqProofs (disch := (first | omega | rfl | assumption | (simp only [rsD]; first | omega | assumption))) only [haymowref12_Check, haymowref12_Check_c, dplo, dphi, drlo, drhi, dslo, f0, f1, Nat.reduceAdd, Nat.reduceMul, Nat.reduceLT, Int.reduceToNat, Int.reduceAdd, Int.reduceSub, Int.reduceMul, rsU, rsC]
  exact Ok_some.2 ⟨⟨21, rfl, by rw [show hdP ⟨p, r, s, g, l⟩ = false from decide_eq_false (by show ¬ ((0 ≤ p ∧ p ≤ 4095) ∧ (0 ≤ r ∧ r ≤ 4095) ∧ (0 ≤ s ∧ s ≤ 31) ∧ (0 ≤ g ∧ g ≤ 7)); omega)]; rfl⟩, E⟩
 have dslo : decide (s < 0) = false := decide_eq_false cslo
 by_cases cshi : s > 31
 ·have dshi : decide (s > 31) = true := decide_eq_true cshi
  simp (maxSteps := 2000000) -implicitDefEqProofs (disch := (first | omega | rfl | assumption | (simp only [rsD]; first | omega | assumption))) only [haymowref12_Check, haymowref12_Check_c, dplo, dphi, drlo, drhi, dslo, dshi, f0, f1, Nat.reduceAdd, Nat.reduceMul, Nat.reduceLT, Int.reduceToNat, Int.reduceAdd, Int.reduceSub, Int.reduceMul, rsU, rsC]
  exact Ok_some.2 ⟨⟨21, rfl, by rw [show hdP ⟨p, r, s, g, l⟩ = false from decide_eq_false (by show ¬ ((0 ≤ p ∧ p ≤ 4095) ∧ (0 ≤ r ∧ r ≤ 4095) ∧ (0 ≤ s ∧ s ≤ 31) ∧ (0 ≤ g ∧ g ≤ 7)); omega)]; rfl⟩, E⟩
 have dshi : decide (s > 31) = false := decide_eq_false cshi
 by_cases cglo : g < 0
 ·have dglo : decide (g < 0) = true := decide_eq_true cglo
  simp (maxSteps := 2000000) -implicitDefEqProofs (disch := (first | omega | rfl | assumption | (simp only [rsD]; first | omega | assumption))) only [haymowref12_Check, haymowref12_Check_c, dplo, dphi, drlo, drhi, dslo, dshi, dglo, f0, f1, Nat.reduceAdd, Nat.reduceMul, Nat.reduceLT, Int.reduceToNat, Int.reduceAdd, Int.reduceSub, Int.reduceMul, rsU, rsC]
  exact Ok_some.2 ⟨⟨2, rfl, by rw [show hdP ⟨p, r, s, g, l⟩ = false from decide_eq_false (by show ¬ ((0 ≤ p ∧ p ≤ 4095) ∧ (0 ≤ r ∧ r ≤ 4095) ∧ (0 ≤ s ∧ s ≤ 31) ∧ (0 ≤ g ∧ g ≤ 7)); omega)]; rfl⟩, E⟩
 have dglo : decide (g < 0) = false := decide_eq_false cglo
 by_cases cghi : g > 7
 ·have dghi : decide (g > 7) = true := decide_eq_true cghi
  simp (maxSteps := 2000000) -implicitDefEqProofs (disch := (first | omega | rfl | assumption | (simp only [rsD]; first | omega | assumption))) only [haymowref12_Check, haymowref12_Check_c, dplo, dphi, drlo, drhi, dslo, dshi, dglo, dghi, f0, f1, Nat.reduceAdd, Nat.reduceMul, Nat.reduceLT, Int.reduceToNat, Int.reduceAdd, Int.reduceSub, Int.reduceMul, rsU, rsC]
  exact Ok_some.2 ⟨⟨2, rfl, by rw [show hdP ⟨p, r, s, g, l⟩ = false from decide_eq_false (by show ¬ ((0 ≤ p ∧ p ≤ 4095) ∧ (0 ≤ r ∧ r ≤ 4095) ∧ (0 ≤ s ∧ s ≤ 31) ∧ (0 ≤ g ∧ g ≤ 7)); omega)]; rfl⟩, E⟩
 have dghi : decide (g > 7) = false := decide_eq_false cghi
 simp (maxSteps := 2000000) -implicitDefEqProofs (disch := (first | omega | rfl | assumption | (simp only [rsD]; first | omega | assumption))) only [haymowref12_Check, haymowref12_Check_c, dplo, dphi, drlo, drhi, dslo, dshi, dglo, dghi, f0, f1, Nat.reduceAdd, Nat.reduceMul, Nat.reduceLT, Int.reduceToNat, Int.reduceAdd, Int.reduceSub, Int.reduceMul, rsU, rsC]
 exact Ok_some.2 ⟨⟨0, rfl, by rw [show hdP ⟨p, r, s, g, l⟩ = true from decide_eq_true (by show ((0 ≤ p ∧ p ≤ 4095) ∧ (0 ≤ r ∧ r ≤ 4095) ∧ (0 ≤ s ∧ s ≤ 31) ∧ (0 ≤ g ∧ g ≤ 7)); omega)]; rfl⟩, E⟩
end Go.Abs.Tryz
set_option maxHeartbeats 4000000
namespace Go.Abs.Tryz
open Go Go.Abs
variable {O : Type}
theorem ints_ref {k : IntKind} {a : SA} {l : List Int} (h : Ints k a l) {i : Nat} {x : Int} (hx : l[i]? = some x) : ∃ b o, SA.ref a = some (b, o) ∧ ∀ (O : Type) (σ : AH O), σ.ld b (o + i) = some (.i k x) := by
 obtain ⟨b, o, e, ld⟩ := h.at hx
 exact ⟨b, o, by rw [e]; rfl, ld⟩
structure NodesR (σ : AH O) (a : SA) (l : List NV) : Prop where
 it : ∃ vs, Rd σ 7 a l.length vs ∧ ∀ i x, l[i]? = some x → ∃ c d, Ints .i64 c x.P ∧ ∀ j, j < 7 → vs[i * 7 + j]? = (x.cells c d)[j]?
 lt : ∀ b ∈ SA.bk a, b < σ.next
theorem NodesR.of {σ σ' : AH O} {a : SA} {l : List NV} (h : NodesR σ a l) (hn : σ.next ≤ σ'.next) (hb : ∀ b ∈ SA.bk a, σ'.blk b = σ.blk b) : NodesR σ' a l := by
 obtain ⟨vs, h1, h2⟩ := h.it
 exact ⟨⟨vs, h1.of hb, h2⟩, fun b hb' => by have := h.lt b hb'; omega⟩
theorem NodesR.ext {σ σ' : AH O} {a : SA} {l : List NV} (h : NodesR σ a l) (E : Ext σ σ') : NodesR σ' a l := h.of E.next fun b hb => E.blk b (h.lt b hb)
theorem NodesR.node {σ : AH O} {a : SA} {l : List NV} (h : NodesR σ a l) {i : Nat} {x : NV} (hx : l[i]? = some x) : ∃ b o c d, SA.ref a = some (b, o) ∧ Ints .i64 c x.P ∧
  (σ.ld b (o + i * 7) = some (.i .i64 x.h.p) ∧ σ.ld b (o + i * 7 + 1) = some (.i .i64 x.h.r) ∧ σ.ld b (o + i * 7 + 2) = some (.i .i64 x.h.site) ∧ σ.ld b (o + i * 7 + 3) = some (.i .i64 x.h.age) ∧ σ.ld b (o + i * 7 + 4) = some (.b x.h.large) ∧ σ.ld b (o + i * 7 + 5) = some (.sl c x.P.length) ∧ σ.ld b (o + i * 7 + 6) = some (.sl d x.R.length)) := by
 obtain ⟨vs, h1, h2⟩ := h.it
 obtain ⟨c, d, ic, h3⟩ := h2 i x hx
 obtain ⟨b, o, rfl, h4⟩ := h1.ref (List.getElem?_eq_some_iff.1 hx).1
 have k := fun j hj => (h4 j hj).trans (h3 j hj)
 exact ⟨b, o, c, d, rfl, ic, k 0 (by decide), k 1 (by decide), k 2 (by decide), k 3 (by decide), k 4 (by decide), k 5 (by decide), k 6 (by decide)⟩
theorem cells_at {l : List NV} {vs : List AV} (h : ImL (l.flatMap NV.row) vs) {i : Nat} {x : NV} (hx : l[i]? = some x) : ∃ c d, Ints .i64 c x.P ∧ Ints .u64 d x.R ∧ ∀ j, j < 7 → vs[i * 7 + j]? = (x.cells c d)[j]? := by
 have h2 := (h.drop (i * 7)).take 7
 have e : ((l.flatMap NV.row).drop (i * 7)).take 7 = x.row := by
  apply List.ext_getElem?
  intro j
  rw [List.getElem?_take]
  split
  ·rename_i hj
   rw [List.getElem?_drop, fmt_get NV.len _ _ _ hj, hx]; rfl
  ·rename_i hj
   rw [List.getElem?_eq_none]
   rw [NV.len]; omega
 rw [e] at h2
 obtain ⟨c, d, e2, h3, h4⟩ := NV.un h2
 refine ⟨c, d, h3, h4, fun j hj => ?_⟩
 rw [← e2, List.getElem?_take, if_pos hj, List.getElem?_drop]
theorem NodesR.im {a : SA} {l : List NV} (h : Nodes a l) (σ : AH O) : NodesR σ a l := by
 obtain ⟨vs, h1, h2⟩ := h.it
 refine ⟨⟨vs, h1 O σ, fun i x hx => ?_⟩, fun b hb => by rw [h1.bk] at hb; cases hb⟩
 obtain ⟨c, d, h3, _, h5⟩ := cells_at h2 hx
 exact ⟨c, d, h3, h5⟩
structure FRd (σ : AH O) (F : FV) (v : AV) : Prop where
 it : ∃ a b c, v = .agg [.sl a F.nodes.length, .sl b F.roots.length, .sl c F.weak.length] ∧ NodesR σ a F.nodes ∧ Ints .i64 b F.roots ∧ Ints .i64 c F.weak
theorem FRd.im {F : FV} {v : AV} (h : F.At v) (σ : AH O) : FRd σ F v := by
 obtain ⟨a, b, c, e, h1, h2, h3⟩ := h.it
 exact ⟨a, b, c, e, NodesR.im h1 σ, h2, h3⟩
theorem meetP_at {n least met : Int} {l : List Int} {k : Nat} {x : Int} (hx : l[k]? = some x) : meetP n least met (l.drop k) = if least ≤ x ∧ x ≤ n ∧ x ≤ met + 1 then meetP n least (max met x) (l.drop (k + 1)) else none := by
 have hk : k < l.length := (List.getElem?_eq_some_iff.1 hx).1
 have he : l[k] = x := (List.getElem?_eq_some_iff.1 hx).2
 rw [List.drop_eq_getElem_cons hk, he]
 rfl
theorem max_if (x m : Int) : (if x > m then x else m) = max m x := by
 rw [Int.max_def]
 split <;> split <;> omega
theorem rroots_ok {σ0 σ : AH O} {a : SA} {l : List Int} {x2 : AV} {n el : Nat} {an : SA} (hb : σ.blk σ0.next = some (.cells true el [.sl an n, .sl a l.length, x2])) (hl : Ints .i64 a l) (hs : l.length ≤ 1000000) (hn : n ≤ 1000000) :
  Ok (loopF (S := List AV × AH O) (T := (List AV × AH O) ⊕ (AV × AH O)) (haymowref40_Right_L1 σ0) ([.i .i64 0, .i .i64 0], σ)) fun r => match r with
   | .inl s => ∃ m, s = ([.i .i64 m], σ) ∧ meetP n 1 0 l = some m ∧ 0 ≤ m ∧ m ≤ n
   | .inr r => r = (.b false, σ) ∧ meetP n 1 0 l = none := by
 refine Ok.count l.length (fun k s => ∃ m, s = ([.i .i64 m, .i .i64 (k : Int)], σ) ∧ meetP n 1 0 l = meetP n 1 m (l.drop k) ∧ 0 ≤ m ∧ m ≤ n) ?_ ?_ ⟨0, rfl, rfl, by omega, by omega⟩
 ·rintro k _ hk ⟨m, rfl, h1, h2, h3⟩
  have hx := List.getElem?_eq_getElem hk
  obtain ⟨bb, oo, r1, ld⟩ := ints_ref hl hx
  have ld := ld O σ
  rw [meetP_at hx] at h1
  generalize l[k] = x at *
  have f0 : (false == false) = true := rfl
  have f1 : (true == false) = false := rfl
  have dk : decide ((k : Int) < (l.length : Int)) = true := decide_eq_true (by omega)
  have d0 : decide ((0 : Int) ≤ (k : Int)) = true := decide_eq_true (by omega)
  by_cases c1 : x < 1
  ·have d1 : decide (x < 1) = true := decide_eq_true c1
   simp (maxSteps := 2000000) -implicitDefEqProofs (disch := (first | omega | rfl | assumption | (simp only [rsD]; first | omega | assumption))) only [haymowref40_Right_L1, hb, dk, d0, r1, ld, d1, f0, f1, Int.toNat_natCast, Nat.reduceAdd, Nat.reduceMul, Nat.reduceLT, Int.reduceToNat, Int.reduceAdd, Int.reduceSub, Int.reduceMul, rsU, rsC]
   exact Ok_some.2 ⟨rfl, by rw [h1, if_neg (by omega)]⟩
  have d1 : decide (x < 1) = false := decide_eq_false c1
  by_cases c2 : x > n
  ·have d2 : decide (x > (n : Int)) = true := decide_eq_true c2
   simp (maxSteps := 2000000) -implicitDefEqProofs (disch := (first | omega | rfl | assumption | (simp only [rsD]; first | omega | assumption))) only [haymowref40_Right_L1, hb, dk, d0, r1, ld, d1, d2, f0, f1, Int.toNat_natCast, Nat.reduceAdd, Nat.reduceMul, Nat.reduceLT, Int.reduceToNat, Int.reduceAdd, Int.reduceSub, Int.reduceMul, rsU, rsC]
   exact Ok_some.2 ⟨rfl, by rw [h1, if_neg (by omega)]⟩
  have d2 : decide (x > (n : Int)) = false := decide_eq_false c2
  have ew : IntKind.i64.wrap (m + 1) = m + 1 := i64_id (by omega) (by omega)
  by_cases c3 : x > m + 1
  ·have d3 : decide (x > m + 1) = true := decide_eq_true c3
   simp (maxSteps := 2000000) -implicitDefEqProofs (disch := (first | omega | rfl | assumption | (simp only [rsD]; first | omega | assumption))) only [haymowref40_Right_L1, hb, dk, d0, r1, ld, d1, d2, ew, d3, f0, f1, Int.toNat_natCast, Nat.reduceAdd, Nat.reduceMul, Nat.reduceLT, Int.reduceToNat, Int.reduceAdd, Int.reduceSub, Int.reduceMul, rsU, rsC]
   exact Ok_some.2 ⟨rfl, by rw [h1, if_neg (by omega)]⟩
  have d3 : decide (x > m + 1) = false := decide_eq_false c3
  simp (maxSteps := 2000000) -implicitDefEqProofs (disch := (first | omega | rfl | assumption | (simp only [rsD]; first | omega | assumption))) only [haymowref40_Right_L1, hb, dk, d0, r1, ld, d1, d2, ew, d3, f0, f1, Int.toNat_natCast, Nat.reduceAdd, Nat.reduceMul, Nat.reduceLT, Int.reduceToNat, Int.reduceAdd, Int.reduceSub, Int.reduceMul, rsU, rsC]
  refine Ok_some.2 ⟨max m x, ?_, by rw [h1, if_pos (by omega)], by omega, by omega⟩
  rw [max_if]; rfl
 ·rintro _ ⟨m, rfl, h1, h2, h3⟩
  rw [List.drop_length] at h1
  have dk : decide ((l.length : Int) < (l.length : Int)) = false := decide_eq_false (by omega)
  simp (maxSteps := 2000000) -implicitDefEqProofs (disch := (first | omega | rfl | assumption | (simp only [rsD]; first | omega | assumption))) only [haymowref40_Right_L1, hb, dk, Nat.reduceAdd, Nat.reduceMul, Nat.reduceLT, Int.reduceToNat, Int.reduceAdd, Int.reduceSub, Int.reduceMul, rsU, rsC]
  exact Ok_some.2 ⟨m, rfl, h1, h2, h3⟩
theorem rptrs_ok {σ0 σ : AH O} {r : List AV × AH O} {a an : SA} {l : List Int} {n el el' : Nat} {m : Int} {x1 x2 y0 y1 y2 y3 y4 y6 : AV} (hb : σ.blk σ0.next = some (.cells true el [.sl an n, x1, x2])) (hc : σ.blk r.2.next = some (.cells true el' [y0, y1, y2, y3, y4, .sl a l.length, y6]))
  (hl : Ints .i64 a l) (hs : l.length ≤ 1000000) (hn : n ≤ 1000000) (hm : 0 ≤ m ∧ m ≤ n) :
  Ok (loopF (S := List AV × AH O) (T := (List AV × AH O) ⊕ ((List AV × AH O) ⊕ ((List AV × AH O) ⊕ (AV × AH O)))) (haymowref40_Right_L3 r σ0) ([.i .i64 m, .i .i64 0], σ)) fun r => match r with
   | .inl s => ∃ m', s = ([.i .i64 m'], σ) ∧ meetP n 0 m l = some m' ∧ 0 ≤ m' ∧ m' ≤ n
   | .inr (.inl _) => False
   | .inr (.inr (.inl _)) => False
   | .inr (.inr (.inr r)) => r = (.b false, σ) ∧ meetP n 0 m l = none := by
 refine Ok.count l.length (fun k s => ∃ m', s = ([.i .i64 m', .i .i64 (k : Int)], σ) ∧ meetP n 0 m l = meetP n 0 m' (l.drop k) ∧ 0 ≤ m' ∧ m' ≤ n) ?_ ?_ ⟨m, rfl, rfl, hm.1, hm.2⟩
 ·rintro k _ hk ⟨m, rfl, h1, h2, h3⟩
  have hx := List.getElem?_eq_getElem hk
  obtain ⟨bb, oo, r1, ld⟩ := ints_ref hl hx
  have ld := ld O σ
  rw [meetP_at hx] at h1
  generalize l[k] = x at *
  have f0 : (false == false) = true := rfl
  have f1 : (true == false) = false := rfl
  have dk : decide ((k : Int) < (l.length : Int)) = true := decide_eq_true (by omega)
  have d0 : decide ((0 : Int) ≤ (k : Int)) = true := decide_eq_true (by omega)
  by_cases c1 : x < 0
  ·have d1 : decide (x < 0) = true := decide_eq_true c1
   simp (maxSteps := 2000000) -implicitDefEqProofs (disch := (first | omega | rfl | assumption | (simp only [rsD]; first | omega | assumption))) only [haymowref40_Right_L3, hb, hc, dk, d0, r1, ld, d1, f0, f1, Int.toNat_natCast, Nat.reduceAdd, Nat.reduceMul, Nat.reduceLT, Int.reduceToNat, Int.reduceAdd, Int.reduceSub, Int.reduceMul, rsU, rsC]
   exact Ok_some.2 ⟨rfl, by rw [h1, if_neg (by omega)]⟩
  have d1 : decide (x < 0) = false := decide_eq_false c1
  by_cases c2 : x > n
  ·have d2 : decide (x > (n : Int)) = true := decide_eq_true c2
   simp (maxSteps := 2000000) -implicitDefEqProofs (disch := (first | omega | rfl | assumption | (simp only [rsD]; first | omega | assumption))) only [haymowref40_Right_L3, hb, hc, dk, d0, r1, ld, d1, d2, f0, f1, Int.toNat_natCast, Nat.reduceAdd, Nat.reduceMul, Nat.reduceLT, Int.reduceToNat, Int.reduceAdd, Int.reduceSub, Int.reduceMul, rsU, rsC]
   exact Ok_some.2 ⟨rfl, by rw [h1, if_neg (by omega)]⟩
  have d2 : decide (x > (n : Int)) = false := decide_eq_false c2
  have ew : IntKind.i64.wrap (m + 1) = m + 1 := i64_id (by omega) (by omega)
  by_cases c3 : x > m + 1
  ·have d3 : decide (x > m + 1) = true := decide_eq_true c3
   simp (maxSteps := 2000000) -implicitDefEqProofs (disch := (first | omega | rfl | assumption | (simp only [rsD]; first | omega | assumption))) only [haymowref40_Right_L3, hb, hc, dk, d0, r1, ld, d1, d2, ew, d3, f0, f1, Int.toNat_natCast, Nat.reduceAdd, Nat.reduceMul, Nat.reduceLT, Int.reduceToNat, Int.reduceAdd, Int.reduceSub, Int.reduceMul, rsU, rsC]
   exact Ok_some.2 ⟨rfl, by rw [h1, if_neg (by omega)]⟩
  have d3 : decide (x > m + 1) = false := decide_eq_false c3
  simp (maxSteps := 2000000) -implicitDefEqProofs (disch := (first | omega | rfl | assumption | (simp only [rsD]; first | omega | assumption))) only [haymowref40_Right_L3, hb, hc, dk, d0, r1, ld, d1, d2, ew, d3, f0, f1, Int.toNat_natCast, Nat.reduceAdd, Nat.reduceMul, Nat.reduceLT, Int.reduceToNat, Int.reduceAdd, Int.reduceSub, Int.reduceMul, rsU, rsC]
  refine Ok_some.2 ⟨max m x, ?_, by rw [h1, if_pos (by omega)], by omega, by omega⟩
  rw [max_if]; rfl
 ·rintro _ ⟨m, rfl, h1, h2, h3⟩
  rw [List.drop_length] at h1
  have dk : decide ((l.length : Int) < (l.length : Int)) = false := decide_eq_false (by omega)
  simp (maxSteps := 2000000) -implicitDefEqProofs (disch := (first | omega | rfl | assumption | (simp only [rsD]; first | omega | assumption))) only [haymowref40_Right_L3, hb, hc, dk, Nat.reduceAdd, Nat.reduceMul, Nat.reduceLT, Int.reduceToNat, Int.reduceAdd, Int.reduceSub, Int.reduceMul, rsU, rsC]
  exact Ok_some.2 ⟨m, rfl, h1, h2, h3⟩
theorem nodesR_cons {n i met : Int} {x : NV} {N : List NV} : nodesR n i met (x :: N) = (decide (i < met) && (hdP x.h && (decide ((x.P.length : Int) = x.h.p) && (decide ((x.R.length : Int) = x.h.r) && (match meetP n 0 met x.P with | none => false | some m => nodesR n (i + 1) m N))))) := rfl
theorem rnodes_ok {σ0 σ : AH O} {a : SA} {l : List NV} {el : Nat} {m : Int} {x1 x2 : AV} (h0 : σ0.next < σ.next) (hb : σ.blk σ0.next = some (.cells true el [.sl a l.length, x1, x2]))
  (hl : NodesR σ a l) (hs : l.length ≤ 1000000) (hf : ∀ x ∈ l, x.P.length ≤ 1000000) (hm : 0 ≤ m ∧ m ≤ l.length) :
  Ok (loopF (S := List AV × AH O) (T := (List AV × AH O) ⊕ (AV × AH O)) (haymowref40_Right_L2 σ0 haymowref12_Check) ([.i .i64 m, .i .i64 0], σ)) fun r => match r with
   | .inl s => s.1 = [] ∧ nodesR l.length 0 m l = true ∧ Ext σ s.2
   | .inr r => r.1 = .b false ∧ nodesR l.length 0 m l = false ∧ Ext σ r.2 := by
 refine Ok.count l.length (fun k s => ∃ m' σ', s = ([.i .i64 m', .i .i64 (k : Int)], σ') ∧ nodesR l.length 0 m l = nodesR l.length k m' (l.drop k) ∧ 0 ≤ m' ∧ m' ≤ l.length ∧ Ext σ σ') ?_ ?_ ⟨m, σ, rfl, rfl, hm.1, hm.2, Ext.refl _⟩
 ·rintro k _ hk ⟨m, σ, rfl, h1, h2, h3, E⟩
  have hx := List.getElem?_eq_getElem hk
  have hxP := hf _ (List.getElem_mem hk)
  obtain ⟨bb, oo, c, d, r1, hc, l0, l1, l2, l3, l4, l5, l6⟩ := (hl.ext (E.bump 1)).node hx
  rw [List.drop_eq_getElem_cons hk, nodesR_cons] at h1
  generalize l[k] = x at *
  have hb := (E.blk _ h0).trans hb
  have hlt := Nat.lt_of_lt_of_le h0 E.next
  have f0 : (false == false) = true := rfl
  have f1 : (true == false) = false := rfl
  have dk : decide ((k : Int) < (l.length : Int)) = true := decide_eq_true (by omega)
  have d0 : decide ((0 : Int) ≤ (k : Int)) = true := decide_eq_true (by omega)
  simp (maxSteps := 2000000) -implicitDefEqProofs (disch := (first | omega | rfl | assumption | (simp only [rsD]; first | omega | assumption))) only [haymowref40_Right_L2, hb, dk, d0, r1, l0, l1, l2, l3, l4, l5, l6, Int.toNat_natCast, Nat.reduceAdd, Nat.reduceMul, Nat.reduceLT, Int.reduceToNat, Int.reduceAdd, Int.reduceSub, Int.reduceMul, rsU, rsC]
  generalize hσ : (σ.bump 1).put σ.next _ = σ2
  obtain ⟨E2, n2, b2⟩ := box1 hσ
  clear hσ
  have E02 := E.trans E2
  by_cases c1 : m ≤ (k : Int)
  ·have d1 : decide (m ≤ (k : Int)) = true := decide_eq_true c1
   simp (maxSteps := 2000000) -implicitDefEqProofs (disch := (first | omega | rfl | assumption | (simp only [rsD]; first | omega | assumption))) only [d1, f0, f1, Nat.reduceAdd, Nat.reduceMul, Nat.reduceLT, Int.reduceToNat, Int.reduceAdd, Int.reduceSub, Int.reduceMul, rsU, rsC]
   exact Ok_some.2 ⟨rfl, by rw [h1, decide_eq_false (by omega)]; rfl, E02⟩
  have d1 : decide (m ≤ (k : Int)) = false := decide_eq_false c1
  rw [decide_eq_true (show (k : Int) < m by omega), Bool.true_and] at h1
  simp (maxSteps := 2000000) -implicitDefEqProofs (disch := (first | omega | rfl | assumption | (simp only [rsD]; first | omega | assumption))) only [d1, f0, f1, Nat.reduceAdd, Nat.reduceMul, Nat.reduceLT, Int.reduceToNat, Int.reduceAdd, Int.reduceSub, Int.reduceMul, rsU, rsC]
  refine Ok.step (rcheck_ok σ2 x.h) fun q ⟨⟨cc, g1, g2⟩, E3⟩ => ?_
  obtain ⟨q, σ3⟩ := q
  simp only at g1 E3
  subst g1
  have b3 := (E3.blk _ (by omega)).trans b2
  have E03 := E02.trans E3
  cases hh : hdP x.h with
  | false =>
   rw [hh] at g2 h1
   simp (maxSteps := 2000000) -implicitDefEqProofs (disch := (first | omega | rfl | assumption | (simp only [rsD]; first | omega | assumption))) only [g2, f0, f1, Nat.reduceAdd, Nat.reduceMul, Nat.reduceLT, Int.reduceToNat, Int.reduceAdd, Int.reduceSub, Int.reduceMul, rsU, rsC]
   exact Ok_some.2 ⟨rfl, by rw [h1]; rfl, E03⟩
  | true =>
  rw [hh] at g2
  rw [hh, Bool.true_and] at h1
  by_cases c2 : (x.P.length : Int) = x.h.p
  case neg =>
   have d2 : ((x.P.length : Int) == x.h.p) = false := beq_eq_false_iff_ne.2 c2
   simp (maxSteps := 2000000) -implicitDefEqProofs (disch := (first | omega | rfl | assumption | (simp only [rsD]; first | omega | assumption))) only [g2, b3, d2, f0, f1, Nat.reduceAdd, Nat.reduceMul, Nat.reduceLT, Int.reduceToNat, Int.reduceAdd, Int.reduceSub, Int.reduceMul, rsU, rsC]
   exact Ok_some.2 ⟨rfl, by rw [h1, decide_eq_false c2]; rfl, E03⟩
  have d2 : ((x.P.length : Int) == x.h.p) = true := beq_iff_eq.2 c2
  rw [decide_eq_true c2, Bool.true_and] at h1
  by_cases c3 : (x.R.length : Int) = x.h.r
  case neg =>
   have d3 : ((x.R.length : Int) == x.h.r) = false := beq_eq_false_iff_ne.2 c3
   simp (maxSteps := 2000000) -implicitDefEqProofs (disch := (first | omega | rfl | assumption | (simp only [rsD]; first | omega | assumption))) only [g2, b3, d2, d3, f0, f1, Nat.reduceAdd, Nat.reduceMul, Nat.reduceLT, Int.reduceToNat, Int.reduceAdd, Int.reduceSub, Int.reduceMul, rsU, rsC]
   exact Ok_some.2 ⟨rfl, by rw [h1, decide_eq_false c3]; rfl, E03⟩
  have d3 : ((x.R.length : Int) == x.h.r) = true := beq_iff_eq.2 c3
  rw [decide_eq_true c3, Bool.true_and] at h1
  simp (maxSteps := 2000000) -implicitDefEqProofs (disch := (first | omega | rfl | assumption | (simp only [rsD]; first | omega | assumption))) only [g2, b3, d2, d3, f0, f1, Nat.reduceAdd, Nat.reduceMul, Nat.reduceLT, Int.reduceToNat, Int.reduceAdd, Int.reduceSub, Int.reduceMul, rsU, rsC]
  have hb3 := ((E2.trans E3).blk _ hlt).trans hb
  refine Ok.bindS (rptrs_ok (r := ([.i .i64 m, .i .i64 (k : Int)], σ)) hb3 b3 hc hxP hs ⟨h2, h3⟩) (fun s hs' => ?_) (fun r hr => ?_)
  ·obtain ⟨m', rfl, k1, k2, k3⟩ := hs'
   rw [k1] at h1
   simp (maxSteps := 2000000) -implicitDefEqProofs (disch := (first | omega | rfl | assumption | (simp only [rsD]; first | omega | assumption))) only [Nat.reduceAdd, Nat.reduceMul, Nat.reduceLT, Int.reduceToNat, Int.reduceAdd, Int.reduceSub, Int.reduceMul, rsU, rsC]
   exact Ok_some.2 ⟨m', σ3, rfl, h1, k2, k3, E03⟩
  ·match r, hr with
   | .inr (.inr r), hr =>
    obtain ⟨rfl, k1⟩ := hr
    rw [k1] at h1
    exact ⟨rfl, h1, E03⟩
 ·rintro _ ⟨m, σ, rfl, h1, h2, h3, E⟩
  rw [List.drop_length] at h1
  have hb := (E.blk _ h0).trans hb
  have dk : decide ((l.length : Int) < (l.length : Int)) = false := decide_eq_false (by omega)
  simp (maxSteps := 2000000) -implicitDefEqProofs (disch := (first | omega | rfl | assumption | (simp only [rsD]; first | omega | assumption))) only [haymowref40_Right_L2, hb, dk, Nat.reduceAdd, Nat.reduceMul, Nat.reduceLT, Int.reduceToNat, Int.reduceAdd, Int.reduceSub, Int.reduceMul, rsU, rsC]
  exact Ok_some.2 ⟨rfl, h1, E⟩
theorem rweak_ok {σ0 σ : AH O} {a an : SA} {l : List Int} {n el : Nat} {x1 : AV} (hb : σ.blk σ0.next = some (.cells true el [.sl an n, x1, .sl a l.length])) (hl : Ints .i64 a l) (hs : l.length ≤ 1000000) :
  Ok (loopF (S := List AV × AH O) (T := (List AV × AH O) ⊕ (AV × AH O)) (haymowref40_Right_L4 σ0) ([.i .i64 0], σ)) fun r => match r with
   | .inl s => s = ([], σ) ∧ (l.all fun k => decide (0 ≤ k ∧ k ≤ (n : Int))) = true
   | .inr r => r = (.b false, σ) ∧ (l.all fun k => decide (0 ≤ k ∧ k ≤ (n : Int))) = false := by
 refine Ok.count l.length (fun k s => s = ([.i .i64 (k : Int)], σ) ∧ ∀ j, j < k → ∀ x, l[j]? = some x → 0 ≤ x ∧ x ≤ n) ?_ ?_ ⟨rfl, fun j hj => by omega⟩
 ·rintro k _ hk ⟨rfl, h1⟩
  have hx := List.getElem?_eq_getElem hk
  have hm := List.getElem_mem hk
  obtain ⟨bb, oo, r1, ld⟩ := ints_ref hl hx
  have ld := ld O σ
  generalize l[k] = x at *
  have f0 : (false == false) = true := rfl
  have f1 : (true == false) = false := rfl
  have dk : decide ((k : Int) < (l.length : Int)) = true := decide_eq_true (by omega)
  have d0 : decide ((0 : Int) ≤ (k : Int)) = true := decide_eq_true (by omega)
  have no : ¬ (0 ≤ x ∧ x ≤ (n : Int)) → (l.all fun k => decide (0 ≤ k ∧ k ≤ (n : Int))) = false := fun c => by
   cases h : (l.all fun k => decide (0 ≤ k ∧ k ≤ (n : Int))) with
   | false => rfl
   | true => exact absurd (of_decide_eq_true (List.all_eq_true.1 h _ hm)) c
  by_cases c1 : x < 0
  ·have d1 : decide (x < 0) = true := decide_eq_true c1
   simp (maxSteps := 2000000) -implicitDefEqProofs (disch := (first | omega | rfl | assumption | (simp only [rsD]; first | omega | assumption))) only [haymowref40_Right_L4, hb, dk, d0, r1, ld, d1, f0, f1, Int.toNat_natCast, Nat.reduceAdd, Nat.reduceMul, Nat.reduceLT, Int.reduceToNat, Int.reduceAdd, Int.reduceSub, Int.reduceMul, rsU, rsC]
   exact Ok_some.2 ⟨rfl, no (by omega)⟩
  have d1 : decide (x < 0) = false := decide_eq_false c1
  by_cases c2 : x > n
  ·have d2 : decide (x > (n : Int)) = true := decide_eq_true c2
   simp (maxSteps := 2000000) -implicitDefEqProofs (disch := (first | omega | rfl | assumption | (simp only [rsD]; first | omega | assumption))) only [haymowref40_Right_L4, hb, dk, d0, r1, ld, d1, d2, f0, f1, Int.toNat_natCast, Nat.reduceAdd, Nat.reduceMul, Nat.reduceLT, Int.reduceToNat, Int.reduceAdd, Int.reduceSub, Int.reduceMul, rsU, rsC]
   exact Ok_some.2 ⟨rfl, no (by omega)⟩
  have d2 : decide (x > (n : Int)) = false := decide_eq_false c2
  simp (maxSteps := 2000000) -implicitDefEqProofs (disch := (first | omega | rfl | assumption | (simp only [rsD]; first | omega | assumption))) only [haymowref40_Right_L4, hb, dk, d0, r1, ld, d1, d2, f0, f1, Int.toNat_natCast, Nat.reduceAdd, Nat.reduceMul, Nat.reduceLT, Int.reduceToNat, Int.reduceAdd, Int.reduceSub, Int.reduceMul, rsU, rsC]
  refine Ok_some.2 ⟨rfl, fun j hj y hy => ?_⟩
  by_cases e : j = k
  ·subst e
   rw [hx] at hy; cases hy; omega
  ·exact h1 j (by omega) y hy
 ·rintro _ ⟨rfl, h1⟩
  have dk : decide ((l.length : Int) < (l.length : Int)) = false := decide_eq_false (by omega)
  simp (maxSteps := 2000000) -implicitDefEqProofs (disch := (first | omega | rfl | assumption | (simp only [rsD]; first | omega | assumption))) only [haymowref40_Right_L4, hb, dk, Nat.reduceAdd, Nat.reduceMul, Nat.reduceLT, Int.reduceToNat, Int.reduceAdd, Int.reduceSub, Int.reduceMul, rsU, rsC]
  refine Ok_some.2 ⟨rfl, List.all_eq_true.2 fun x hx => decide_eq_true ?_⟩
  obtain ⟨j, hj⟩ := List.mem_iff_getElem?.1 hx
  exact h1 j (List.getElem?_eq_some_iff.1 hj).1 x hj
theorem rright_ok {σ : AH O} {F : FV} {v : AV} (hF : FRd σ F v) (hf : F.few) : Ok (haymowref40_Right [v] σ) fun r => r.1 = .b (rightP F) ∧ Ext σ r.2 := by
 obtain ⟨a, b, c, rfl, h1, h2, h3⟩ := hF.it
 have f1 := hf.n
 have f2 := hf.r
 have f3 := hf.w
 simp (maxSteps := 2000000) -implicitDefEqProofs (disch := (first | omega | rfl | assumption | (simp only [rsD]; first | omega | assumption))) only [haymowref40_Right, haymowref40_Right_c, Nat.reduceAdd, Nat.reduceMul, Nat.reduceLT, Int.reduceToNat, Int.reduceAdd, Int.reduceSub, Int.reduceMul, rsU, rsC]
 generalize hσ : (σ.bump 1).put σ.next _ = σ1
 obtain ⟨E1, n1, b1⟩ := box1 hσ
 clear hσ
 refine Ok.bindS (rroots_ok b1 h2 (by omega) (by omega)) (fun s hs => ?_) (fun r hr => ?_)
 ·obtain ⟨m, rfl, k1, k2, k3⟩ := hs
  simp (maxSteps := 2000000) -implicitDefEqProofs (disch := (first | omega | rfl | assumption | (simp only [rsD]; first | omega | assumption))) only [Nat.reduceAdd, Nat.reduceMul, Nat.reduceLT, Int.reduceToNat, Int.reduceAdd, Int.reduceSub, Int.reduceMul, rsU, rsC]
  refine Ok.bindS (rnodes_ok (by omega) b1 (h1.ext E1) (by omega) (fun x hx => by have := (hf.x x hx).p; omega) ⟨k2, k3⟩) (fun s hs => ?_) (fun r hr => ?_)
  ·obtain ⟨s, σ2⟩ := s
   obtain ⟨g1, g2, E2⟩ := hs
   simp only at g1 E2
   subst g1
   simp (maxSteps := 2000000) -implicitDefEqProofs (disch := (first | omega | rfl | assumption | (simp only [rsD]; first | omega | assumption))) only [Nat.reduceAdd, Nat.reduceMul, Nat.reduceLT, Int.reduceToNat, Int.reduceAdd, Int.reduceSub, Int.reduceMul, rsU, rsC]
   refine Ok.bindS (rweak_ok ((E2.blk _ (by omega)).trans b1) h3 (by omega)) (fun s hs => ?_) (fun r hr => ?_)
   ·obtain ⟨rfl, g3⟩ := hs
    refine Ok_some.2 ⟨?_, E1.trans E2⟩
    unfold rightP
    rw [k1]; simp only; rw [g2, g3]; rfl
   ·obtain ⟨rfl, g3⟩ := hr
    refine ⟨?_, E1.trans E2⟩
    unfold rightP
    rw [k1]; simp only; rw [g2, g3]; rfl
  ·obtain ⟨g1, g2, E2⟩ := hr
   refine ⟨?_, E1.trans E2⟩
   rw [g1]
   unfold rightP
   rw [k1]; simp only; rw [g2]; rfl
 ·obtain ⟨rfl, k1⟩ := hr
  refine ⟨?_, E1⟩
  unfold rightP
  rw [k1]; rfl
end Go.Abs.Tryz
namespace Go.Abs.Tryz
open Go Go.Abs
variable {O : Type}
theorem callW {p q v : AV} {σ : AH O} : callV [(44, canon_within_1)] (some (.func 44, [], [p, q])) [v] σ = canon_within_1 [v, p, q] σ := rfl
theorem within1_ok {σ : AH O} {p q el el' : Nat} {lo hi x : Int} (hp : σ.blk p = some (.cells true el [.i .i64 lo])) (hq : σ.blk q = some (.cells true el' [.i .i64 hi])) :
  canon_within_1 [.i .i64 x, .p (some (.n p, 0)), .p (some (.n q, 0))] σ = some (.b (!decide (lo ≤ x ∧ x ≤ hi)), σ) := by
 have f0 : (false == false) = true := rfl
 have f1 : (true == false) = false := rfl
 by_cases c1 : x < lo
 ·have d1 : decide (x < lo) = true := decide_eq_true c1
  simp (maxSteps := 2000000) -implicitDefEqProofs (disch := (first | omega | rfl | assumption | (simp only [rsD]; first | omega | assumption))) only [canon_within_1, canon_within_1_c, hp, hq, d1, f0, f1, Nat.reduceAdd, Nat.reduceMul, Nat.reduceLT, Int.reduceToNat, Int.reduceAdd, Int.reduceSub, Int.reduceMul, rsU, rsC]
 ·have d1 : decide (x < lo) = false := decide_eq_false c1
  by_cases c2 : x > hi
  ·have d2 : decide (x > hi) = true := decide_eq_true c2
   simp (maxSteps := 2000000) -implicitDefEqProofs (disch := (first | omega | rfl | assumption | (simp only [rsD]; first | omega | assumption))) only [canon_within_1, canon_within_1_c, hp, hq, d1, d2, f0, f1, Nat.reduceAdd, Nat.reduceMul, Nat.reduceLT, Int.reduceToNat, Int.reduceAdd, Int.reduceSub, Int.reduceMul, rsU, rsC]
  ·have d2 : decide (x > hi) = false := decide_eq_false c2
   simp (maxSteps := 2000000) -implicitDefEqProofs (disch := (first | omega | rfl | assumption | (simp only [rsD]; first | omega | assumption))) only [canon_within_1, canon_within_1_c, hp, hq, d1, d2, f0, f1, Nat.reduceAdd, Nat.reduceMul, Nat.reduceLT, Int.reduceToNat, Int.reduceAdd, Int.reduceSub, Int.reduceMul, rsU, rsC]
abbrev allIn (lo hi : Int) (l : List Int) : Bool := l.all fun k => decide (lo ≤ k ∧ k ≤ hi)
theorem index_ok {σ : AH O} {a : SA} {l : List Int} {p q el el' : Nat} {lo hi : Int} (hl : Ints .i64 a l) (hs : l.length ≤ 1000000) (hp : σ.blk p = some (.cells true el [.i .i64 lo])) (hq : σ.blk q = some (.cells true el' [.i .i64 hi])) :
  Ok (slices_IndexFunc___int_int_ [.sl a l.length, .fn (some (.func 44, [], [.p (some (.n p, 0)), .p (some (.n q, 0))]))] σ) fun r => r.2 = σ ∧ ∃ k, r.1 = .i .i64 k ∧ decide (k ≥ 0) = !allIn lo hi l := by
 simp (maxSteps := 2000000) -implicitDefEqProofs (disch := (first | omega | rfl | assumption | (simp only [rsD]; first | omega | assumption))) only [slices_IndexFunc___int_int_, slices_IndexFunc___int_int__c, Nat.reduceAdd, Nat.reduceMul, Nat.reduceLT, Int.reduceToNat, Int.reduceAdd, Int.reduceSub, Int.reduceMul, rsU, rsC]
 refine Ok.bindS (Q := fun r => match r with
   | .inl s => s.2 = σ ∧ allIn lo hi l = true
   | .inr r => r.2 = σ ∧ ∃ k, r.1 = .i .i64 k ∧ k ≥ 0 ∧ allIn lo hi l = false) ?_ (fun s hs => ?_) (fun r hr => ?_)
 ·refine Ok.count l.length (fun k s => s = ([.i .i64 (k : Int)], σ) ∧ ∀ j, j < k → ∀ x, l[j]? = some x → lo ≤ x ∧ x ≤ hi) ?_ ?_ ⟨rfl, fun j hj => by omega⟩
  ·rintro k _ hk ⟨rfl, h1⟩
   have hx := List.getElem?_eq_getElem hk
   have hm := List.getElem_mem hk
   obtain ⟨bb, oo, r1, ld⟩ := ints_ref hl hx
   have ld := ld O σ
   generalize l[k] = x at *
   have dk : decide ((k : Int) < (l.length : Int)) = true := decide_eq_true (by omega)
   have d0 : decide ((0 : Int) ≤ (k : Int)) = true := decide_eq_true (by omega)
   cases c : decide (lo ≤ x ∧ x ≤ hi) with
   | true =>
    simp (maxSteps := 2000000) -implicitDefEqProofs (disch := (first | omega | rfl | assumption | (simp only [rsD]; first | omega | assumption))) only [slices_IndexFunc___int_int__L1, dk, d0, r1, ld, Int.toNat_natCast, callW, within1_ok hp hq, c, Nat.reduceAdd, Nat.reduceMul, Nat.reduceLT, Int.reduceToNat, Int.reduceAdd, Int.reduceSub, Int.reduceMul, rsU, rsC]
    refine Ok_some.2 ⟨rfl, fun j hj y hy => ?_⟩
    by_cases e : j = k
    ·subst e
     rw [hx] at hy; cases hy; exact of_decide_eq_true c
    ·exact h1 j (by omega) y hy
   | false =>
    simp (maxSteps := 2000000) -implicitDefEqProofs (disch := (first | omega | rfl | assumption | (simp only [rsD]; first | omega | assumption))) only [slices_IndexFunc___int_int__L1, dk, d0, r1, ld, Int.toNat_natCast, callW, within1_ok hp hq, c, Nat.reduceAdd, Nat.reduceMul, Nat.reduceLT, Int.reduceToNat, Int.reduceAdd, Int.reduceSub, Int.reduceMul, rsU, rsC]
    refine Ok_some.2 ⟨rfl, _, rfl, by omega, ?_⟩
    cases h : allIn lo hi l with
    | false => rfl
    | true => exact absurd (of_decide_eq_true (List.all_eq_true.1 h _ hm)) (of_decide_eq_false c)
  ·rintro _ ⟨rfl, h1⟩
   have dk : decide ((l.length : Int) < (l.length : Int)) = false := decide_eq_false (by omega)
   simp (maxSteps := 2000000) -implicitDefEqProofs (disch := (first | omega | rfl | assumption | (simp only [rsD]; first | omega | assumption))) only [slices_IndexFunc___int_int__L1, dk, Nat.reduceAdd, Nat.reduceMul, Nat.reduceLT, Int.reduceToNat, Int.reduceAdd, Int.reduceSub, Int.reduceMul, rsU, rsC]
   refine Ok_some.2 ⟨rfl, List.all_eq_true.2 fun x hx => decide_eq_true ?_⟩
   obtain ⟨j, hj⟩ := List.mem_iff_getElem?.1 hx
   exact h1 j (List.getElem?_eq_some_iff.1 hj).1 x hj
 ·obtain ⟨h1, h2⟩ := hs
  exact Ok_some.2 ⟨h1, -1, rfl, by rw [h2]; rfl⟩
 ·obtain ⟨h1, k, h2, h3, h4⟩ := hr
  exact ⟨h1, k, h2, by rw [h4, decide_eq_true h3]; rfl⟩
theorem within_ok {σ : AH O} {a : SA} {l : List Int} {lo hi : Int} (hl : Ints .i64 a l) (hs : l.length ≤ 1000000) :
  Ok (canon_within [.sl a l.length, .i .i64 lo, .i .i64 hi] σ) fun r => r.1 = .b (allIn lo hi l) ∧ Ext σ r.2 := by
 simp (maxSteps := 2000000) -implicitDefEqProofs (disch := (first | omega | rfl | assumption | (simp only [rsD]; first | omega | assumption))) only [canon_within, canon_within_c, slices_ContainsFunc___int_int_, slices_ContainsFunc___int_int__c, Nat.reduceAdd, Nat.reduceMul, Nat.reduceLT, Int.reduceToNat, Int.reduceAdd, Int.reduceSub, Int.reduceMul, rsU, rsC]
 generalize hσ : ((σ.bump 2).put σ.next _).put (σ.next + 1) _ = σ1
 obtain ⟨E1, n1, b1, b2⟩ := box2 hσ
 clear hσ
 refine Ok.step (index_ok hl hs b1 b2) fun r ⟨e1, k, e2, e3⟩ => ?_
 obtain ⟨r, σ2⟩ := r
 simp only at e1 e2
 subst e1 e2
 simp (maxSteps := 2000000) -implicitDefEqProofs (disch := (first | omega | rfl | assumption | (simp only [rsD]; first | omega | assumption))) only [e3, Nat.reduceAdd, Nat.reduceMul, Nat.reduceLT, Int.reduceToNat, Int.reduceAdd, Int.reduceSub, Int.reduceMul, rsU, rsC]
 refine Ok_some.2 ⟨?_, E1⟩
 cases allIn lo hi l <;> rfl
def meetC : Int → List Int → Option Int
 | met, [] => some met
 | met, k :: l => if k ≤ met + 1 then meetC (max met k) l else none
theorem meetC_at {met : Int} {l : List Int} {k : Nat} {x : Int} (hx : l[k]? = some x) : meetC met (l.drop k) = if x ≤ met + 1 then meetC (max met x) (l.drop (k + 1)) else none := by
 have hk : k < l.length := (List.getElem?_eq_some_iff.1 hx).1
 have he : l[k] = x := (List.getElem?_eq_some_iff.1 hx).2
 rw [List.drop_eq_getElem_cons hk, he]
 rfl
theorem allIn_cons {lo hi k : Int} {l : List Int} : allIn lo hi (k :: l) = (decide (lo ≤ k ∧ k ≤ hi) && allIn lo hi l) := rfl
theorem meet_split {n least : Int} : ∀ {l : List Int} {met : Int}, meetP n least met l = bif allIn least n l then meetC met l else none
 | [], met => rfl
 | k :: l, met => by
  rw [allIn_cons]
  simp only [meetP, meetC]
  by_cases c1 : least ≤ k ∧ k ≤ n
  ·rw [decide_eq_true c1, Bool.true_and, meet_split (l := l)]
   by_cases c2 : k ≤ met + 1
   ·rw [if_pos ⟨c1.1, c1.2, c2⟩, if_pos c2]
   ·rw [if_neg (fun h => c2 h.2.2), if_neg c2]; cases allIn least n l <;> rfl
  ·rw [decide_eq_false c1, Bool.false_and, if_neg (fun h => c1 ⟨h.1, h.2.1⟩)]; rfl
theorem meet_ok {σ : AH O} {a : SA} {l : List Int} {p el n : Nat} {m : Int} (hl : Ints .i64 a l) (hs : l.length ≤ 1000000) (hn : n ≤ 1000000) (hp : σ.blk p = some (.cells true el [.i .i64 m])) (hm : 0 ≤ m ∧ m ≤ n) (hle : allIn 0 n l = true) :
  Ok (canon_Right_1 [.sl a l.length, .p (some (.n p, 0))] σ) fun r => r.1 = .b (meetC m l).isSome ∧ Chg [p] σ r.2 ∧ ∀ m', meetC m l = some m' → r.2.blk p = some (.cells true el [.i .i64 m']) ∧ 0 ≤ m' ∧ m' ≤ n := by
 simp (maxSteps := 2000000) -implicitDefEqProofs (disch := (first | omega | rfl | assumption | (simp only [rsD]; first | omega | assumption))) only [canon_Right_1, canon_Right_1_c, Nat.reduceAdd, Nat.reduceMul, Nat.reduceLT, Int.reduceToNat, Int.reduceAdd, Int.reduceSub, Int.reduceMul, rsU, rsC]
 refine Ok.bindS (Q := fun r => match r with
   | .inl s => ∃ m', meetC m l = some m' ∧ s.2.blk p = some (.cells true el [.i .i64 m']) ∧ 0 ≤ m' ∧ m' ≤ n ∧ Chg [p] σ s.2
   | .inr r => r.1 = .b false ∧ meetC m l = none ∧ Chg [p] σ r.2) ?_ (fun s hs => ?_) (fun r hr => ?_)
 ·refine Ok.count l.length (fun k s => ∃ m' σ', s = ([.i .i64 (k : Int)], σ') ∧ meetC m l = meetC m' (l.drop k) ∧ σ'.blk p = some (.cells true el [.i .i64 m']) ∧ 0 ≤ m' ∧ m' ≤ n ∧ Chg [p] σ σ') ?_ ?_ ⟨m, σ, rfl, rfl, hp, hm.1, hm.2, Chg.refl _ _⟩
  ·rintro k _ hk ⟨m', σ', rfl, h1, h2, h3, h4, C⟩
   have hx := List.getElem?_eq_getElem hk
   have hr := of_decide_eq_true (List.all_eq_true.1 hle _ (List.getElem_mem hk))
   obtain ⟨bb, oo, r1, ld⟩ := ints_ref hl hx
   have ld := ld O σ'
   rw [meetC_at hx] at h1
   generalize l[k] = x at *
   have dk : decide ((k : Int) < (l.length : Int)) = true := decide_eq_true (by omega)
   have d0 : decide ((0 : Int) ≤ (k : Int)) = true := decide_eq_true (by omega)
   have ew : IntKind.i64.wrap (m' + 1) = m' + 1 := i64_id (by omega) (by omega)
   by_cases c1 : x > m' + 1
   ·have d1 : decide (x > m' + 1) = true := decide_eq_true c1
    simp (maxSteps := 2000000) -implicitDefEqProofs (disch := (first | omega | rfl | assumption | (simp only [rsD]; first | omega | assumption))) only [canon_Right_1_L1, dk, d0, r1, ld, h2, ew, d1, Int.toNat_natCast, Nat.reduceAdd, Nat.reduceMul, Nat.reduceLT, Int.reduceToNat, Int.reduceAdd, Int.reduceSub, Int.reduceMul, rsU, rsC]
    exact Ok_some.2 ⟨rfl, by rw [h1, if_neg (by omega)], C⟩
   have d1 : decide (x > m' + 1) = false := decide_eq_false c1
   simp (maxSteps := 2000000) -implicitDefEqProofs (disch := (first | omega | rfl | assumption | (simp only [rsD]; first | omega | assumption))) only [canon_Right_1_L1, dk, d0, r1, ld, h2, ew, d1, Int.toNat_natCast, Nat.reduceAdd, Nat.reduceMul, Nat.reduceLT, Int.reduceToNat, Int.reduceAdd, Int.reduceSub, Int.reduceMul, rsU, rsC]
   refine Ok_some.2 ⟨max m' x, _, rfl, by rw [h1, if_pos (by omega)], ?_, by omega, by omega, C.put (by simp) _⟩
   rw [s_bs, max_if]
  ·rintro _ ⟨m', σ', rfl, h1, h2, h3, h4, C⟩
   rw [List.drop_length] at h1
   have dk : decide ((l.length : Int) < (l.length : Int)) = false := decide_eq_false (by omega)
   simp (maxSteps := 2000000) -implicitDefEqProofs (disch := (first | omega | rfl | assumption | (simp only [rsD]; first | omega | assumption))) only [canon_Right_1_L1, dk, Nat.reduceAdd, Nat.reduceMul, Nat.reduceLT, Int.reduceToNat, Int.reduceAdd, Int.reduceSub, Int.reduceMul, rsU, rsC]
   exact Ok_some.2 ⟨m', h1, h2, h3, h4, C⟩
 ·obtain ⟨m', h1, h2, h3, h4, C⟩ := hs
  exact Ok_some.2 ⟨by rw [h1]; rfl, C, fun m2 e => by rw [h1] at e; cases e; exact ⟨h2, h3, h4⟩⟩
 ·obtain ⟨h1, h2, C⟩ := hr
  exact ⟨by rw [h1, h2]; rfl, C, fun m2 e => by rw [h2] at e; cases e⟩
theorem cnodes_ok {σ : AH O} {a : SA} {l : List NV} {s16 : List AV × AH O} {sa : SA} {el : Nat} {m : Int} (hp : σ.blk s16.2.next = some (.cells true el [.i .i64 m])) (hlt : s16.2.next < σ.next)
  (hl : NodesR σ a l) (hpa : s16.2.next ∉ SA.bk a) (hs : l.length ≤ 1000000) (hf : ∀ x ∈ l, x.P.length ≤ 1000000) (hm : 0 ≤ m ∧ m ≤ l.length) :
  Ok (loopF (S := List AV × AH O) (T := (List AV × AH O) ⊕ (AV × AH O)) (canon_Right_L1 (a, l.length) s16 header_Check canon_within (sa, l.length) canon_Right_1) ([.i .i64 0], σ)) fun r => match r with
   | .inl s => s.1 = [] ∧ nodesR l.length 0 m l = true ∧ Chg [s16.2.next] σ s.2
   | .inr r => r.1 = .b false ∧ nodesR l.length 0 m l = false ∧ Chg [s16.2.next] σ r.2 := by
 refine Ok.count l.length (fun k s => ∃ m' σ', s = ([.i .i64 (k : Int)], σ') ∧ nodesR l.length 0 m l = nodesR l.length k m' (l.drop k) ∧ 0 ≤ m' ∧ m' ≤ l.length ∧ Chg [s16.2.next] σ σ' ∧ σ'.blk s16.2.next = some (.cells true el [.i .i64 m'])) ?_ ?_ ⟨m, σ, rfl, rfl, hm.1, hm.2, Chg.refl _ _, hp⟩
 ·rintro k _ hk ⟨m, σ, rfl, h1, h2, h3, C, hp⟩
  have hx := List.getElem?_eq_getElem hk
  have hxP := hf _ (List.getElem_mem hk)
  obtain ⟨bb, oo, c, d, r1, hc, l0, l1, l2, l3, l4, l5, l6⟩ := (hl.of (C.bump 1).next fun b hb => (C.bump 1).blk b (hl.lt b hb) (by simp; intro h; exact hpa (h ▸ hb))).node hx
  rw [List.drop_eq_getElem_cons hk, nodesR_cons] at h1
  generalize l[k] = x at *
  have hlt := Nat.lt_of_lt_of_le hlt C.next
  have f0 : (false == false) = true := rfl
  have f1 : (true == false) = false := rfl
  have dk : decide ((k : Int) < (l.length : Int)) = true := decide_eq_true (by omega)
  have d0 : decide ((0 : Int) ≤ (k : Int)) = true := decide_eq_true (by omega)
  simp (maxSteps := 2000000) -implicitDefEqProofs (disch := (first | omega | rfl | assumption | (simp only [rsD]; first | omega | assumption))) only [canon_Right_L1, dk, d0, r1, l0, l1, l2, l3, l4, l5, l6, Int.toNat_natCast, Nat.reduceAdd, Nat.reduceMul, Nat.reduceLT, Int.reduceToNat, Int.reduceAdd, Int.reduceSub, Int.reduceMul, rsU, rsC]
  generalize hσ : (σ.bump 1).put σ.next _ = σ2
  obtain ⟨E2, n2, b2⟩ := box1 hσ
  clear hσ
  have C2 := C.trans E2.chg
  have hp2 := (E2.blk _ hlt).trans hp
  by_cases c1 : (k : Int) ≥ m
  ·have d1 : decide ((k : Int) ≥ m) = true := decide_eq_true c1
   simp (maxSteps := 2000000) -implicitDefEqProofs (disch := (first | omega | rfl | assumption | (simp only [rsD]; first | omega | assumption))) only [hp, d1, f0, f1, Nat.reduceAdd, Nat.reduceMul, Nat.reduceLT, Int.reduceToNat, Int.reduceAdd, Int.reduceSub, Int.reduceMul, rsU, rsC]
   exact Ok_some.2 ⟨rfl, by rw [h1, decide_eq_false (by omega)]; rfl, C2⟩
  have d1 : decide ((k : Int) ≥ m) = false := decide_eq_false c1
  rw [decide_eq_true (show (k : Int) < m by omega), Bool.true_and] at h1
  simp (maxSteps := 2000000) -implicitDefEqProofs (disch := (first | omega | rfl | assumption | (simp only [rsD]; first | omega | assumption))) only [hp, d1, f0, f1, Nat.reduceAdd, Nat.reduceMul, Nat.reduceLT, Int.reduceToNat, Int.reduceAdd, Int.reduceSub, Int.reduceMul, rsU, rsC]
  refine Ok.step (checkV_ok σ2 x.h) fun q ⟨⟨cc, g1, g2⟩, E3⟩ => ?_
  obtain ⟨q, σ3⟩ := q
  simp only at g1 E3
  subst g1
  have b3 := (E3.blk _ (by omega)).trans b2
  have hp3 := (E3.blk _ (by omega)).trans hp2
  have C3 := C2.trans E3.chg
  cases hh : hdP x.h with
  | false =>
   rw [hh] at g2 h1
   simp (maxSteps := 2000000) -implicitDefEqProofs (disch := (first | omega | rfl | assumption | (simp only [rsD]; first | omega | assumption))) only [g2, f0, f1, Nat.reduceAdd, Nat.reduceMul, Nat.reduceLT, Int.reduceToNat, Int.reduceAdd, Int.reduceSub, Int.reduceMul, rsU, rsC]
   exact Ok_some.2 ⟨rfl, by rw [h1]; rfl, C3⟩
  | true =>
  rw [hh] at g2
  rw [hh, Bool.true_and] at h1
  by_cases c2 : (x.P.length : Int) = x.h.p
  case neg =>
   have d2 : ((x.P.length : Int) == x.h.p) = false := beq_eq_false_iff_ne.2 c2
   simp (maxSteps := 2000000) -implicitDefEqProofs (disch := (first | omega | rfl | assumption | (simp only [rsD]; first | omega | assumption))) only [g2, b3, d2, f0, f1, Nat.reduceAdd, Nat.reduceMul, Nat.reduceLT, Int.reduceToNat, Int.reduceAdd, Int.reduceSub, Int.reduceMul, rsU, rsC]
   exact Ok_some.2 ⟨rfl, by rw [h1, decide_eq_false c2]; rfl, C3⟩
  have d2 : ((x.P.length : Int) == x.h.p) = true := beq_iff_eq.2 c2
  rw [decide_eq_true c2, Bool.true_and] at h1
  by_cases c3 : (x.R.length : Int) = x.h.r
  case neg =>
   have d3 : ((x.R.length : Int) == x.h.r) = false := beq_eq_false_iff_ne.2 c3
   simp (maxSteps := 2000000) -implicitDefEqProofs (disch := (first | omega | rfl | assumption | (simp only [rsD]; first | omega | assumption))) only [g2, b3, d2, d3, f0, f1, Nat.reduceAdd, Nat.reduceMul, Nat.reduceLT, Int.reduceToNat, Int.reduceAdd, Int.reduceSub, Int.reduceMul, rsU, rsC]
   exact Ok_some.2 ⟨rfl, by rw [h1, decide_eq_false c3]; rfl, C3⟩
  have d3 : ((x.R.length : Int) == x.h.r) = true := beq_iff_eq.2 c3
  rw [decide_eq_true c3, Bool.true_and, meet_split] at h1
  simp (maxSteps := 2000000) -implicitDefEqProofs (disch := (first | omega | rfl | assumption | (simp only [rsD]; first | omega | assumption))) only [g2, b3, d2, d3, f0, f1, Nat.reduceAdd, Nat.reduceMul, Nat.reduceLT, Int.reduceToNat, Int.reduceAdd, Int.reduceSub, Int.reduceMul, rsU, rsC]
  refine Ok.step (within_ok (lo := 0) (hi := (l.length : Int)) hc hxP) fun q ⟨g3, E4⟩ => ?_
  obtain ⟨q, σ4⟩ := q
  simp only at g3 E4
  subst g3
  have n3 := E3.next
  have b4 := (E4.blk _ (by omega)).trans b3
  have hp4 := (E4.blk _ (by omega)).trans hp3
  have C4 := C3.trans E4.chg
  cases hw : allIn 0 l.length x.P with
  | false =>
   rw [hw] at h1
   simp (maxSteps := 2000000) -implicitDefEqProofs (disch := (first | omega | rfl | assumption | (simp only [rsD]; first | omega | assumption))) only [f0, f1, Nat.reduceAdd, Nat.reduceMul, Nat.reduceLT, Int.reduceToNat, Int.reduceAdd, Int.reduceSub, Int.reduceMul, rsU, rsC]
   exact Ok_some.2 ⟨rfl, by rw [h1]; rfl, C4⟩
  | true =>
  rw [hw] at h1
  simp (maxSteps := 2000000) -implicitDefEqProofs (disch := (first | omega | rfl | assumption | (simp only [rsD]; first | omega | assumption))) only [b4, f0, f1, Nat.reduceAdd, Nat.reduceMul, Nat.reduceLT, Int.reduceToNat, Int.reduceAdd, Int.reduceSub, Int.reduceMul, rsU, rsC]
  refine Ok.step (meet_ok hc hxP hs hp4 ⟨h2, h3⟩ hw) fun q ⟨g4, C5, g5⟩ => ?_
  obtain ⟨q, σ5⟩ := q
  simp only at g4 C5 g5
  subst g4
  cases hmm : meetC m x.P with
  | none =>
   rw [hmm] at h1
   simp (maxSteps := 2000000) -implicitDefEqProofs (disch := (first | omega | rfl | assumption | (simp only [rsD]; first | omega | assumption))) only [Option.isSome, f0, f1, Nat.reduceAdd, Nat.reduceMul, Nat.reduceLT, Int.reduceToNat, Int.reduceAdd, Int.reduceSub, Int.reduceMul, rsU, rsC]
   exact Ok_some.2 ⟨rfl, by rw [h1]; rfl, C4.trans C5⟩
  | some m' =>
   rw [hmm] at h1
   obtain ⟨p1, p2, p3⟩ := g5 m' hmm
   simp (maxSteps := 2000000) -implicitDefEqProofs (disch := (first | omega | rfl | assumption | (simp only [rsD]; first | omega | assumption))) only [Option.isSome, f0, f1, Nat.reduceAdd, Nat.reduceMul, Nat.reduceLT, Int.reduceToNat, Int.reduceAdd, Int.reduceSub, Int.reduceMul, rsU, rsC]
   exact Ok_some.2 ⟨m', σ5, rfl, h1, p2, p3, C4.trans C5, p1⟩
 ·rintro _ ⟨m, σ, rfl, h1, h2, h3, C, hp⟩
  rw [List.drop_length] at h1
  have dk : decide ((l.length : Int) < (l.length : Int)) = false := decide_eq_false (by omega)
  simp (maxSteps := 2000000) -implicitDefEqProofs (disch := (first | omega | rfl | assumption | (simp only [rsD]; first | omega | assumption))) only [canon_Right_L1, dk, Nat.reduceAdd, Nat.reduceMul, Nat.reduceLT, Int.reduceToNat, Int.reduceAdd, Int.reduceSub, Int.reduceMul, rsU, rsC]
  exact Ok_some.2 ⟨rfl, h1, C⟩
theorem right_ok {σ : AH O} {F : FV} {v : AV} (hF : FRd σ F v) (hf : F.few) : Ok (canon_Right [v] σ) fun r => r.1 = .b (rightP F) ∧ Ext σ r.2 := by
 obtain ⟨a, b, c, rfl, h1, h2, h3⟩ := hF.it
 have q1 := hf.n
 have q2 := hf.r
 have q3 := hf.w
 have f0 : (false == false) = true := rfl
 have f1 : (true == false) = false := rfl
 have hR : rightP F = ((bif allIn 1 F.nodes.length F.roots then (match meetC 0 F.roots with | none => false | some m => nodesR F.nodes.length 0 m F.nodes) else false) && allIn 0 F.nodes.length F.weak) := by
  unfold rightP
  rw [meet_split]
  cases allIn 1 F.nodes.length F.roots <;> rfl
 simp (maxSteps := 2000000) -implicitDefEqProofs (disch := (first | omega | rfl | assumption | (simp only [rsD]; first | omega | assumption))) only [canon_Right, canon_Right_c, Nat.reduceAdd, Nat.reduceMul, Nat.reduceLT, Int.reduceToNat, Int.reduceAdd, Int.reduceSub, Int.reduceMul, rsU, rsC]
 generalize hσ : (σ.bump 1).put σ.next _ = σ1
 obtain ⟨E1, n1, b1⟩ := box1 hσ
 clear hσ
 refine Ok.step (within_ok (lo := 1) (hi := (F.nodes.length : Int)) h2 (by omega)) fun q ⟨g1, E2⟩ => ?_
 obtain ⟨q, σ2⟩ := q
 simp only at g1 E2
 subst g1
 have b2 := (E2.blk _ (by omega)).trans b1
 have E02 := E1.trans E2
 cases hw : allIn 1 F.nodes.length F.roots with
 | false =>
  rw [hw] at hR
  simp (maxSteps := 2000000) -implicitDefEqProofs (disch := (first | omega | rfl | assumption | (simp only [rsD]; first | omega | assumption))) only [f0, f1, Nat.reduceAdd, Nat.reduceMul, Nat.reduceLT, Int.reduceToNat, Int.reduceAdd, Int.reduceSub, Int.reduceMul, rsU, rsC]
  exact Ok_some.2 ⟨by rw [hR]; rfl, E02⟩
 | true =>
 rw [hw] at hR
 simp (maxSteps := 2000000) -implicitDefEqProofs (disch := (first | omega | rfl | assumption | (simp only [rsD]; first | omega | assumption))) only [b2, f0, f1, Nat.reduceAdd, Nat.reduceMul, Nat.reduceLT, Int.reduceToNat, Int.reduceAdd, Int.reduceSub, Int.reduceMul, rsU, rsC]
 refine Ok.step (within_ok (lo := 0) (hi := (F.nodes.length : Int)) h3 (by omega)) fun q ⟨g1, E3⟩ => ?_
 obtain ⟨q, σ3⟩ := q
 simp only at g1 E3
 subst g1
 have n2 := E2.next
 have b3 := (E3.blk _ (by omega)).trans b2
 have E03 := E02.trans E3
 cases hw2 : allIn 0 F.nodes.length F.weak with
 | false =>
  rw [hw2, Bool.and_false] at hR
  simp (maxSteps := 2000000) -implicitDefEqProofs (disch := (first | omega | rfl | assumption | (simp only [rsD]; first | omega | assumption))) only [f0, f1, Nat.reduceAdd, Nat.reduceMul, Nat.reduceLT, Int.reduceToNat, Int.reduceAdd, Int.reduceSub, Int.reduceMul, rsU, rsC]
  exact Ok_some.2 ⟨by rw [hR], E03⟩
 | true =>
 rw [hw2, Bool.and_true] at hR
 have n3 := E03.next
 have n3' := E3.next
 simp (maxSteps := 2000000) -implicitDefEqProofs (disch := (first | omega | rfl | assumption | (simp only [rsD]; first | omega | assumption))) only [b3, f0, f1, Nat.reduceAdd, Nat.reduceMul, Nat.reduceLT, Int.reduceToNat, Int.reduceAdd, Int.reduceSub, Int.reduceMul, rsU, rsC]
 generalize hσ : (σ3.bump 1).put σ3.next _ = σ4
 obtain ⟨E4, n4, b4⟩ := box1 hσ
 clear hσ
 have b4' := (E4.blk _ (by omega)).trans b3
 have E04 := E03.trans E4
 refine Ok.step (meet_ok h2 (by omega) (n := F.nodes.length) (by omega) b4 ⟨by omega, by omega⟩ (by
  refine List.all_eq_true.2 fun x hx => ?_
  have := of_decide_eq_true (List.all_eq_true.1 hw x hx)
  exact decide_eq_true (by omega))) fun q ⟨g4, C5, g5⟩ => ?_
 obtain ⟨q, σ5⟩ := q
 simp only at g4 C5 g5
 subst g4
 cases hmm : meetC 0 F.roots with
 | none =>
  rw [hmm] at hR
  simp (maxSteps := 2000000) -implicitDefEqProofs (disch := (first | omega | rfl | assumption | (simp only [rsD]; first | omega | assumption))) only [Option.isSome, f0, f1, Nat.reduceAdd, Nat.reduceMul, Nat.reduceLT, Int.reduceToNat, Int.reduceAdd, Int.reduceSub, Int.reduceMul, rsU, rsC]
  exact Ok_some.2 ⟨by rw [hR]; rfl, Chg.new E04 (by simp; omega) C5⟩
 | some m' =>
  rw [hmm] at hR
  obtain ⟨p1, p2, p3⟩ := g5 m' hmm
  have b5 := (C5.blk _ (by omega) (by simp; omega)).trans b4'
  have n5 := C5.next
  simp (maxSteps := 2000000) -implicitDefEqProofs (disch := (first | omega | rfl | assumption | (simp only [rsD]; first | omega | assumption))) only [Option.isSome, b5, f0, f1, Nat.reduceAdd, Nat.reduceMul, Nat.reduceLT, Int.reduceToNat, Int.reduceAdd, Int.reduceSub, Int.reduceMul, rsU, rsC]
  refine Ok.bindS (cnodes_ok (s16 := ([.b false], σ3)) p1 (show σ3.next < σ5.next by omega) ((h1.ext E04).of C5.next fun b hb => C5.blk b (by have := h1.lt b hb; have := E04.next; omega) (by simp; have := h1.lt b hb; have := E03.next; omega)) (fun h => by have h9 : σ3.next < σ.next := h1.lt _ h; have := E03.next; omega) (by omega) (fun x hx => by have := (hf.x x hx).p; omega) ⟨p2, p3⟩) (fun s hs => ?_) (fun r hr => ?_)
  ·obtain ⟨k1, k2, k3⟩ := hs
   exact Ok_some.2 ⟨by rw [hR]; show AV.b true = AV.b (nodesR _ 0 m' _); rw [k2], Chg.new E04 (by simp; omega) (C5.trans k3)⟩
  ·obtain ⟨k1, k2, k3⟩ := hr
   exact ⟨by rw [k1, hR]; show AV.b false = AV.b (nodesR _ 0 m' _); rw [k2], Chg.new E04 (by simp; omega) (C5.trans k3)⟩
end Go.Abs.Tryz
namespace Go.Abs.Tryz
open Go Go.Abs
variable {O : Type}
theorem same02 {σ : AH O} {a b : SA} {l m : List Int} (ha : Ints .i64 a l) (hb : Ints .i64 b m) (hl : l.length ≤ 100000) (hm : m.length ≤ 100000) : Ok (haymowref02_Same [.sl a l.length, .sl b m.length] σ) fun r => r = (.b (decide (l = m)), σ) := by
 by_cases c : l.length = m.length
 ·have q0 : ((l.length : Int) == (m.length : Int)) = true := s_eqT (by omega)
  simp (maxSteps := 2000000) -implicitDefEqProofs (disch := (first | omega | rfl | assumption | (simp only [rsD]; first | omega | assumption))) only [haymowref02_Same, haymowref02_Same_c, q0, Nat.reduceAdd, Nat.reduceMul, Nat.reduceLT, Int.reduceToNat, Int.reduceAdd, Int.reduceSub, Int.reduceMul, rsU, rsC]
  refine Ok.bindS (Q := fun r => (l = m ∧ r = .inl ([], σ)) ∨ (l ≠ m ∧ r = .inr (.b false, σ))) ?_ ?_ ?_
  ·refine eq_loop c (fun k s => s = ([.i .i64 (k : Int)], σ)) _ ?_ ?_ rfl
   ·rintro k s hk rfl
    obtain ⟨x, hx⟩ : ∃ x, l[k]? = some x := ⟨_, List.getElem?_eq_getElem hk⟩
    obtain ⟨y, hy⟩ : ∃ y, m[k]? = some y := ⟨_, List.getElem?_eq_getElem (by omega)⟩
    obtain ⟨b1, o1, rfl, l1⟩ := ha.at hx
    obtain ⟨b2, o2, rfl, l2⟩ := hb.at hy
    rw [hx, hy]
    by_cases e : x = y
    ·have q1 := s_eqT e
     simp (maxSteps := 2000000) -implicitDefEqProofs (disch := (first | omega | rfl | assumption | (simp only [rsD]; first | omega | assumption))) only [haymowref02_Same_L1, l1, l2, q1, Nat.reduceAdd, Nat.reduceMul, Nat.reduceLT, Int.reduceToNat, Int.reduceAdd, Int.reduceSub, Int.reduceMul, rsU, rsC]
     exact Ok_some.2 (by rw [if_pos (by rw [e])]; simp)
    ·have q1 := s_eqF e
     simp (maxSteps := 2000000) -implicitDefEqProofs (disch := (first | omega | rfl | assumption | (simp only [rsD]; first | omega | assumption))) only [haymowref02_Same_L1, l1, l2, q1, Nat.reduceAdd, Nat.reduceMul, Nat.reduceLT, Int.reduceToNat, Int.reduceAdd, Int.reduceSub, Int.reduceMul, rsU, rsC]
     exact Ok_some.2 (by rw [if_neg (by simp [e])]; exact fun h => .inr ⟨h, rfl⟩)
   ·rintro s rfl
    simp (maxSteps := 2000000) -implicitDefEqProofs (disch := (first | omega | rfl | assumption | (simp only [rsD]; first | omega | assumption))) only [haymowref02_Same_L1, Nat.reduceAdd, Nat.reduceMul, Nat.reduceLT, Int.reduceToNat, Int.reduceAdd, Int.reduceSub, Int.reduceMul, rsU, rsC]
    exact Ok_some.2 fun h => .inl ⟨h, rfl⟩
  ·rintro s (⟨e, hs⟩ | ⟨_, hs⟩)
   ·cases hs
    exact Ok_some.2 (by simp [e])
   ·cases hs
  ·rintro r (⟨_, hs⟩ | ⟨e, hs⟩)
   ·cases hs
   ·cases hs; simp [e]
 ·have q0 : ((l.length : Int) == (m.length : Int)) = false := s_eqF (by omega)
  simp (maxSteps := 2000000) -implicitDefEqProofs (disch := (first | omega | rfl | assumption | (simp only [rsD]; first | omega | assumption))) only [haymowref02_Same, haymowref02_Same_c, q0, Nat.reduceAdd, Nat.reduceMul, Nat.reduceLT, Int.reduceToNat, Int.reduceAdd, Int.reduceSub, Int.reduceMul, rsU, rsC]
  exact Ok_some.2 (by rw [decide_eq_false (fun e => c (by rw [e]))])
theorem same05 {σ : AH O} {a b : SA} {l m : List Int} (ha : Ints .u64 a l) (hb : Ints .u64 b m) (hl : l.length ≤ 100000) (hm : m.length ≤ 100000) : Ok (haymowref05_Same [.sl a l.length, .sl b m.length] σ) fun r => r = (.b (decide (l = m)), σ) := by
 by_cases c : l.length = m.length
 ·have q0 : ((l.length : Int) == (m.length : Int)) = true := s_eqT (by omega)
  simp (maxSteps := 2000000) -implicitDefEqProofs (disch := (first | omega | rfl | assumption | (simp only [rsD]; first | omega | assumption))) only [haymowref05_Same, haymowref05_Same_c, q0, Nat.reduceAdd, Nat.reduceMul, Nat.reduceLT, Int.reduceToNat, Int.reduceAdd, Int.reduceSub, Int.reduceMul, rsU, rsC]
  refine Ok.bindS (Q := fun r => (l = m ∧ r = .inl ([], σ)) ∨ (l ≠ m ∧ r = .inr (.b false, σ))) ?_ ?_ ?_
  ·refine eq_loop c (fun k s => s = ([.i .i64 (k : Int)], σ)) _ ?_ ?_ rfl
   ·rintro k s hk rfl
    obtain ⟨x, hx⟩ : ∃ x, l[k]? = some x := ⟨_, List.getElem?_eq_getElem hk⟩
    obtain ⟨y, hy⟩ : ∃ y, m[k]? = some y := ⟨_, List.getElem?_eq_getElem (by omega)⟩
    obtain ⟨b1, o1, rfl, l1⟩ := ha.at hx
    obtain ⟨b2, o2, rfl, l2⟩ := hb.at hy
    rw [hx, hy]
    by_cases e : x = y
    ·have q1 := s_eqT e
     simp (maxSteps := 2000000) -implicitDefEqProofs (disch := (first | omega | rfl | assumption | (simp only [rsD]; first | omega | assumption))) only [haymowref05_Same_L1, l1, l2, q1, Nat.reduceAdd, Nat.reduceMul, Nat.reduceLT, Int.reduceToNat, Int.reduceAdd, Int.reduceSub, Int.reduceMul, rsU, rsC]
     exact Ok_some.2 (by rw [if_pos (by rw [e])]; simp)
    ·have q1 := s_eqF e
     simp (maxSteps := 2000000) -implicitDefEqProofs (disch := (first | omega | rfl | assumption | (simp only [rsD]; first | omega | assumption))) only [haymowref05_Same_L1, l1, l2, q1, Nat.reduceAdd, Nat.reduceMul, Nat.reduceLT, Int.reduceToNat, Int.reduceAdd, Int.reduceSub, Int.reduceMul, rsU, rsC]
     exact Ok_some.2 (by rw [if_neg (by simp [e])]; exact fun h => .inr ⟨h, rfl⟩)
   ·rintro s rfl
    simp (maxSteps := 2000000) -implicitDefEqProofs (disch := (first | omega | rfl | assumption | (simp only [rsD]; first | omega | assumption))) only [haymowref05_Same_L1, Nat.reduceAdd, Nat.reduceMul, Nat.reduceLT, Int.reduceToNat, Int.reduceAdd, Int.reduceSub, Int.reduceMul, rsU, rsC]
    exact Ok_some.2 fun h => .inl ⟨h, rfl⟩
  ·rintro s (⟨e, hs⟩ | ⟨_, hs⟩)
   ·cases hs
    exact Ok_some.2 (by simp [e])
   ·cases hs
  ·rintro r (⟨_, hs⟩ | ⟨e, hs⟩)
   ·cases hs
   ·cases hs; simp [e]
 ·have q0 : ((l.length : Int) == (m.length : Int)) = false := s_eqF (by omega)
  simp (maxSteps := 2000000) -implicitDefEqProofs (disch := (first | omega | rfl | assumption | (simp only [rsD]; first | omega | assumption))) only [haymowref05_Same, haymowref05_Same_c, q0, Nat.reduceAdd, Nat.reduceMul, Nat.reduceLT, Int.reduceToNat, Int.reduceAdd, Int.reduceSub, Int.reduceMul, rsU, rsC]
  exact Ok_some.2 (by rw [decide_eq_false (fun e => c (by rw [e]))])
theorem hv_eq (x y : HV) : (((x.p == y.p) && (x.r == y.r)) && ((x.site == y.site) && ((x.age == y.age) && (x.large == y.large)))) = decide (x = y) := by
 cases x; cases y
 rw [Bool.eq_iff_iff]
 simp only [Bool.and_eq_true, beq_iff_eq, decide_eq_true_eq, HV.mk.injEq, and_assoc]
theorem is_ok {σ : AH O} {F G : FV} {v w : AV} (hF : F.At v) (hG : G.At w) (fF : F.few) (fG : G.few) : Ok (law40_Is [v, w] σ) fun r => r.1 = .b (decide (F = G)) ∧ Ext σ r.2 := by
 obtain ⟨a1, b1, c1, rfl, i1, i2, i3⟩ := hF.it
 obtain ⟨a2, b2, c2, rfl, j1, j2, j3⟩ := hG.it
 have fn := fF.n
 have gn := fG.n
 obtain ⟨fN, fR, fW⟩ := F
 obtain ⟨gN, gR, gW⟩ := G
 simp only at *
 by_cases e0 : fN.length = gN.length
 ·have q0 := s_eqT (show (fN.length : Int) = gN.length by omega)
  simp (maxSteps := 2000000) -implicitDefEqProofs (disch := (first | omega | rfl | assumption | (simp only [rsD]; first | omega | assumption))) only [law40_Is, law40_Is_c, q0, Nat.reduceAdd, Nat.reduceMul, Nat.reduceLT, Int.reduceToNat, Int.reduceAdd, Int.reduceSub, Int.reduceMul, rsU, rsC]
  refine Ok.step (same02 i2 j2 fF.r fG.r) fun r g => ?_
  subst g
  by_cases e1 : fR = gR
  ·have q1 := decide_eq_true e1
   simp (maxSteps := 2000000) -implicitDefEqProofs (disch := (first | omega | rfl | assumption | (simp only [rsD]; first | omega | assumption))) only [q1, Nat.reduceAdd, Nat.reduceMul, Nat.reduceLT, Int.reduceToNat, Int.reduceAdd, Int.reduceSub, Int.reduceMul, rsU, rsC]
   refine Ok.step (same02 i3 j3 fF.w fG.w) fun r g => ?_
   subst g
   by_cases e2 : fW = gW
   ·have q2 := decide_eq_true e2
    simp (maxSteps := 2000000) -implicitDefEqProofs (disch := (first | omega | rfl | assumption | (simp only [rsD]; first | omega | assumption))) only [q2, Nat.reduceAdd, Nat.reduceMul, Nat.reduceLT, Int.reduceToNat, Int.reduceAdd, Int.reduceSub, Int.reduceMul, rsU, rsC]
    generalize hs : AH.put (AH.put _ _ _) (σ.next + 1) _ = s1
    have x0 : s1.blk σ.next = some (.cells true T_canon_Form [.sl a1 fN.length, .sl b1 fR.length, .sl c1 fW.length]) := by rw [← hs]; ((try simp only [rsD] at *); simp -implicitDefEqProofs (disch := (first | omega | rfl | assumption | (simp only [rsD]; first | omega | assumption))) only [s_bs, s_bn, s_kn, bump_blk])
    have x1 : s1.blk (σ.next + 1) = some (.cells true T_haymowref40_Form [.sl a2 gN.length, .sl b2 gR.length, .sl c2 gW.length]) := by rw [← hs]; ((try simp only [rsD] at *); simp -implicitDefEqProofs (disch := (first | omega | rfl | assumption | (simp only [rsD]; first | omega | assumption))) only [s_bs, s_bn, s_kn, bump_blk])
    have E : Ext σ s1 := by rw [← hs]; exact (ext_of (by (try simp only [rsD] at *); omega) (fun b hb => by (try simp only [rsD] at *); simp -implicitDefEqProofs (disch := (first | omega | rfl | assumption | (simp only [rsD]; first | omega | assumption))) only [s_bn, s_kn, bump_blk]))
    clear hs
    refine Ok.bindS (Q := fun r => (r = .inl ([], s1) ∧ ∀ k, k < gN.length → fN[k]? = gN[k]?) ∨ (fN ≠ gN ∧ r = .inr (.b false, s1))) ?_ ?_ ?_
    ·refine Ok.count gN.length (fun k s => s = ([.i .i64 (k : Int)], s1) ∧ ∀ j, j < k → fN[j]? = gN[j]?) ?_ ?_ ⟨rfl, fun j h => by omega⟩
     ·rintro k s hk ⟨rfl, ih⟩
      obtain ⟨x, hx⟩ : ∃ x, fN[k]? = some x := ⟨_, List.getElem?_eq_getElem (by omega)⟩
      obtain ⟨y, hy⟩ : ∃ y, gN[k]? = some y := ⟨_, List.getElem?_eq_getElem hk⟩
      obtain ⟨u1, o1, p1, q1', rfl, hp1, hq1, l1⟩ := i1.node hx
      obtain ⟨u2, o2, p2, q2', rfl, hp2, hq2, l2⟩ := j1.node hy
      have fx := fF.x x (List.mem_of_getElem? hx)
      have fy := fG.x y (List.mem_of_getElem? hy)
      have q := hv_eq x.h y.h
      have bf : (false == false) = true := rfl
      have bt : (true == false) = false := rfl
      have no : x ≠ y → fN ≠ gN := fun h e => h (by rw [e, hy] at hx; cases hx; rfl)
      by_cases h1 : x.h = y.h
      ·rw [decide_eq_true h1] at q
       simp (maxSteps := 2000000) -implicitDefEqProofs (disch := (first | omega | rfl | assumption | (simp only [rsD]; first | omega | assumption))) only [law40_Is_L1, x0, x1, l1, l2, q, bf, bt, Nat.reduceAdd, Nat.reduceMul, Nat.reduceLT, Int.reduceToNat, Int.reduceAdd, Int.reduceSub, Int.reduceMul, rsU, rsC]
       refine Ok.step (same02 hp1 hp2 fx.p fy.p) fun r g => ?_
       subst g
       by_cases h2 : x.P = y.P
       ·have d2 := decide_eq_true h2
        simp (maxSteps := 2000000) -implicitDefEqProofs (disch := (first | omega | rfl | assumption | (simp only [rsD]; first | omega | assumption))) only [x0, x1, l1, l2, d2, bf, bt, Nat.reduceAdd, Nat.reduceMul, Nat.reduceLT, Int.reduceToNat, Int.reduceAdd, Int.reduceSub, Int.reduceMul, rsU, rsC]
        refine Ok.step (same05 hq1 hq2 fx.r fy.r) fun r g => ?_
        subst g
        by_cases h3 : x.R = y.R
        ·have d3 := decide_eq_true h3
         simp (maxSteps := 2000000) -implicitDefEqProofs (disch := (first | omega | rfl | assumption | (simp only [rsD]; first | omega | assumption))) only [d3, Nat.reduceAdd, Nat.reduceMul, Nat.reduceLT, Int.reduceToNat, Int.reduceAdd, Int.reduceSub, Int.reduceMul, rsU, rsC]
         refine Ok_some.2 ⟨by simp, fun j hj => ?_⟩
         by_cases ej : j = k
         ·subst ej; rw [hx, hy]; obtain ⟨xh, xP, xR⟩ := x; obtain ⟨yh, yP, yR⟩ := y; simp only at h1 h2 h3; rw [h1, h2, h3]
         ·exact ih j (by omega)
        ·have d3 := decide_eq_false h3
         simp (maxSteps := 2000000) -implicitDefEqProofs (disch := (first | omega | rfl | assumption | (simp only [rsD]; first | omega | assumption))) only [d3, Nat.reduceAdd, Nat.reduceMul, Nat.reduceLT, Int.reduceToNat, Int.reduceAdd, Int.reduceSub, Int.reduceMul, rsU, rsC]
         exact Ok_some.2 (.inr ⟨no fun e => h3 (by rw [e]), rfl⟩)
       ·have d2 := decide_eq_false h2
        simp (maxSteps := 2000000) -implicitDefEqProofs (disch := (first | omega | rfl | assumption | (simp only [rsD]; first | omega | assumption))) only [d2, bf, bt, Nat.reduceAdd, Nat.reduceMul, Nat.reduceLT, Int.reduceToNat, Int.reduceAdd, Int.reduceSub, Int.reduceMul, rsU, rsC]
        exact Ok_some.2 (.inr ⟨no fun e => h2 (by rw [e]), rfl⟩)
      ·rw [decide_eq_false h1] at q
       simp (maxSteps := 2000000) -implicitDefEqProofs (disch := (first | omega | rfl | assumption | (simp only [rsD]; first | omega | assumption))) only [law40_Is_L1, x0, x1, l1, l2, q, bf, bt, Nat.reduceAdd, Nat.reduceMul, Nat.reduceLT, Int.reduceToNat, Int.reduceAdd, Int.reduceSub, Int.reduceMul, rsU, rsC]
       exact Ok_some.2 (.inr ⟨no fun e => h1 (by rw [e]), rfl⟩)
     ·rintro s ⟨rfl, ih⟩
      simp (maxSteps := 2000000) -implicitDefEqProofs (disch := (first | omega | rfl | assumption | (simp only [rsD]; first | omega | assumption))) only [law40_Is_L1, x0, x1, Nat.reduceAdd, Nat.reduceMul, Nat.reduceLT, Int.reduceToNat, Int.reduceAdd, Int.reduceSub, Int.reduceMul, rsU, rsC]
      exact Ok_some.2 (.inl ⟨rfl, ih⟩)
    ·rintro _ (⟨e, ih⟩ | ⟨_, e⟩)
     ·cases e
      have e3 : fN = gN := List.ext_getElem? fun k => by
       by_cases c : k < gN.length
       ·exact ih k c
       ·rw [List.getElem?_eq_none (by omega), List.getElem?_eq_none (by omega)]
      exact Ok_some.2 ⟨by simp [e1, e2, e3], E⟩
     ·cases e
    ·rintro _ (⟨e, ih⟩ | ⟨no, e⟩)
     ·cases e
     ·cases e; exact ⟨by simp [no], E⟩
   ·have q2 := decide_eq_false e2
    simp (maxSteps := 2000000) -implicitDefEqProofs (disch := (first | omega | rfl | assumption | (simp only [rsD]; first | omega | assumption))) only [q2, Nat.reduceAdd, Nat.reduceMul, Nat.reduceLT, Int.reduceToNat, Int.reduceAdd, Int.reduceSub, Int.reduceMul, rsU, rsC]
    exact Ok_some.2 ⟨by simp [e2], (ext_of (by (try simp only [rsD] at *); omega) (fun b hb => by (try simp only [rsD] at *); simp -implicitDefEqProofs (disch := (first | omega | rfl | assumption | (simp only [rsD]; first | omega | assumption))) only [s_bn, s_kn, bump_blk]))⟩
  ·have q1 := decide_eq_false e1
   simp (maxSteps := 2000000) -implicitDefEqProofs (disch := (first | omega | rfl | assumption | (simp only [rsD]; first | omega | assumption))) only [q1, Nat.reduceAdd, Nat.reduceMul, Nat.reduceLT, Int.reduceToNat, Int.reduceAdd, Int.reduceSub, Int.reduceMul, rsU, rsC]
   exact Ok_some.2 ⟨by simp [e1], (ext_of (by (try simp only [rsD] at *); omega) (fun b hb => by (try simp only [rsD] at *); simp -implicitDefEqProofs (disch := (first | omega | rfl | assumption | (simp only [rsD]; first | omega | assumption))) only [s_bn, s_kn, bump_blk]))⟩
 ·have q0 := s_eqF (show ¬ (fN.length : Int) = gN.length by omega)
  simp (maxSteps := 2000000) -implicitDefEqProofs (disch := (first | omega | rfl | assumption | (simp only [rsD]; first | omega | assumption))) only [law40_Is, law40_Is_c, q0, Nat.reduceAdd, Nat.reduceMul, Nat.reduceLT, Int.reduceToNat, Int.reduceAdd, Int.reduceSub, Int.reduceMul, rsU, rsC]
  exact Ok_some.2 ⟨by rw [decide_eq_false (fun e => by cases e; exact e0 rfl)], (ext_of (by (try simp only [rsD] at *); omega) (fun b hb => by (try simp only [rsD] at *); simp -implicitDefEqProofs (disch := (first | omega | rfl | assumption | (simp only [rsD]; first | omega | assumption))) only [s_bn, s_kn, bump_blk]))⟩
end Go.Abs.Tryz
namespace Go.Abs.Tryz
open Go Go.Abs
variable {O : Type}
def shP (p r : Int) : Bool := decide ((0 ≤ p ∧ p < 4096) ∧ (0 ≤ r ∧ r < 4096))
def wordsP (p r : Int) : Int := bif shP p r then 1 + p + r else 0
def chargeP (p r s : Int) : Int := bif decide (wordsP p r > 0) && decide (wordsP p r > s) then wordsP p r + 6 else wordsP p r
theorem wordsP_rng (p r : Int) : 0 ≤ wordsP p r ∧ wordsP p r ≤ 8191 := by
 unfold wordsP
 cases h : shP p r with
 | true =>
  have := of_decide_eq_true h
  simp only [cond_true]; omega
 | false => simp only [cond_false]; omega
theorem chargeP_rng (p r s : Int) : 0 ≤ chargeP p r s ∧ chargeP p r s ≤ 8197 := by
 have := wordsP_rng p r
 unfold chargeP
 cases (decide (wordsP p r > 0) && decide (wordsP p r > s)) with
 | true => simp only [cond_true]; omega
 | false => simp only [cond_false]; omega
theorem hdP0 (p r : Int) : hdP ⟨p, r, 0, 0, false⟩ = shP p r := by
 unfold hdP shP
 rw [Bool.eq_iff_iff, decide_eq_true_eq, decide_eq_true_eq]
 simp only
 omega
theorem cshape_ok (σ : AH O) (p r : Int) : Ok (shape_Right [.agg [.i .i64 p, .i .i64 r]] σ) fun q => q.1 = .b (shP p r) ∧ Ext σ q.2 := by
 simp (maxSteps := 2000000) -implicitDefEqProofs (disch := (first | omega | rfl | assumption | (simp only [rsD]; first | omega | assumption))) only [shape_Right, shape_Right_c, Nat.reduceAdd, Nat.reduceMul, Nat.reduceLT, Int.reduceToNat, Int.reduceAdd, Int.reduceSub, Int.reduceMul, rsU, rsC]
 refine Ok.step (checkV_ok _ ⟨p, r, 0, 0, false⟩) fun q ⟨⟨c, g1, g2⟩, E⟩ => ?_
 obtain ⟨q, σ1⟩ := q
 simp only at g1 E
 subst g1
 rw [hdP0] at g2
 simp (maxSteps := 2000000) -implicitDefEqProofs (disch := (first | omega | rfl | assumption | (simp only [rsD]; first | omega | assumption))) only [g2, Nat.reduceAdd, Nat.reduceMul, Nat.reduceLT, Int.reduceToNat, Int.reduceAdd, Int.reduceSub, Int.reduceMul, rsU, rsC]
 exact Ok_some.2 ⟨rfl, (((Ext.refl σ).bump 1).put (Nat.le_refl _) _).trans E⟩
theorem swords_ok (σ : AH O) (p r : Int) : Ok (shape_Words [.agg [.i .i64 p, .i .i64 r]] σ) fun q => q.1 = .i .i64 (wordsP p r) ∧ Ext σ q.2 := by
 simp (maxSteps := 2000000) -implicitDefEqProofs (disch := (first | omega | rfl | assumption | (simp only [rsD]; first | omega | assumption))) only [shape_Words, shape_Words_c, Nat.reduceAdd, Nat.reduceMul, Nat.reduceLT, Int.reduceToNat, Int.reduceAdd, Int.reduceSub, Int.reduceMul, rsU, rsC]
 generalize hσ : (σ.bump 1).put σ.next _ = σ1
 obtain ⟨E1, n1, b1⟩ := box1 hσ
 clear hσ
 refine Ok.step (cshape_ok σ1 p r) fun q ⟨g1, E2⟩ => ?_
 obtain ⟨q, σ2⟩ := q
 simp only at g1 E2
 subst g1
 have b2 := (E2.blk _ (by omega)).trans b1
 unfold wordsP
 cases h : shP p r with
 | false =>
  simp (maxSteps := 2000000) -implicitDefEqProofs (disch := (first | omega | rfl | assumption | (simp only [rsD]; first | omega | assumption))) only [Nat.reduceAdd, Nat.reduceMul, Nat.reduceLT, Int.reduceToNat, Int.reduceAdd, Int.reduceSub, Int.reduceMul, rsU, rsC]
  exact Ok_some.2 ⟨rfl, E1.trans E2⟩
 | true =>
  have hh := of_decide_eq_true h
  have e1 : IntKind.i64.wrap (1 + p) = 1 + p := i64_id (by omega) (by omega)
  have e2 : IntKind.i64.wrap (1 + p + r) = 1 + p + r := i64_id (by omega) (by omega)
  simp (maxSteps := 2000000) -implicitDefEqProofs (disch := (first | omega | rfl | assumption | (simp only [rsD]; first | omega | assumption))) only [b2, header_Words, header_Words_c, e1, e2, Nat.reduceAdd, Nat.reduceMul, Nat.reduceLT, Int.reduceToNat, Int.reduceAdd, Int.reduceSub, Int.reduceMul, rsU, rsC]
  exact Ok_some.2 ⟨rfl, (E1.trans E2).trans (((Ext.refl σ2).bump 1).put (Nat.le_refl _) _)⟩
theorem scharge_ok (σ : AH O) (p r s : Int) : Ok (shape_Charge [.agg [.i .i64 p, .i .i64 r], .i .i64 s] σ) fun q => q.1 = .i .i64 (chargeP p r s) ∧ Ext σ q.2 := by
 have t1 : (true == true) = true := rfl
 have t2 : (false == true) = false := rfl
 have hr := wordsP_rng p r
 simp (maxSteps := 2000000) -implicitDefEqProofs (disch := (first | omega | rfl | assumption | (simp only [rsD]; first | omega | assumption))) only [shape_Charge, shape_Charge_c, Nat.reduceAdd, Nat.reduceMul, Nat.reduceLT, Int.reduceToNat, Int.reduceAdd, Int.reduceSub, Int.reduceMul, rsU, rsC]
 generalize hσ : (σ.bump 1).put σ.next _ = σ1
 obtain ⟨E1, n1, b1⟩ := box1 hσ
 clear hσ
 refine Ok.step (swords_ok σ1 p r) fun q ⟨g1, E2⟩ => ?_
 obtain ⟨q, σ2⟩ := q
 simp only at g1 E2
 subst g1
 have b2 := (E2.blk _ (by omega)).trans b1
 have E02 := E1.trans E2
 unfold chargeP
 generalize hw : wordsP p r = w at *
 cases h : decide (w > 0) with
 | false =>
  simp (maxSteps := 2000000) -implicitDefEqProofs (disch := (first | omega | rfl | assumption | (simp only [rsD]; first | omega | assumption))) only [h, t1, t2, Nat.reduceAdd, Nat.reduceMul, Nat.reduceLT, Int.reduceToNat, Int.reduceAdd, Int.reduceSub, Int.reduceMul, rsU, rsC]
  exact Ok_some.2 ⟨rfl, E02⟩
 | true =>
  simp (maxSteps := 2000000) -implicitDefEqProofs (disch := (first | omega | rfl | assumption | (simp only [rsD]; first | omega | assumption))) only [h, t1, t2, b2, shape_Large, shape_Large_c, Nat.reduceAdd, Nat.reduceMul, Nat.reduceLT, Int.reduceToNat, Int.reduceAdd, Int.reduceSub, Int.reduceMul, rsU, rsC]
  have E3 : ∀ {x : Blk O}, Ext σ ((σ2.bump 1).put σ2.next x) := fun {x} => (E02.bump 1).put (by have := E02.next; omega) _
  refine Ok.step (swords_ok _ p r) fun q ⟨g1, E4⟩ => ?_
  obtain ⟨q, σ4⟩ := q
  simp only at g1 E4
  rw [hw] at g1
  subst g1
  cases h2 : decide (w > s) with
  | false =>
   simp (maxSteps := 2000000) -implicitDefEqProofs (disch := (first | omega | rfl | assumption | (simp only [rsD]; first | omega | assumption))) only [h2, Nat.reduceAdd, Nat.reduceMul, Nat.reduceLT, Int.reduceToNat, Int.reduceAdd, Int.reduceSub, Int.reduceMul, rsU, rsC]
   exact Ok_some.2 ⟨rfl, E3.trans E4⟩
  | true =>
   simp (maxSteps := 2000000) -implicitDefEqProofs (disch := (first | omega | rfl | assumption | (simp only [rsD]; first | omega | assumption))) only [h2, Nat.reduceAdd, Nat.reduceMul, Nat.reduceLT, Int.reduceToNat, Int.reduceAdd, Int.reduceSub, Int.reduceMul, rsU, rsC]
   exact Ok_some.2 ⟨rfl, E3.trans E4⟩
theorem rshape_ok (σ : AH O) (p r : Int) : Ok (haymowref13_Right [.agg [.i .i64 p, .i .i64 r]] σ) fun q => q.1 = .b (shP p r) ∧ Ext σ q.2 := by
 have t1 : (true == true) = true := rfl
 have t2 : (false == true) = false := rfl
 have E : ∀ {x : Blk O}, Ext σ ((σ.bump 1).put σ.next x) := fun {x} => ((Ext.refl σ).bump 1).put (Nat.le_refl _) _
 have e : shP p r = (decide (p ≥ 0) && (decide (p < 4096) && (decide (r ≥ 0) && decide (r < 4096)))) := by
  unfold shP
  rw [Bool.eq_iff_iff, decide_eq_true_eq]
  simp only [Bool.and_eq_true, decide_eq_true_eq]
  omega
 rw [e]
 cases h1 : decide (p ≥ 0) with
 | false =>
  simp (maxSteps := 2000000) -implicitDefEqProofs (disch := (first | omega | rfl | assumption | (simp only [rsD]; first | omega | assumption))) only [haymowref13_Right, haymowref13_Right_c, h1, t1, t2, Nat.reduceAdd, Nat.reduceMul, Nat.reduceLT, Int.reduceToNat, Int.reduceAdd, Int.reduceSub, Int.reduceMul, rsU, rsC]
  exact Ok_some.2 ⟨rfl, E⟩
 | true =>
 cases h2 : decide (p < 4096) with
 | false =>
  simp (maxSteps := 2000000) -implicitDefEqProofs (disch := (first | omega | rfl | assumption | (simp only [rsD]; first | omega | assumption))) only [haymowref13_Right, haymowref13_Right_c, h1, h2, t1, t2, Nat.reduceAdd, Nat.reduceMul, Nat.reduceLT, Int.reduceToNat, Int.reduceAdd, Int.reduceSub, Int.reduceMul, rsU, rsC]
  exact Ok_some.2 ⟨rfl, E⟩
 | true =>
 cases h3 : decide (r ≥ 0) with
 | false =>
  simp (maxSteps := 2000000) -implicitDefEqProofs (disch := (first | omega | rfl | assumption | (simp only [rsD]; first | omega | assumption))) only [haymowref13_Right, haymowref13_Right_c, h1, h2, h3, t1, t2, Nat.reduceAdd, Nat.reduceMul, Nat.reduceLT, Int.reduceToNat, Int.reduceAdd, Int.reduceSub, Int.reduceMul, rsU, rsC]
  exact Ok_some.2 ⟨rfl, E⟩
 | true =>
 cases h4 : decide (r < 4096) with
 | false =>
  simp (maxSteps := 2000000) -implicitDefEqProofs (disch := (first | omega | rfl | assumption | (simp only [rsD]; first | omega | assumption))) only [haymowref13_Right, haymowref13_Right_c, h1, h2, h3, h4, t1, t2, Nat.reduceAdd, Nat.reduceMul, Nat.reduceLT, Int.reduceToNat, Int.reduceAdd, Int.reduceSub, Int.reduceMul, rsU, rsC]
  exact Ok_some.2 ⟨rfl, E⟩
 | true =>
  simp (maxSteps := 2000000) -implicitDefEqProofs (disch := (first | omega | rfl | assumption | (simp only [rsD]; first | omega | assumption))) only [haymowref13_Right, haymowref13_Right_c, h1, h2, h3, h4, t1, t2, Nat.reduceAdd, Nat.reduceMul, Nat.reduceLT, Int.reduceToNat, Int.reduceAdd, Int.reduceSub, Int.reduceMul, rsU, rsC]
  exact Ok_some.2 ⟨rfl, E⟩
theorem rswords_ok (σ : AH O) (p r : Int) : Ok (haymowref13_Words [.agg [.i .i64 p, .i .i64 r]] σ) fun q => q.1 = .i .i64 (wordsP p r) ∧ Ext σ q.2 := by
 simp (maxSteps := 2000000) -implicitDefEqProofs (disch := (first | omega | rfl | assumption | (simp only [rsD]; first | omega | assumption))) only [haymowref13_Words, haymowref13_Words_c, Nat.reduceAdd, Nat.reduceMul, Nat.reduceLT, Int.reduceToNat, Int.reduceAdd, Int.reduceSub, Int.reduceMul, rsU, rsC]
 generalize hσ : (σ.bump 1).put σ.next _ = σ1
 obtain ⟨E1, n1, b1⟩ := box1 hσ
 clear hσ
 refine Ok.step (rshape_ok σ1 p r) fun q ⟨g1, E2⟩ => ?_
 obtain ⟨q, σ2⟩ := q
 simp only at g1 E2
 subst g1
 have b2 := (E2.blk _ (by omega)).trans b1
 unfold wordsP
 cases h : shP p r with
 | false =>
  simp (maxSteps := 2000000) -implicitDefEqProofs (disch := (first | omega | rfl | assumption | (simp only [rsD]; first | omega | assumption))) only [Nat.reduceAdd, Nat.reduceMul, Nat.reduceLT, Int.reduceToNat, Int.reduceAdd, Int.reduceSub, Int.reduceMul, rsU, rsC]
  exact Ok_some.2 ⟨rfl, E1.trans E2⟩
 | true =>
  have hh := of_decide_eq_true h
  have e1 : IntKind.i64.wrap (1 + p) = 1 + p := i64_id (by omega) (by omega)
  have e2 : IntKind.i64.wrap (1 + p + r) = 1 + p + r := i64_id (by omega) (by omega)
  simp (maxSteps := 2000000) -implicitDefEqProofs (disch := (first | omega | rfl | assumption | (simp only [rsD]; first | omega | assumption))) only [b2, e1, e2, Nat.reduceAdd, Nat.reduceMul, Nat.reduceLT, Int.reduceToNat, Int.reduceAdd, Int.reduceSub, Int.reduceMul, rsU, rsC]
  exact Ok_some.2 ⟨rfl, E1.trans E2⟩
theorem rcharge_ok (σ : AH O) (p r s : Int) : Ok (haymowref13_Charge [.agg [.i .i64 p, .i .i64 r], .i .i64 s] σ) fun q => q.1 = .i .i64 (chargeP p r s) ∧ Ext σ q.2 := by
 have t1 : (true == true) = true := rfl
 have t2 : (false == true) = false := rfl
 have hr := wordsP_rng p r
 simp (maxSteps := 2000000) -implicitDefEqProofs (disch := (first | omega | rfl | assumption | (simp only [rsD]; first | omega | assumption))) only [haymowref13_Charge, haymowref13_Charge_c, Nat.reduceAdd, Nat.reduceMul, Nat.reduceLT, Int.reduceToNat, Int.reduceAdd, Int.reduceSub, Int.reduceMul, rsU, rsC]
 generalize hσ : (σ.bump 1).put σ.next _ = σ1
 obtain ⟨E1, n1, b1⟩ := box1 hσ
 clear hσ
 refine Ok.step (rswords_ok σ1 p r) fun q ⟨g1, E2⟩ => ?_
 obtain ⟨q, σ2⟩ := q
 simp only at g1 E2
 subst g1
 have E02 := E1.trans E2
 unfold chargeP
 generalize wordsP p r = w at *
 cases h : decide (w > 0) with
 | false =>
  simp (maxSteps := 2000000) -implicitDefEqProofs (disch := (first | omega | rfl | assumption | (simp only [rsD]; first | omega | assumption))) only [h, t1, t2, Nat.reduceAdd, Nat.reduceMul, Nat.reduceLT, Int.reduceToNat, Int.reduceAdd, Int.reduceSub, Int.reduceMul, rsU, rsC]
  exact Ok_some.2 ⟨rfl, E02⟩
 | true =>
  cases h2 : decide (w > s) with
  | false =>
   simp (maxSteps := 2000000) -implicitDefEqProofs (disch := (first | omega | rfl | assumption | (simp only [rsD]; first | omega | assumption))) only [h, h2, t1, t2, Nat.reduceAdd, Nat.reduceMul, Nat.reduceLT, Int.reduceToNat, Int.reduceAdd, Int.reduceSub, Int.reduceMul, rsU, rsC]
   exact Ok_some.2 ⟨rfl, E02⟩
  | true =>
   simp (maxSteps := 2000000) -implicitDefEqProofs (disch := (first | omega | rfl | assumption | (simp only [rsD]; first | omega | assumption))) only [h, h2, t1, t2, Nat.reduceAdd, Nat.reduceMul, Nat.reduceLT, Int.reduceToNat, Int.reduceAdd, Int.reduceSub, Int.reduceMul, rsU, rsC]
   exact Ok_some.2 ⟨rfl, E02⟩
end Go.Abs.Tryz
set_option maxRecDepth 100000
namespace Go.Abs.Tryz
open Go Go.Abs
variable {O : Type}
theorem _root_.Go.Abs.BldO.push {α : Type} {base : Nat} {σ σ3 : AH O} {el k : Nat} {row : α → List TV} {a : SA} {l : List α} {x : α} {new : List AV} {nid : Nat} (h : BldO base σ el k row a l) (hb : base ≤ σ.next) (hn : σ.next ≤ σ3.next) (hf : ∀ b, base ≤ b → b < σ.next → σ3.blk b = σ.blk b) (hi : ImL (row x) new) (h1 : σ.next ≤ nid) (h2 : nid < σ3.next) :
  Ok (σ3.appSl nid el k a l.length 1 new) fun r => ∃ a', r.1 = .sl a' (l.length + 1) ∧ BldO base r.2 el k row a' (l ++ [x]) ∧ r.2.next = σ3.next ∧ ∀ b, b < base → r.2.blk b = σ3.blk b := by
 refine (h.app' (m := [x]) hb hn hf ⟨[], OwL.im (by simpa using hi), by simp⟩ h1 h2).mono ?_
 rintro ⟨z, σ4⟩ ⟨a', g1, g2, g3, g4, g5⟩
 exact ⟨a', g1, g2, g3, fun b hb' => g4 b (by omega) fun hm => by have := (h.bk b hm).1; omega⟩
theorem lref_ok {σ : AH O} {F : FV} {v : AV} (hF : F.At v) (fF : F.few) : Ok (law40_Ref [v] σ) fun r => F.At r.1 ∧ Ext σ r.2 := by
 have fin : Ok (law40_Ref [v] σ) fun r => (∃ vs, r.1 = .agg vs ∧ ImL (F.rowE T_haymowref40_Node) vs) ∧ Ext σ r.2 := by
  refine frz_agg (F.deepE (d := 4)) ?_
  obtain ⟨a, b, c, rfl, iN, iR, iW⟩ := hF.it
  have fn := fF.n
  simp (maxSteps := 2000000) -implicitDefEqProofs (disch := (first | omega | rfl | assumption | (simp only [rsD]; first | omega | assumption))) only [law40_Ref_c, Nat.reduceAdd, Nat.reduceMul, Nat.reduceLT, Int.reduceToNat, Int.reduceAdd, Int.reduceSub, Int.reduceMul, rsU, rsC]
  generalize hs : AH.put _ (σ.next + 2) _ = s1
  have n1 : s1.next = σ.next + 3 := by rw [← hs]; rfl
  have x0 : s1.blk σ.next = some (.cells true T_canon_Form [.sl a F.nodes.length, .sl b F.roots.length, .sl c F.weak.length]) := by rw [← hs]; ((try simp only [rsD] at *); simp -implicitDefEqProofs (disch := (first | omega | rfl | assumption | (simp only [rsD]; first | omega | assumption))) only [s_bs, s_bn, s_kn, bump_blk])
  have x1 : s1.blk (σ.next + 1) = some (.cells true T_haymowref40_Form [.sl .nil 0, .sl .nil 0, .sl .nil 0]) := by rw [← hs]; ((try simp only [rsD] at *); simp -implicitDefEqProofs (disch := (first | omega | rfl | assumption | (simp only [rsD]; first | omega | assumption))) only [s_bs, s_bn, s_kn, bump_blk])
  have x2 : s1.blk (σ.next + 2) = some (.cells true T_haymowref40_Form [.sl .nil 0, .sl b F.roots.length, .sl c F.weak.length]) := by rw [← hs]; ((try simp only [rsD] at *); simp -implicitDefEqProofs (disch := (first | omega | rfl | assumption | (simp only [rsD]; first | omega | assumption))) only [s_bs, s_bn, s_kn, bump_blk])
  have lo : ∀ y, y < σ.next → s1.blk y = σ.blk y := fun y hy => by rw [← hs]; ((try simp only [rsD] at *); simp -implicitDefEqProofs (disch := (first | omega | rfl | assumption | (simp only [rsD]; first | omega | assumption))) only [s_bs, s_bn, s_kn, bump_blk])
  clear hs
  generalize hs6 : AH.put (AH.put (AH.bump σ 2) _ _) _ _ = s6
  have n6 : s6.next = σ.next + 2 := by rw [← hs6]; rfl
  refine Ok.step (Q := fun r => ∃ e σ', r = ([], σ') ∧ BldO (σ.next + 3) σ' T_haymowref40_Node 7 NV.row e F.nodes ∧ σ.next + 3 ≤ σ'.next ∧ (∀ y, y < σ.next + 2 → σ'.blk y = s1.blk y) ∧ σ'.blk (σ.next + 2) = some (.cells true T_haymowref40_Form [.sl e F.nodes.length, .sl b F.roots.length, .sl c F.weak.length])) ?_ ?_
  ·refine Ok.count F.nodes.length (fun k st => ∃ e σ', st = ([.i .i64 (k : Int)], σ') ∧ BldO (σ.next + 3) σ' T_haymowref40_Node 7 NV.row e (F.nodes.take k) ∧ σ.next + 3 ≤ σ'.next ∧ (∀ y, y < σ.next + 2 → σ'.blk y = s1.blk y) ∧ σ'.blk (σ.next + 2) = some (.cells true T_haymowref40_Form [.sl e k, .sl b F.roots.length, .sl c F.weak.length])) ?_ ?_
    ⟨.nil, s1, rfl, BldO.nil _ _ _ NV.len, by omega, fun _ _ => rfl, x2⟩
   ·rintro k st hk ⟨e, σ', rfl, B, hn, ho, hx⟩
    obtain ⟨x, hx0⟩ : ∃ x, F.nodes[k]? = some x := ⟨_, List.getElem?_eq_getElem hk⟩
    obtain ⟨u, o, p, q, rfl, hp, hq, l1⟩ := iN.node hx0
    have y0 := (ho σ.next (by omega)).trans x0
    have tk : (F.nodes.take k).length = k := by simp; omega
    have tk1 : F.nodes.take (k + 1) = F.nodes.take k ++ [x] := by rw [List.take_add_one, hx0]; rfl
    simp (maxSteps := 2000000) -implicitDefEqProofs (disch := (first | omega | rfl | assumption | (simp only [rsD]; first | omega | assumption))) only [law40_Ref_L1, n6, y0, hx, l1, Nat.reduceAdd, Nat.reduceMul, Nat.reduceLT, Int.reduceToNat, Int.reduceAdd, Int.reduceSub, Int.reduceMul, rsU, rsC]
    have pu := B.push (σ3 := (σ'.bump 2).put σ'.next (.cells true T_haymowref40_Node [.i .i64 x.h.p, .i .i64 x.h.r, .i .i64 x.h.site, .i .i64 x.h.age, .b x.h.large, .sl p x.P.length, .sl q x.R.length])) (x := x) (nid := σ'.next + 1) (by omega) (by simp) (fun y h1 h2 => by ((try simp only [rsD] at *); simp -implicitDefEqProofs (disch := (first | omega | rfl | assumption | (simp only [rsD]; first | omega | assumption))) only [s_bs, s_bn, s_kn, bump_blk])) (NV.im7 hp hq) (by omega) (by simp)
    rw [tk, ← tk1] at pu
    refine Ok.step pu fun r ⟨e', g1, g2, g3, g4⟩ => ?_
    obtain ⟨z, σ2⟩ := r
    simp only at g1 g2 g3 g4
    subst g1
    simp only [rsD] at g3
    have hx2 : σ2.blk (σ.next + 2) = some (.cells true T_haymowref40_Form [.sl e k, .sl b F.roots.length, .sl c F.weak.length]) := by rw [g4 _ (by omega)]; ((try simp only [rsD] at *); simp -implicitDefEqProofs (disch := (first | omega | rfl | assumption | (simp only [rsD]; first | omega | assumption))) only [s_bs, s_bn, s_kn, bump_blk]); exact hx
    simp (maxSteps := 2000000) -implicitDefEqProofs (disch := (first | omega | rfl | assumption | (simp only [rsD]; first | omega | assumption))) only [hx2, Nat.reduceAdd, Nat.reduceMul, Nat.reduceLT, Int.reduceToNat, Int.reduceAdd, Int.reduceSub, Int.reduceMul, rsU, rsC]
    refine Ok_some.2 ⟨e', _, rfl, g2.keep (by simp) (fun y h1 h2 => by ((try simp only [rsD] at *); simp -implicitDefEqProofs (disch := (first | omega | rfl | assumption | (simp only [rsD]; first | omega | assumption))) only [s_bs, s_bn, s_kn, bump_blk])), by simp; omega, fun y hy => ?_, s_bs⟩
    rw [s_bn (by omega), g4 _ (by omega), s_bn (by omega)]
    exact ho y hy
   ·rintro st ⟨e, σ', rfl, B, hn, ho, hx⟩
    have y0 := (ho σ.next (by omega)).trans x0
    simp (maxSteps := 2000000) -implicitDefEqProofs (disch := (first | omega | rfl | assumption | (simp only [rsD]; first | omega | assumption))) only [law40_Ref_L1, y0, Nat.reduceAdd, Nat.reduceMul, Nat.reduceLT, Int.reduceToNat, Int.reduceAdd, Int.reduceSub, Int.reduceMul, rsU, rsC]
    rw [List.take_length] at B
    exact Ok_some.2 ⟨e, σ', rfl, B, hn, ho, hx⟩
  rintro _ ⟨e, σ', rfl, B, hn, ho, hx⟩
  have y1 := (ho (σ.next + 1) (by omega)).trans x1
  simp (maxSteps := 2000000) -implicitDefEqProofs (disch := (first | omega | rfl | assumption | (simp only [rsD]; first | omega | assumption))) only [n6, hx, y1, Nat.reduceAdd, Nat.reduceMul, Nat.reduceLT, Int.reduceToNat, Int.reduceAdd, Int.reduceSub, Int.reduceMul, rsU, rsC]
  have B2 := B.keep (σ' := σ'.put (σ.next + 1) (.cells true T_haymowref40_Form [.sl e F.nodes.length, .sl b F.roots.length, .sl c F.weak.length])) (Nat.le_refl _) fun y h1 h2 => s_bn (by omega)
  refine Ok_some.2 ⟨_, rfl, (B2.out (σ0 := σ) ⟨by simp; omega, fun y hy => ?_⟩ (by omega)).app (New.im (.cons (ints_mk iR) (.cons (ints_mk iW) .nil)) (Ext.refl _))⟩
  rw [s_bn (by omega), ho y (by omega)]; exact lo y hy
 refine fin.mono ?_
 rintro ⟨z, σ'⟩ ⟨⟨vs, h1, h2⟩, h3⟩
 simp only at h1
 subst h1
 exact ⟨FV.rowE_at h2, h3⟩
end Go.Abs.Tryz
set_option maxHeartbeats 1000000
namespace Go.Abs.Tryz
open Go Go.Abs
variable {O : Type}
theorem sequal_i {σ : AH O} {a b : SA} {l m : List Int} (ha : Ints .i64 a l) (hb : Ints .i64 b m) (hl : l.length ≤ 100000) (hm : m.length ≤ 100000) : Ok (slices_Equal___int_int_ [.sl a l.length, .sl b m.length] σ) fun r => r = (.b (decide (l = m)), σ) := by
 by_cases c : l.length = m.length
 ·have q0 : ((l.length : Int) == (m.length : Int)) = true := s_eqT (by omega)
  simp (maxSteps := 2000000) -implicitDefEqProofs (disch := (first | omega | rfl | assumption | (simp only [rsD]; first | omega | assumption))) only [slices_Equal___int_int_, slices_Equal___int_int__c, q0, Nat.reduceAdd, Nat.reduceMul, Nat.reduceLT, Int.reduceToNat, Int.reduceAdd, Int.reduceSub, Int.reduceMul, rsU, rsC]
  refine Ok.bindS (Q := fun r => (l = m ∧ r = .inl ([], σ)) ∨ (l ≠ m ∧ r = .inr (.b false, σ))) ?_ ?_ ?_
  ·refine eq_loop c (fun k s => s = ([.i .i64 (k : Int)], σ)) _ ?_ ?_ rfl
   ·rintro k s hk rfl
    obtain ⟨x, hx⟩ : ∃ x, l[k]? = some x := ⟨_, List.getElem?_eq_getElem hk⟩
    obtain ⟨y, hy⟩ : ∃ y, m[k]? = some y := ⟨_, List.getElem?_eq_getElem (by omega)⟩
    obtain ⟨b1, o1, rfl, l1⟩ := ha.at hx
    obtain ⟨b2, o2, rfl, l2⟩ := hb.at hy
    rw [hx, hy]
    by_cases e : x = y
    ·have q1 := s_eqT e
     simp (maxSteps := 2000000) -implicitDefEqProofs (disch := (first | omega | rfl | assumption | (simp only [rsD]; first | omega | assumption))) only [slices_Equal___int_int__L1, l1, l2, q1, Nat.reduceAdd, Nat.reduceMul, Nat.reduceLT, Int.reduceToNat, Int.reduceAdd, Int.reduceSub, Int.reduceMul, rsU, rsC]
     exact Ok_some.2 (by rw [if_pos (by rw [e])]; simp)
    ·have q1 := s_eqF e
     simp (maxSteps := 2000000) -implicitDefEqProofs (disch := (first | omega | rfl | assumption | (simp only [rsD]; first | omega | assumption))) only [slices_Equal___int_int__L1, l1, l2, q1, Nat.reduceAdd, Nat.reduceMul, Nat.reduceLT, Int.reduceToNat, Int.reduceAdd, Int.reduceSub, Int.reduceMul, rsU, rsC]
     exact Ok_some.2 (by rw [if_neg (by simp [e])]; exact fun h => .inr ⟨h, rfl⟩)
   ·rintro s rfl
    simp (maxSteps := 2000000) -implicitDefEqProofs (disch := (first | omega | rfl | assumption | (simp only [rsD]; first | omega | assumption))) only [slices_Equal___int_int__L1, Nat.reduceAdd, Nat.reduceMul, Nat.reduceLT, Int.reduceToNat, Int.reduceAdd, Int.reduceSub, Int.reduceMul, rsU, rsC]
    exact Ok_some.2 fun h => .inl ⟨h, rfl⟩
  ·rintro s (⟨e, hs⟩ | ⟨_, hs⟩)
   ·cases hs
    exact Ok_some.2 (by simp [e])
   ·cases hs
  ·rintro r (⟨_, hs⟩ | ⟨e, hs⟩)
   ·cases hs
   ·cases hs; simp [e]
 ·have q0 : ((l.length : Int) == (m.length : Int)) = false := s_eqF (by omega)
  simp (maxSteps := 2000000) -implicitDefEqProofs (disch := (first | omega | rfl | assumption | (simp only [rsD]; first | omega | assumption))) only [slices_Equal___int_int_, slices_Equal___int_int__c, q0, Nat.reduceAdd, Nat.reduceMul, Nat.reduceLT, Int.reduceToNat, Int.reduceAdd, Int.reduceSub, Int.reduceMul, rsU, rsC]
  exact Ok_some.2 (by rw [decide_eq_false (fun e => c (by rw [e]))])
theorem sequal_u {σ : AH O} {a b : SA} {l m : List Int} (ha : Ints .u64 a l) (hb : Ints .u64 b m) (hl : l.length ≤ 100000) (hm : m.length ≤ 100000) : Ok (slices_Equal___uint64_uint64_ [.sl a l.length, .sl b m.length] σ) fun r => r = (.b (decide (l = m)), σ) := by
 by_cases c : l.length = m.length
 ·have q0 : ((l.length : Int) == (m.length : Int)) = true := s_eqT (by omega)
  simp (maxSteps := 2000000) -implicitDefEqProofs (disch := (first | omega | rfl | assumption | (simp only [rsD]; first | omega | assumption))) only [slices_Equal___uint64_uint64_, slices_Equal___uint64_uint64__c, q0, Nat.reduceAdd, Nat.reduceMul, Nat.reduceLT, Int.reduceToNat, Int.reduceAdd, Int.reduceSub, Int.reduceMul, rsU, rsC]
  refine Ok.bindS (Q := fun r => (l = m ∧ r = .inl ([], σ)) ∨ (l ≠ m ∧ r = .inr (.b false, σ))) ?_ ?_ ?_
  ·refine eq_loop c (fun k s => s = ([.i .i64 (k : Int)], σ)) _ ?_ ?_ rfl
   ·rintro k s hk rfl
    obtain ⟨x, hx⟩ : ∃ x, l[k]? = some x := ⟨_, List.getElem?_eq_getElem hk⟩
    obtain ⟨y, hy⟩ : ∃ y, m[k]? = some y := ⟨_, List.getElem?_eq_getElem (by omega)⟩
    obtain ⟨b1, o1, rfl, l1⟩ := ha.at hx
    obtain ⟨b2, o2, rfl, l2⟩ := hb.at hy
    rw [hx, hy]
    by_cases e : x = y
    ·have q1 := s_eqT e
     simp (maxSteps := 2000000) -implicitDefEqProofs (disch := (first | omega | rfl | assumption | (simp only [rsD]; first | omega | assumption))) only [slices_Equal___uint64_uint64__L1, l1, l2, q1, Nat.reduceAdd, Nat.reduceMul, Nat.reduceLT, Int.reduceToNat, Int.reduceAdd, Int.reduceSub, Int.reduceMul, rsU, rsC]
     exact Ok_some.2 (by rw [if_pos (by rw [e])]; simp)
    ·have q1 := s_eqF e
     simp (maxSteps := 2000000) -implicitDefEqProofs (disch := (first | omega | rfl | assumption | (simp only [rsD]; first | omega | assumption))) only [slices_Equal___uint64_uint64__L1, l1, l2, q1, Nat.reduceAdd, Nat.reduceMul, Nat.reduceLT, Int.reduceToNat, Int.reduceAdd, Int.reduceSub, Int.reduceMul, rsU, rsC]
     exact Ok_some.2 (by rw [if_neg (by simp [e])]; exact fun h => .inr ⟨h, rfl⟩)
   ·rintro s rfl
    simp (maxSteps := 2000000) -implicitDefEqProofs (disch := (first | omega | rfl | assumption | (simp only [rsD]; first | omega | assumption))) only [slices_Equal___uint64_uint64__L1, Nat.reduceAdd, Nat.reduceMul, Nat.reduceLT, Int.reduceToNat, Int.reduceAdd, Int.reduceSub, Int.reduceMul, rsU, rsC]
    exact Ok_some.2 fun h => .inl ⟨h, rfl⟩
  ·rintro s (⟨e, hs⟩ | ⟨_, hs⟩)
   ·cases hs
    exact Ok_some.2 (by simp [e])
   ·cases hs
  ·rintro r (⟨_, hs⟩ | ⟨e, hs⟩)
   ·cases hs
   ·cases hs; simp [e]
 ·have q0 : ((l.length : Int) == (m.length : Int)) = false := s_eqF (by omega)
  simp (maxSteps := 2000000) -implicitDefEqProofs (disch := (first | omega | rfl | assumption | (simp only [rsD]; first | omega | assumption))) only [slices_Equal___uint64_uint64_, slices_Equal___uint64_uint64__c, q0, Nat.reduceAdd, Nat.reduceMul, Nat.reduceLT, Int.reduceToNat, Int.reduceAdd, Int.reduceSub, Int.reduceMul, rsU, rsC]
  exact Ok_some.2 (by rw [decide_eq_false (fun e => c (by rw [e]))])
end Go.Abs.Tryz
namespace Go.Abs.Tryz
open Go Go.Abs
variable {O : Type}
theorem nsame {σ : AH O} {x y : NV} {a b c d : SA} (ha : Ints .i64 a x.P) (hb : Ints .u64 b x.R) (hx : x.few) (hc : Ints .i64 c y.P) (hd : Ints .u64 d y.R) (hy : y.few) : Ok (canon_Node__same [.agg (x.cells a b), .agg (y.cells c d)] σ) fun r => r.1 = .b (decide (x = y)) ∧ Ext σ r.2 := by
 have q := hv_eq x.h y.h
 by_cases e : x.h = y.h
 ·rw [decide_eq_true e] at q
  simp (maxSteps := 2000000) -implicitDefEqProofs (disch := (first | omega | rfl | assumption | (simp only [rsD]; first | omega | assumption))) only [canon_Node__same, canon_Node__same_c, NV.cells, q, Nat.reduceAdd, Nat.reduceMul, Nat.reduceLT, Int.reduceToNat, Int.reduceAdd, Int.reduceSub, Int.reduceMul, rsU, rsC]
  refine Ok.step (sequal_i ha hc hx.p hy.p) fun r g => ?_
  subst g
  by_cases e2 : x.P = y.P
  ·have q2 := decide_eq_true e2
   simp (maxSteps := 2000000) -implicitDefEqProofs (disch := (first | omega | rfl | assumption | (simp only [rsD]; first | omega | assumption))) only [q2, Nat.reduceAdd, Nat.reduceMul, Nat.reduceLT, Int.reduceToNat, Int.reduceAdd, Int.reduceSub, Int.reduceMul, rsU, rsC]
   refine Ok.step (sequal_u hb hd hx.r hy.r) fun r g => ?_
   subst g
   simp (maxSteps := 2000000) -implicitDefEqProofs (disch := (first | omega | rfl | assumption | (simp only [rsD]; first | omega | assumption))) only [Nat.reduceAdd, Nat.reduceMul, Nat.reduceLT, Int.reduceToNat, Int.reduceAdd, Int.reduceSub, Int.reduceMul, rsU, rsC]
   refine Ok_some.2 ⟨?_, (ext_of (by (try simp only [rsD] at *); omega) (fun b hb => by (try simp only [rsD] at *); simp -implicitDefEqProofs (disch := (first | omega | rfl | assumption | (simp only [rsD]; first | omega | assumption))) only [s_bn, s_kn, bump_blk]))⟩
   have : (x.R = y.R) ↔ x = y := ⟨fun h => by cases x; cases y; simp_all, fun h => by rw [h]⟩
   simp only [this]
  ·have q2 := decide_eq_false e2
   simp (maxSteps := 2000000) -implicitDefEqProofs (disch := (first | omega | rfl | assumption | (simp only [rsD]; first | omega | assumption))) only [q2, Nat.reduceAdd, Nat.reduceMul, Nat.reduceLT, Int.reduceToNat, Int.reduceAdd, Int.reduceSub, Int.reduceMul, rsU, rsC]
   refine Ok_some.2 ⟨?_, (ext_of (by (try simp only [rsD] at *); omega) (fun b hb => by (try simp only [rsD] at *); simp -implicitDefEqProofs (disch := (first | omega | rfl | assumption | (simp only [rsD]; first | omega | assumption))) only [s_bn, s_kn, bump_blk]))⟩
   rw [decide_eq_false (fun h => e2 (by rw [h]))]
 ·rw [decide_eq_false e] at q
  simp (maxSteps := 2000000) -implicitDefEqProofs (disch := (first | omega | rfl | assumption | (simp only [rsD]; first | omega | assumption))) only [canon_Node__same, canon_Node__same_c, NV.cells, q, Nat.reduceAdd, Nat.reduceMul, Nat.reduceLT, Int.reduceToNat, Int.reduceAdd, Int.reduceSub, Int.reduceMul, rsU, rsC]
  refine Ok_some.2 ⟨?_, (ext_of (by (try simp only [rsD] at *); omega) (fun b hb => by (try simp only [rsD] at *); simp -implicitDefEqProofs (disch := (first | omega | rfl | assumption | (simp only [rsD]; first | omega | assumption))) only [s_bn, s_kn, bump_blk]))⟩
  rw [decide_eq_false (fun h => e (by rw [h]))]
theorem eqfunc {σ : AH O} {a b : SA} {l m : List NV} (ha : Nodes a l) (hb : Nodes b m) (hl : l.length ≤ 100000) (hm : m.length ≤ 100000) (fl : ∀ x ∈ l, x.few) (fm : ∀ x ∈ m, x.few) : Ok (slices_EqualFunc_canon_Node_ [.sl a l.length, .sl b m.length, .fn (some (.func 22, [], []))] σ) fun r => r.1 = .b (decide (l = m)) ∧ Ext σ r.2 := by
 by_cases c : l.length = m.length
 ·have q0 : ((l.length : Int) == (m.length : Int)) = true := s_eqT (by omega)
  simp (maxSteps := 2000000) -implicitDefEqProofs (disch := (first | omega | rfl | assumption | (simp only [rsD]; first | omega | assumption))) only [slices_EqualFunc_canon_Node_, slices_EqualFunc_canon_Node__c, q0, Nat.reduceAdd, Nat.reduceMul, Nat.reduceLT, Int.reduceToNat, Int.reduceAdd, Int.reduceSub, Int.reduceMul, rsU, rsC]
  refine Ok.bindS (Q := fun r => (l = m ∧ ∃ σ', r = .inl ([], σ') ∧ Ext σ σ') ∨ (l ≠ m ∧ ∃ σ', r = .inr (.b false, σ') ∧ Ext σ σ')) ?_ ?_ ?_
  ·refine Ok.count l.length (fun k s => ∃ σ', s = ([.i .i64 (k : Int)], σ') ∧ Ext σ σ' ∧ ∀ j, j < k → l[j]? = m[j]?) ?_ ?_ ⟨σ, rfl, Ext.refl σ, fun j hj => by omega⟩
   ·rintro k s hk ⟨σ1, rfl, E1, hj⟩
    obtain ⟨x, hx⟩ : ∃ x, l[k]? = some x := ⟨_, List.getElem?_eq_getElem hk⟩
    obtain ⟨y, hy⟩ : ∃ y, m[k]? = some y := ⟨_, List.getElem?_eq_getElem (by omega)⟩
    obtain ⟨b1, o1, c1, d1, rfl, ic, id, l1⟩ := ha.node hx
    obtain ⟨b2, o2, c2, d2, rfl, jc, jd, l2⟩ := hb.node hy
    simp (maxSteps := 2000000) -implicitDefEqProofs (disch := (first | omega | rfl | assumption | (simp only [rsD]; first | omega | assumption))) only [slices_EqualFunc_canon_Node__L1, l1, l2, callV, getG, Nat.reduceAdd, Nat.reduceMul, Nat.reduceLT, Int.reduceToNat, Int.reduceAdd, Int.reduceSub, Int.reduceMul, rsU, rsC]
    refine Ok.step (nsame ic id (fl x (List.mem_of_getElem? hx)) jc jd (fm y (List.mem_of_getElem? hy))) fun r ⟨g1, g2⟩ => ?_
    obtain ⟨q, σ2⟩ := r
    simp only at g1 g2
    subst g1
    by_cases e : x = y
    ·have q1 := decide_eq_true e
     simp (maxSteps := 2000000) -implicitDefEqProofs (disch := (first | omega | rfl | assumption | (simp only [rsD]; first | omega | assumption))) only [q1, Nat.reduceAdd, Nat.reduceMul, Nat.reduceLT, Int.reduceToNat, Int.reduceAdd, Int.reduceSub, Int.reduceMul, rsU, rsC]
     refine Ok_some.2 ⟨σ2, by simp, (ext_of (by (have x0 := (g2).next); (have x1 := (E1).next); (try simp only [rsD] at *); omega) (fun b hb => by (have x0 := (g2).next); (have x1 := (E1).next); (try simp only [rsD] at *); simp -implicitDefEqProofs (disch := (first | omega | rfl | assumption | (simp only [rsD]; first | omega | assumption))) only [s_bn, s_kn, bump_blk, s_ext (g2), s_ext (E1)])), fun j hj2 => ?_⟩
     by_cases c : j = k
     ·rw [c, hx, hy, e]
     ·exact hj j (by omega)
    ·have q1 := decide_eq_false e
     simp (maxSteps := 2000000) -implicitDefEqProofs (disch := (first | omega | rfl | assumption | (simp only [rsD]; first | omega | assumption))) only [q1, Nat.reduceAdd, Nat.reduceMul, Nat.reduceLT, Int.reduceToNat, Int.reduceAdd, Int.reduceSub, Int.reduceMul, rsU, rsC]
     exact Ok_some.2 (.inr ⟨fun h => e (by rw [h, hy] at hx; simpa using hx.symm), σ2, rfl, (ext_of (by (have x0 := (g2).next); (have x1 := (E1).next); (try simp only [rsD] at *); omega) (fun b hb => by (have x0 := (g2).next); (have x1 := (E1).next); (try simp only [rsD] at *); simp -implicitDefEqProofs (disch := (first | omega | rfl | assumption | (simp only [rsD]; first | omega | assumption))) only [s_bn, s_kn, bump_blk, s_ext (g2), s_ext (E1)]))⟩)
   ·rintro s ⟨σ1, rfl, E1, hj⟩
    simp (maxSteps := 2000000) -implicitDefEqProofs (disch := (first | omega | rfl | assumption | (simp only [rsD]; first | omega | assumption))) only [slices_EqualFunc_canon_Node__L1, Nat.reduceAdd, Nat.reduceMul, Nat.reduceLT, Int.reduceToNat, Int.reduceAdd, Int.reduceSub, Int.reduceMul, rsU, rsC]
    refine Ok_some.2 (.inl ⟨List.ext_getElem? fun j => ?_, σ1, rfl, E1⟩)
    by_cases c : j < l.length
    ·exact hj j c
    ·rw [List.getElem?_eq_none (by omega), List.getElem?_eq_none (by omega)]
  ·rintro s (⟨e, σ1, hs, E1⟩ | ⟨_, σ1, hs, _⟩)
   ·cases hs
    exact Ok_some.2 ⟨by simp [e], E1⟩
   ·cases hs
  ·rintro r (⟨_, σ1, hs, _⟩ | ⟨e, σ1, hs, E1⟩)
   ·cases hs
   ·cases hs; exact ⟨by simp [e], E1⟩
 ·have q0 : ((l.length : Int) == (m.length : Int)) = false := s_eqF (by omega)
  simp (maxSteps := 2000000) -implicitDefEqProofs (disch := (first | omega | rfl | assumption | (simp only [rsD]; first | omega | assumption))) only [slices_EqualFunc_canon_Node_, slices_EqualFunc_canon_Node__c, q0, Nat.reduceAdd, Nat.reduceMul, Nat.reduceLT, Int.reduceToNat, Int.reduceAdd, Int.reduceSub, Int.reduceMul, rsU, rsC]
  exact Ok_some.2 ⟨by rw [decide_eq_false (fun e => c (by rw [e]))], Ext.refl σ⟩
theorem csame {σ : AH O} {F G : FV} {v w : AV} (hF : F.At v) (hG : G.At w) (fF : F.few) (fG : G.few) : Ok (canon_Same [v, w] σ) fun r => r.1 = .b (decide (F = G)) ∧ Ext σ r.2 := by
 obtain ⟨a1, b1, c1, rfl, i1, i2, i3⟩ := hF.it
 obtain ⟨a2, b2, c2, rfl, j1, j2, j3⟩ := hG.it
 simp (maxSteps := 2000000) -implicitDefEqProofs (disch := (first | omega | rfl | assumption | (simp only [rsD]; first | omega | assumption))) only [canon_Same, canon_Same_c, Nat.reduceAdd, Nat.reduceMul, Nat.reduceLT, Int.reduceToNat, Int.reduceAdd, Int.reduceSub, Int.reduceMul, rsU, rsC]
 refine Ok.step (eqfunc i1 j1 fF.n fG.n fF.x fG.x) fun r ⟨g1, g2⟩ => ?_
 obtain ⟨q, σ1⟩ := r
 simp only at g1 g2
 subst g1
 by_cases e1 : F.nodes = G.nodes
 ·have q1 := decide_eq_true e1
  simp (maxSteps := 2000000) -implicitDefEqProofs (disch := (first | omega | rfl | assumption | (simp only [rsD]; first | omega | assumption))) only [q1, s_ext g2, Nat.reduceAdd, Nat.reduceMul, Nat.reduceLT, Int.reduceToNat, Int.reduceAdd, Int.reduceSub, Int.reduceMul, rsU, rsC]
  refine Ok.step (sequal_i i2 j2 fF.r fG.r) fun r g => ?_
  subst g
  by_cases e2 : F.roots = G.roots
  ·have q2 := decide_eq_true e2
   simp (maxSteps := 2000000) -implicitDefEqProofs (disch := (first | omega | rfl | assumption | (simp only [rsD]; first | omega | assumption))) only [q2, s_ext g2, Nat.reduceAdd, Nat.reduceMul, Nat.reduceLT, Int.reduceToNat, Int.reduceAdd, Int.reduceSub, Int.reduceMul, rsU, rsC]
   refine Ok.step (sequal_i i3 j3 fF.w fG.w) fun r g => ?_
   subst g
   simp (maxSteps := 2000000) -implicitDefEqProofs (disch := (first | omega | rfl | assumption | (simp only [rsD]; first | omega | assumption))) only [Nat.reduceAdd, Nat.reduceMul, Nat.reduceLT, Int.reduceToNat, Int.reduceAdd, Int.reduceSub, Int.reduceMul, rsU, rsC]
   refine Ok_some.2 ⟨?_, (ext_of (by (have x0 := (g2).next); (try simp only [rsD] at *); omega) (fun b hb => by (have x0 := (g2).next); (try simp only [rsD] at *); simp -implicitDefEqProofs (disch := (first | omega | rfl | assumption | (simp only [rsD]; first | omega | assumption))) only [s_bn, s_kn, bump_blk, s_ext (g2)]))⟩
   have : (F.weak = G.weak) ↔ F = G := ⟨fun h => by cases F; cases G; simp_all, fun h => by rw [h]⟩
   simp only [this]
  ·have q2 := decide_eq_false e2
   simp (maxSteps := 2000000) -implicitDefEqProofs (disch := (first | omega | rfl | assumption | (simp only [rsD]; first | omega | assumption))) only [q2, Nat.reduceAdd, Nat.reduceMul, Nat.reduceLT, Int.reduceToNat, Int.reduceAdd, Int.reduceSub, Int.reduceMul, rsU, rsC]
   refine Ok_some.2 ⟨?_, (ext_of (by (have x0 := (g2).next); (try simp only [rsD] at *); omega) (fun b hb => by (have x0 := (g2).next); (try simp only [rsD] at *); simp -implicitDefEqProofs (disch := (first | omega | rfl | assumption | (simp only [rsD]; first | omega | assumption))) only [s_bn, s_kn, bump_blk, s_ext (g2)]))⟩
   rw [decide_eq_false (fun h => e2 (by rw [h]))]
 ·have q1 := decide_eq_false e1
  simp (maxSteps := 2000000) -implicitDefEqProofs (disch := (first | omega | rfl | assumption | (simp only [rsD]; first | omega | assumption))) only [q1, Nat.reduceAdd, Nat.reduceMul, Nat.reduceLT, Int.reduceToNat, Int.reduceAdd, Int.reduceSub, Int.reduceMul, rsU, rsC]
  refine Ok_some.2 ⟨?_, (ext_of (by (have x0 := (g2).next); (try simp only [rsD] at *); omega) (fun b hb => by (have x0 := (g2).next); (try simp only [rsD] at *); simp -implicitDefEqProofs (disch := (first | omega | rfl | assumption | (simp only [rsD]; first | omega | assumption))) only [s_bn, s_kn, bump_blk, s_ext (g2)]))⟩
  rw [decide_eq_false (fun h => e1 (by rw [h]))]
end Go.Abs.Tryz
