/-
  What functions of the program do. No conditions.
-/
import Derived.Test.YtnbichnjfamdkaaGreatS11a
import Derived.Test.YtnbichnjfamdkaaGreatProg
import Derived.KernelRfl
set_option linter.unusedVariables false
set_option linter.unusedSimpArgs false
set_option linter.constructorNameAsVariable false
set_option maxRecDepth 100000
namespace Go.Abs.Tryz
open Go Go.Abs Go.Proofs
noncomputable section
variable {O : Type} {RO : O → Loc → (Nat → Option Obj) → Prop}
abbrev I6 {R : Type} (c : List AV) (i : Nat) (K : Int → Option R) : Option R := (AV.asI .i64 (c.getD i .u)).bind K
abbrev Is {R : Type} (c : List AV) (i : Nat) (K : SA × Nat → Option R) : Option R := (AV.asSl (c.getD i .u)).bind K
abbrev J (n : Int) : AV := .i .i64 n
abbrev L (l : SA × Nat) : AV := .sl l.1 l.2
abbrev N : AV := .sl .nil 0
def FunTy : List Bool → Type → Type
  | [], R => Option R
  | true :: ks, R => Int → FunTy ks R
  | false :: ks, R => SA × Nat → FunTy ks R
def applyW {R : Type} : (ks : List Bool) → List AV → FunTy ks R → Option R
  | [], _, K => K
  | true :: ks, .i .i64 n :: cs, K => applyW ks cs (K n)
  | false :: ks, .sl a n :: cs, K => applyW ks cs (K (a, n))
  | _ :: _, _, _ => none
def slowU {R : Type} (c : List AV) : (ks : List Bool) → Nat → FunTy ks R → Option R
  | [], _, K => K
  | true :: ks, i, K => (AV.asI .i64 (c.getD i .u)).bind fun x => slowU c ks (i + 1) (K x)
  | false :: ks, i, K => (AV.asSl (c.getD i .u)).bind fun x => slowU c ks (i + 1) (K x)
theorem slowU_eq {R : Type} (c : List AV) : ∀ (ks : List Bool) (i : Nat) (K : FunTy ks R), slowU c ks i K = applyW ks (c.drop i) K
  | [], _, _ => rfl
  | k :: ks, i, K => by
    have hd : c.drop i = if h : i < c.length then c[i] :: c.drop (i + 1) else [] := by
      split
      · rw [List.drop_eq_getElem_cons]
      · exact List.drop_of_length_le (by omega)
    have hg : c.getD i .u = if h : i < c.length then c[i] else .u := by
      rw [List.getD_eq_getElem?_getD]
      split
      · rename_i h; rw [List.getElem?_eq_getElem h]; rfl
      · rw [List.getElem?_eq_none (by omega)]; rfl
    cases k <;> simp only [slowU, hd, hg] <;> split <;> try rfl
    all_goals
      generalize c[i] = v
      cases v <;> first | rfl | exact slowU_eq c ks (i + 1) _ | (rename_i kk _; cases kk <;> first | rfl | exact slowU_eq c ks (i + 1) _)
def AHall (h : AH O) (b : Bid) : Option (List AV) :=
  match b with
  | .n b => match h.blk b with
    | some (.cells _ _ cs) => some cs
    | _ => none
  | .f cs => some cs
theorem ld_all (h : AH O) (b : Bid) (o : Nat) : h.ld b o = (AHall h b).bind fun cs => cs[o]? := by
  unfold AH.ld AHall
  cases b with
  | n b => simp only; cases h.blk b with
    | none => rfl
    | some x => cases x <;> rfl
  | f cs => rfl
def slowW {O R : Type} (h : AH O) (b : Bid) : (ks : List Bool) → Nat → FunTy ks R → Option R
  | [], _, K => K
  | true :: ks, o, K => (h.ld b o).bind fun w => (AV.asI .i64 w).bind fun x => slowW h b ks (o + 1) (K x)
  | false :: ks, o, K => (h.ld b o).bind fun w => (AV.asSl w).bind fun x => slowW h b ks (o + 1) (K x)
theorem slowW_cs {O R : Type} {h : AH O} {b : Bid} {cs : List AV} (hc : AHall h b = some cs) : ∀ (ks : List Bool) (o : Nat) (K : FunTy ks R), slowW h b ks o K = applyW ks (cs.drop o) K
  | [], _, _ => rfl
  | k :: ks, o, K => by
    have hl : h.ld b o = cs[o]? := by rw [ld_all, hc]; rfl
    by_cases h : o < cs.length
    · have hd : cs.drop o = cs[o] :: cs.drop (o + 1) := List.drop_eq_getElem_cons h
      rw [List.getElem?_eq_getElem h] at hl
      cases k <;> simp only [slowW, hd, hl, Option.bind_some]
      all_goals
        generalize cs[o] = v
        cases v <;> first | rfl | exact slowW_cs hc ks (o + 1) _ | (rename_i kk _; cases kk <;> first | rfl | exact slowW_cs hc ks (o + 1) _)
    · have hd : cs.drop o = [] := List.drop_of_length_le (by omega)
      rw [List.getElem?_eq_none (by omega)] at hl
      cases k <;> simp only [slowW, hd, hl, Option.bind_none] <;> rfl
theorem slowW_eq {O R : Type} (h : AH O) (b : Bid) (k : Bool) (ks : List Bool) (o : Nat) (K : FunTy (k :: ks) R) : slowW h b (k :: ks) o K = (AHall h b).bind fun cs => applyW (k :: ks) (cs.drop o) K := by
  cases hc : AHall h b with
  | some cs => rw [slowW_cs hc]; rfl
  | none =>
    have hl : h.ld b o = none := by rw [ld_all, hc]; rfl
    cases k <;> simp only [slowW, hl, Option.bind_none]
abbrev kU0 : List Bool := [true, true, true, true, true, true, true, true]
abbrev kU1 : List Bool := [false, true, false, false, true, false, true, false, false, true, false]
abbrev kU2 : List Bool := [true, true, true, true, true, false, false, true, false, false, true, false, true, false, false, true, false, true, true, true, true, true, true, true, true, true, true, true, true, true, true, true, true, false, true, true, true, true, true, true, true, true, true, true, true, true, true, true, true, true, true, true, true, true, true, true, true, true, true, true, true, true, true, true, true, true, true, true, true, true, true, true, true, true, true, true, true, true, true, true, true, true, true, true, true, true, true, true, true, true, true, true, true, true, true, true, true, true, true, true, true, true, true, true, true, true, true, true, true, true, true, true, true, true, true, true, true, true, true, true, true, true, true, true, true, true, true, true, true, true, true, true, true, true, true, true, true, true, true, true, true, true, true, true, true, true, true, true, true, true, true, true, true, true, true, true, true, true, true, true, true, true, true, true, true, true, true, true, true, true, true, true, true, true, true, true, true, true, true, true, true, true, true, true, true, true, true, true, true, true, true, true, true, true, true, true, true, true, true, true, true, true, true, true, true, true, true, true, true, true, true, true, true, true, true, true, true, true, true, true, true, true, true, true, true, true, true, true, true, true, true, true, true, true, true, true, true, true, true, true, true, true, true, true, true, true, true, true, true, true, true, true, true, true, true, true, true, true, false, true, true, true, true, true]
abbrev kW0 : List Bool := [true, true, true, true, true, true, true, true]
abbrev kW1 : List Bool := [false, true, false, false, true, false, true, false, false, true, false]
abbrev kW2 : List Bool := [true, true, true, true, true, false, false, true, false, false, true, false, true, false, false, true, false, true, true, true, true, true, true, true, true, true, true, true, true, true, true, true, true, false, true, true, true, true, true, true, true, true, true, true, true, true, true, true, true, true, true, true, true, true, true, true, true, true, true, true, true, true, true, true, true, true, true, true, true, true, true, true, true, true, true, true, true, true, true, true, true, true, true, true, true, true, true, true, true, true, true, true, true, true, true, true, true, true, true, true, true, true, true, true, true, true, true, true, true, true, true, true, true, true, true, true, true, true, true, true, true, true, true, true, true, true, true, true, true, true, true, true, true, true, true, true, true, true, true, true, true, true, true, true, true, true, true, true, true, true, true, true, true, true, true, true, true, true, true, true, true, true, true, true, true, true, true, true, true, true, true, true, true, true, true, true, true, true, true, true, true, true, true, true, true, true, true, true, true, true, true, true, true, true, true, true, true, true, true, true, true, true, true, true, true, true, true, true, true, true, true, true, true, true, true, true, true, true, true, true, true, true, true, true, true, true, true, true, true, true, true, true, true, true, true, true, true, true, true, true, true, true, true, true, true, true, true, true, true, true, true, true, true, true, true, true, true, true, false, true, true, true, true, true]
structure Words (O : Type) where
  U0 : {R : Type} → List AV → (Int → Int → Int → Int → Int → Int → Int → Int → Option R) → Option R
  U1 : {R : Type} → List AV → (SA × Nat → Int → SA × Nat → SA × Nat → Int → SA × Nat → Int → SA × Nat → SA × Nat → Int → SA × Nat → Option R) → Option R
  U2 : {R : Type} → List AV → (Int → Int → Int → Int → Int → SA × Nat → SA × Nat → Int → SA × Nat → SA × Nat → Int → SA × Nat → Int → SA × Nat → SA × Nat → Int → SA × Nat → Int → Int → Int → Int → Int → Int → Int → Int → Int → Int → Int → Int → Int → Int → Int → Int → SA × Nat → Int → Int → Int → Int → Int → Int → Int → Int → Int → Int → Int → Int → Int → Int → Int → Int → Int → Int → Int → Int → Int → Int → Int → Int → Int → Int → Int → Int → Int → Int → Int → Int → Int → Int → Int → Int → Int → Int → Int → Int → Int → Int → Int → Int → Int → Int → Int → Int → Int → Int → Int → Int → Int → Int → Int → Int → Int → Int → Int → Int → Int → Int → Int → Int → Int → Int → Int → Int → Int → Int → Int → Int → Int → Int → Int → Int → Int → Int → Int → Int → Int → Int → Int → Int → Int → Int → Int → Int → Int → Int → Int → Int → Int → Int → Int → Int → Int → Int → Int → Int → Int → Int → Int → Int → Int → Int → Int → Int → Int → Int → Int → Int → Int → Int → Int → Int → Int → Int → Int → Int → Int → Int → Int → Int → Int → Int → Int → Int → Int → Int → Int → Int → Int → Int → Int → Int → Int → Int → Int → Int → Int → Int → Int → Int → Int → Int → Int → Int → Int → Int → Int → Int → Int → Int → Int → Int → Int → Int → Int → Int → Int → Int → Int → Int → Int → Int → Int → Int → Int → Int → Int → Int → Int → Int → Int → Int → Int → Int → Int → Int → Int → Int → Int → Int → Int → Int → Int → Int → Int → Int → Int → Int → Int → Int → Int → Int → Int → Int → Int → Int → Int → Int → Int → Int → Int → Int → Int → Int → Int → Int → Int → Int → Int → Int → Int → Int → Int → Int → Int → Int → Int → Int → Int → Int → SA × Nat → Int → Int → Int → Int → Int → Option R) → Option R
  W0 : {R : Type} → AH O → Bid → Nat → (Int → Int → Int → Int → Int → Int → Int → Int → Option R) → Option R
  W1 : {R : Type} → AH O → Bid → Nat → (SA × Nat → Int → SA × Nat → SA × Nat → Int → SA × Nat → Int → SA × Nat → SA × Nat → Int → SA × Nat → Option R) → Option R
  W2 : {R : Type} → AH O → Bid → Nat → (Int → Int → Int → Int → Int → SA × Nat → SA × Nat → Int → SA × Nat → SA × Nat → Int → SA × Nat → Int → SA × Nat → SA × Nat → Int → SA × Nat → Int → Int → Int → Int → Int → Int → Int → Int → Int → Int → Int → Int → Int → Int → Int → Int → SA × Nat → Int → Int → Int → Int → Int → Int → Int → Int → Int → Int → Int → Int → Int → Int → Int → Int → Int → Int → Int → Int → Int → Int → Int → Int → Int → Int → Int → Int → Int → Int → Int → Int → Int → Int → Int → Int → Int → Int → Int → Int → Int → Int → Int → Int → Int → Int → Int → Int → Int → Int → Int → Int → Int → Int → Int → Int → Int → Int → Int → Int → Int → Int → Int → Int → Int → Int → Int → Int → Int → Int → Int → Int → Int → Int → Int → Int → Int → Int → Int → Int → Int → Int → Int → Int → Int → Int → Int → Int → Int → Int → Int → Int → Int → Int → Int → Int → Int → Int → Int → Int → Int → Int → Int → Int → Int → Int → Int → Int → Int → Int → Int → Int → Int → Int → Int → Int → Int → Int → Int → Int → Int → Int → Int → Int → Int → Int → Int → Int → Int → Int → Int → Int → Int → Int → Int → Int → Int → Int → Int → Int → Int → Int → Int → Int → Int → Int → Int → Int → Int → Int → Int → Int → Int → Int → Int → Int → Int → Int → Int → Int → Int → Int → Int → Int → Int → Int → Int → Int → Int → Int → Int → Int → Int → Int → Int → Int → Int → Int → Int → Int → Int → Int → Int → Int → Int → Int → Int → Int → Int → Int → Int → Int → Int → Int → Int → Int → Int → Int → Int → Int → Int → Int → Int → Int → Int → Int → Int → Int → Int → Int → Int → Int → Int → Int → Int → Int → Int → Int → Int → Int → Int → Int → Int → Int → SA × Nat → Int → Int → Int → Int → Int → Option R) → Option R
def slowWords : Words O where
  U0 := fun c K => slowU c kU0 0 K
  U1 := fun c K => slowU c kU1 0 K
  U2 := fun c K => slowU c kU2 0 K
  W0 := fun h b o K => slowW h b kW0 o K
  W1 := fun h b o K => slowW h b kW1 o K
  W2 := fun h b o K => slowW h b kW2 o K
def fastWords : Words O where
  U0 := fun c K => applyW kU0 c K
  U1 := fun c K => applyW kU1 c K
  U2 := fun c K => applyW kU2 c K
  W0 := fun h b o K => (AHall h b).bind fun cs => applyW kW0 (cs.drop o) K
  W1 := fun h b o K => (AHall h b).bind fun cs => applyW kW1 (cs.drop o) K
  W2 := fun h b o K => (AHall h b).bind fun cs => applyW kW2 (cs.drop o) K
theorem words_eq : (slowWords : Words O) = fastWords := by
  unfold slowWords fastWords
  congr 1
  · funext R c K; exact slowU_eq c kU0 0 K
  · funext R c K; exact slowU_eq c kU1 0 K
  · funext R c K; exact slowU_eq c kU2 0 K
  · funext R h b o K; exact slowW_eq h b true [true, true, true, true, true, true, true] o K
  · funext R h b o K; exact slowW_eq h b false [true, false, false, true, false, true, false, false, true, false] o K
  · funext R h b o K; exact slowW_eq h b true [true, true, true, true, false, false, true, false, false, true, false, true, false, false, true, false, true, true, true, true, true, true, true, true, true, true, true, true, true, true, true, true, false, true, true, true, true, true, true, true, true, true, true, true, true, true, true, true, true, true, true, true, true, true, true, true, true, true, true, true, true, true, true, true, true, true, true, true, true, true, true, true, true, true, true, true, true, true, true, true, true, true, true, true, true, true, true, true, true, true, true, true, true, true, true, true, true, true, true, true, true, true, true, true, true, true, true, true, true, true, true, true, true, true, true, true, true, true, true, true, true, true, true, true, true, true, true, true, true, true, true, true, true, true, true, true, true, true, true, true, true, true, true, true, true, true, true, true, true, true, true, true, true, true, true, true, true, true, true, true, true, true, true, true, true, true, true, true, true, true, true, true, true, true, true, true, true, true, true, true, true, true, true, true, true, true, true, true, true, true, true, true, true, true, true, true, true, true, true, true, true, true, true, true, true, true, true, true, true, true, true, true, true, true, true, true, true, true, true, true, true, true, true, true, true, true, true, true, true, true, true, true, true, true, true, true, true, true, true, true, true, true, true, true, true, true, true, true, true, true, true, true, true, true, true, true, true, false, true, true, true, true, true] o K
abbrev P0 : List AV := [J 0, J 0, J 0, J 0, J 0, J 0, J 0, J 0]
abbrev P1 (x0 : Int) (x1 : Int) (x2 : Int) (x3 : Int) (x4 : Int) (x5 : Int) (x6 : Int) (x7 : Int) : List AV := [J x0, J x1, J x2, J x3, J x4, J x5, J x6, J x7]
abbrev P2 (x0 : Int) (x1 : Int) (x2 : Int) (x3 : Int) (x4 : Int) (x5 : Int) (x6 : Int) (x7 : Int) (x8 : Int) (x9 : Int) (x10 : Int) (x11 : Int) (x12 : Int) (x13 : Int) (x14 : Int) (x15 : Int) (x16 : Int) (x17 : Int) (x18 : Int) (x19 : Int) (x20 : Int) (x21 : Int) (x22 : Int) (x23 : Int) (x24 : Int) (x25 : Int) (x26 : Int) (x27 : Int) (x28 : Int) (x29 : Int) (x30 : Int) (x31 : Int) (x32 : Int) (x33 : Int) (x34 : Int) (x35 : Int) (x36 : Int) (x37 : Int) (x38 : Int) (x39 : Int) (x40 : Int) (x41 : Int) (x42 : Int) (x43 : Int) (x44 : Int) (x45 : Int) (x46 : Int) (x47 : Int) (x48 : Int) (x49 : Int) (x50 : Int) (x51 : Int) (x52 : Int) (x53 : Int) (x54 : Int) (x55 : Int) (x56 : Int) (x57 : Int) (x58 : Int) (x59 : Int) (x60 : Int) (x61 : Int) (x62 : Int) (x63 : Int) (x64 : Int) : List AV := [J x0, J x1, J x2, J x3, J x4, J x5, J x6, J x7, J x8, J x9, J x10, J x11, J x12, J x13, J x14, J x15, J x16, J x17, J x18, J x19, J x20, J x21, J x22, J x23, J x24, J x25, J x26, J x27, J x28, J x29, J x30, J x31, J x32, J x33, J x34, J x35, J x36, J x37, J x38, J x39, J x40, J x41, J x42, J x43, J x44, J x45, J x46, J x47, J x48, J x49, J x50, J x51, J x52, J x53, J x54, J x55, J x56, J x57, J x58, J x59, J x60, J x61, J x62, J x63, J x64]
abbrev P3 : List AV := [J 0, J 0, J 0, J 0, J 0, J 0, J 0, J 0, J 0, J 0, J 0, J 0, J 0, J 0, J 0, J 0, J 0, J 0, J 0, J 0, J 0, J 0, J 0, J 0, J 0, J 0, J 0, J 0, J 0, J 0, J 0, J 0, J 0, J 0, J 0, J 0, J 0, J 0, J 0, J 0, J 0, J 0, J 0, J 0, J 0, J 0, J 0, J 0, J 0, J 0, J 0, J 0, J 0, J 0, J 0, J 0, J 0, J 0, J 0, J 0, J 0, J 0, J 0, J 0, J 0, J 0, J 0, J 0, J 0, J 0, J 0, J 0, J 0, J 0, J 0, J 0, J 0, J 0, J 0, J 0, J 0, J 0, J 0, J 0, J 0, J 0, J 0, J 0, J 0, J 0, J 0, J 0, J 0, J 0, J 0, J 0, J 0, J 0, J 0, J 0, J 0, J 0, J 0, J 0, J 0, J 0, J 0, J 0, J 0, J 0, J 0, J 0, J 0, J 0, J 0, J 0, J 0, J 0, J 0, J 0, J 0, J 0, J 0, J 0, J 0, J 0, J 0, J 0, J 0, J 0, J 0, J 0, J 0, J 0, J 0, J 0, J 0, J 0, J 0, J 0, J 0, J 0, J 0, J 0, J 0, J 0, J 0, J 0, J 0, J 0, J 0, J 0, J 0, J 0, J 0, J 0, J 0, J 0, J 0, J 0, J 0, J 0, J 0, J 0, J 0, J 0, J 0, J 0, J 0, J 0, J 0, J 0, J 0, J 0, J 0, J 0, J 0, J 0, J 0, J 0, J 0, J 0, J 0, J 0, J 0, J 0, J 0, J 0, J 0, J 0, J 0, J 0, J 0, J 0, J 0, J 0, J 0, J 0, J 0, J 0, J 0, J 0, J 0, J 0, J 0, J 0, J 0, J 0, J 0, J 0, J 0, J 0, J 0, J 0, J 0, J 0, J 0, J 0, J 0, J 0, J 0, J 0, J 0, J 0, J 0]
abbrev P4 : List AV := [N, J 0, N, N, J 0, N, J 0, N, N, J 0, N]
abbrev P5 (x1 : Int) (x2 : SA × Nat) (x3 : SA × Nat) (x4 : Int) (x5 : SA × Nat) (x6 : Int) (x7 : SA × Nat) (x8 : SA × Nat) (x9 : Int) (x10 : SA × Nat) : List AV := [N, J x1, L x2, L x3, J x4, L x5, J x6, L x7, L x8, J x9, L x10]
abbrev P6 (x0 : SA × Nat) (x1 : Int) (x2 : SA × Nat) (x3 : SA × Nat) (x4 : Int) (x5 : SA × Nat) (x6 : Int) (x7 : SA × Nat) (x8 : SA × Nat) (x9 : Int) (x10 : SA × Nat) : List AV := [L x0, J x1, L x2, L x3, J x4, L x5, J x6, L x7, L x8, J x9, L x10]
abbrev P7 : List AV := [J 0, J 0, J 0, J 0, J 0, N, N, J 0, N, N, J 0, N, J 0, N, N, J 0, N, J 0, J 0, J 0, J 0, J 0, J 0, J 0, J 0, J 0, J 0, J 0, J 0, J 0, J 0, J 0, J 0, N, J 0, J 0, J 0, J 0, J 0, J 0, J 0, J 0, J 0, J 0, J 0, J 0, J 0, J 0, J 0, J 0, J 0, J 0, J 0, J 0, J 0, J 0, J 0, J 0, J 0, J 0, J 0, J 0, J 0, J 0, J 0, J 0, J 0, J 0, J 0, J 0, J 0, J 0, J 0, J 0, J 0, J 0, J 0, J 0, J 0, J 0, J 0, J 0, J 0, J 0, J 0, J 0, J 0, J 0, J 0, J 0, J 0, J 0, J 0, J 0, J 0, J 0, J 0, J 0, J 0, J 0, J 0, J 0, J 0, J 0, J 0, J 0, J 0, J 0, J 0, J 0, J 0, J 0, J 0, J 0, J 0, J 0, J 0, J 0, J 0, J 0, J 0, J 0, J 0, J 0, J 0, J 0, J 0, J 0, J 0, J 0, J 0, J 0, J 0, J 0, J 0, J 0, J 0, J 0, J 0, J 0, J 0, J 0, J 0, J 0, J 0, J 0, J 0, J 0, J 0, J 0, J 0, J 0, J 0, J 0, J 0, J 0, J 0, J 0, J 0, J 0, J 0, J 0, J 0, J 0, J 0, J 0, J 0, J 0, J 0, J 0, J 0, J 0, J 0, J 0, J 0, J 0, J 0, J 0, J 0, J 0, J 0, J 0, J 0, J 0, J 0, J 0, J 0, J 0, J 0, J 0, J 0, J 0, J 0, J 0, J 0, J 0, J 0, J 0, J 0, J 0, J 0, J 0, J 0, J 0, J 0, J 0, J 0, J 0, J 0, J 0, J 0, J 0, J 0, J 0, J 0, J 0, J 0, J 0, J 0, J 0, J 0, J 0, J 0, J 0, J 0, J 0, J 0, J 0, J 0, J 0, J 0, J 0, J 0, J 0, J 0, J 0, J 0, J 0, J 0, J 0, J 0, J 0, J 0, J 0, J 0, J 0, J 0, J 0, J 0, J 0, J 0, J 0, J 0, J 0, J 0, J 0, J 0, J 0, N, J 0, J 0, J 0, J 0, J 0]
abbrev P8 (x0 : Int) (x1 : Int) (x2 : Int) (x3 : Int) (x4 : Int) (x5 : SA × Nat) (x6 : SA × Nat) (x7 : Int) (x8 : SA × Nat) (x9 : SA × Nat) (x10 : Int) (x11 : SA × Nat) (x12 : Int) (x13 : SA × Nat) (x14 : SA × Nat) (x15 : Int) (x16 : SA × Nat) (x17 : Int) (x18 : Int) (x19 : Int) (x20 : Int) (x21 : Int) (x22 : Int) (x23 : Int) (x24 : Int) (x25 : Int) (x26 : Int) (x27 : Int) (x28 : Int) (x29 : Int) (x30 : Int) (x31 : Int) (x32 : Int) (x33 : SA × Nat) (x34 : Int) (x35 : Int) (x36 : Int) (x37 : Int) (x38 : Int) (x39 : Int) (x40 : Int) (x41 : Int) (x42 : Int) (x43 : Int) (x44 : Int) (x45 : Int) (x46 : Int) (x47 : Int) (x48 : Int) (x49 : Int) (x50 : Int) (x51 : Int) (x52 : Int) (x53 : Int) (x54 : Int) (x55 : Int) (x56 : Int) (x57 : Int) (x58 : Int) (x59 : Int) (x60 : Int) (x61 : Int) (x62 : Int) (x63 : Int) (x64 : Int) (x65 : Int) (x66 : Int) (x67 : Int) (x68 : Int) (x69 : Int) (x70 : Int) (x71 : Int) (x72 : Int) (x73 : Int) (x74 : Int) (x75 : Int) (x76 : Int) (x77 : Int) (x78 : Int) (x79 : Int) (x80 : Int) (x81 : Int) (x82 : Int) (x83 : Int) (x84 : Int) (x85 : Int) (x86 : Int) (x87 : Int) (x88 : Int) (x89 : Int) (x90 : Int) (x91 : Int) (x92 : Int) (x93 : Int) (x94 : Int) (x95 : Int) (x96 : Int) (x97 : Int) (x98 : Int) (x99 : Int) (x100 : Int) (x101 : Int) (x102 : Int) (x103 : Int) (x104 : Int) (x105 : Int) (x106 : Int) (x107 : Int) (x108 : Int) (x109 : Int) (x110 : Int) (x111 : Int) (x112 : Int) (x113 : Int) (x114 : Int) (x115 : Int) (x116 : Int) (x117 : Int) (x118 : Int) (x119 : Int) (x120 : Int) (x121 : Int) (x122 : Int) (x123 : Int) (x124 : Int) (x125 : Int) (x126 : Int) (x127 : Int) (x128 : Int) (x129 : Int) (x130 : Int) (x131 : Int) (x132 : Int) (x133 : Int) (x134 : Int) (x135 : Int) (x136 : Int) (x137 : Int) (x138 : Int) (x139 : Int) (x140 : Int) (x141 : Int) (x142 : Int) (x143 : Int) (x144 : Int) (x145 : Int) (x146 : Int) (x147 : Int) (x148 : Int) (x149 : Int) (x150 : Int) (x151 : Int) (x152 : Int) (x153 : Int) (x154 : Int) (x155 : Int) (x156 : Int) (x157 : Int) (x158 : Int) (x159 : Int) (x160 : Int) (x161 : Int) (x162 : Int) (x163 : Int) (x164 : Int) (x165 : Int) (x166 : Int) (x167 : Int) (x168 : Int) (x169 : Int) (x170 : Int) (x171 : Int) (x172 : Int) (x173 : Int) (x174 : Int) (x175 : Int) (x176 : Int) (x177 : Int) (x178 : Int) (x179 : Int) (x180 : Int) (x181 : Int) (x182 : Int) (x183 : Int) (x184 : Int) (x185 : Int) (x186 : Int) (x187 : Int) (x188 : Int) (x189 : Int) (x190 : Int) (x191 : Int) (x192 : Int) (x193 : Int) (x194 : Int) (x195 : Int) (x196 : Int) (x197 : Int) (x198 : Int) (x199 : Int) (x200 : Int) (x201 : Int) (x202 : Int) (x203 : Int) (x204 : Int) (x205 : Int) (x206 : Int) (x207 : Int) (x208 : Int) (x209 : Int) (x210 : Int) (x211 : Int) (x212 : Int) (x213 : Int) (x214 : Int) (x215 : Int) (x216 : Int) (x217 : Int) (x218 : Int) (x219 : Int) (x220 : Int) (x221 : Int) (x222 : Int) (x223 : Int) (x224 : Int) (x225 : Int) (x226 : Int) (x227 : Int) (x228 : Int) (x229 : Int) (x230 : Int) (x231 : Int) (x232 : Int) (x233 : Int) (x234 : Int) (x235 : Int) (x236 : Int) (x237 : Int) (x238 : Int) (x239 : Int) (x240 : Int) (x241 : Int) (x242 : Int) (x243 : Int) (x244 : Int) (x245 : Int) (x246 : Int) (x247 : Int) (x248 : Int) (x249 : Int) (x250 : Int) (x251 : Int) (x252 : Int) (x253 : Int) (x254 : Int) (x255 : Int) (x256 : Int) (x257 : Int) (x258 : SA × Nat) (x259 : Int) (x260 : Int) (x261 : Int) (x262 : Int) (x263 : Int) : List AV := [J x0, J x1, J x2, J x3, J x4, L x5, L x6, J x7, L x8, L x9, J x10, L x11, J x12, L x13, L x14, J x15, L x16, J x17, J x18, J x19, J x20, J x21, J x22, J x23, J x24, J x25, J x26, J x27, J x28, J x29, J x30, J x31, J x32, L x33, J x34, J x35, J x36, J x37, J x38, J x39, J x40, J x41, J x42, J x43, J x44, J x45, J x46, J x47, J x48, J x49, J x50, J x51, J x52, J x53, J x54, J x55, J x56, J x57, J x58, J x59, J x60, J x61, J x62, J x63, J x64, J x65, J x66, J x67, J x68, J x69, J x70, J x71, J x72, J x73, J x74, J x75, J x76, J x77, J x78, J x79, J x80, J x81, J x82, J x83, J x84, J x85, J x86, J x87, J x88, J x89, J x90, J x91, J x92, J x93, J x94, J x95, J x96, J x97, J x98, J x99, J x100, J x101, J x102, J x103, J x104, J x105, J x106, J x107, J x108, J x109, J x110, J x111, J x112, J x113, J x114, J x115, J x116, J x117, J x118, J x119, J x120, J x121, J x122, J x123, J x124, J x125, J x126, J x127, J x128, J x129, J x130, J x131, J x132, J x133, J x134, J x135, J x136, J x137, J x138, J x139, J x140, J x141, J x142, J x143, J x144, J x145, J x146, J x147, J x148, J x149, J x150, J x151, J x152, J x153, J x154, J x155, J x156, J x157, J x158, J x159, J x160, J x161, J x162, J x163, J x164, J x165, J x166, J x167, J x168, J x169, J x170, J x171, J x172, J x173, J x174, J x175, J x176, J x177, J x178, J x179, J x180, J x181, J x182, J x183, J x184, J x185, J x186, J x187, J x188, J x189, J x190, J x191, J x192, J x193, J x194, J x195, J x196, J x197, J x198, J x199, J x200, J x201, J x202, J x203, J x204, J x205, J x206, J x207, J x208, J x209, J x210, J x211, J x212, J x213, J x214, J x215, J x216, J x217, J x218, J x219, J x220, J x221, J x222, J x223, J x224, J x225, J x226, J x227, J x228, J x229, J x230, J x231, J x232, J x233, J x234, J x235, J x236, J x237, J x238, J x239, J x240, J x241, J x242, J x243, J x244, J x245, J x246, J x247, J x248, J x249, J x250, J x251, J x252, J x253, J x254, J x255, J x256, J x257, L x258, J x259, J x260, J x261, J x262, J x263]
abbrev P9 (x0 : Int) (x1 : Int) (x2 : Int) (x3 : Int) (x4 : Int) (x5 : Int) (x6 : Int) (x7 : Int) (x8 : Int) (x9 : Int) (x10 : Int) (x11 : Int) (x12 : Int) (x13 : Int) (x14 : Int) : List AV := [J x0, J x1, J x2, J x3, J x4, J x5, J x6, J x7, J x8, J x9, J x10, J x11, J x12, J x13, J x14]
theorem bits_Add64_ext : ExternOK Tryz.prog 292 (bits_Add64 (O := O)) := add64_ext Tryz.func292 (by kernel_rfl) (by kernel_rfl) (by kernel_rfl) rfl
theorem bits_Sub64_ext : ExternOK Tryz.prog 295 (bits_Sub64 (O := O)) := sub64_ext Tryz.func295 (by kernel_rfl) (by kernel_rfl) (by kernel_rfl) rfl
def control_Right_c : Sm O := fun xs h =>
 bif Nat.beq xs.length 1 then
 (AV.asAgg 5 (xs.getD 0 .u)).bind fun c0 =>
 I6 c0 0 fun n1 => I6 c0 1 fun n2 => I6 c0 2 fun n3 => I6 c0 3 fun n4 => I6 c0 4 fun n5 => let h6 := h.bump 1
 let h7 := h6.put h.next (.cells true 42 [J n1, J n2, J n3, J n4, J n5])
 (h7.ld (.n h.next) 0).bind fun w8 =>
 (AV.asI .i64 w8).bind fun n9 =>
 ((bif ((decide (n9 < 16)) == false) then
 (h7.ld (.n h.next) 0).bind fun w10 =>
 (AV.asI .i64 w10).bind fun n11 =>
 some ([(.b (decide (n11 > 1048576)))], h7)
 else some ([(.b true)], h7)) : Option (List AV × AH O)).bind fun r12 =>
 (AV.asB (r12.1.getD 0 .u)).bind fun b13 =>
 (bif b13 then
 none
 else (r12.2.ld (.n h.next) 1).bind fun w14 =>
 (AV.asI .i64 w14).bind fun n15 =>
 ((bif ((decide (n15 < 0)) == false) then
 (r12.2.ld (.n h.next) 1).bind fun w16 =>
 (AV.asI .i64 w16).bind fun n17 =>
 (r12.2.ld (.n h.next) 0).bind fun w18 =>
 (AV.asI .i64 w18).bind fun n19 =>
 some ([(.b (decide (n17 > n19)))], r12.2)
 else some ([(.b true)], r12.2)) : Option (List AV × AH O)).bind fun r20 =>
 (AV.asB (r20.1.getD 0 .u)).bind fun b21 =>
 (bif b21 then
 none
 else (r20.2.ld (.n h.next) 4).bind fun w22 =>
 (AV.asI .i64 w22).bind fun n23 =>
 ((bif ((decide (n23 ≥ 0)) == true) then
 (r20.2.ld (.n h.next) 4).bind fun w24 =>
 (AV.asI .i64 w24).bind fun n25 =>
 some ([(.b (decide (n25 ≤ 16)))], r20.2)
 else some ([(.b false)], r20.2)) : Option (List AV × AH O)).bind fun r26 =>
 (AV.asB (r26.1.getD 0 .u)).bind fun b27 =>
 some ((.b b27), r26.2)))
 else none
def control_Right : Sm O := control_Right_c
theorem control_Right_ent : Entered Tryz.prog 75 := Tryz.call75
theorem control_Right_run : run (O := O) Tryz.prog [] Tryz.f75 (.n .z (.n (.n (.n (.g [(3, 3, [(11, .one .b)])]) (.n .x (.n (.g [(3, 5, [(22, .one .b)])]) (.n .x .z)))) .z) (.n (.g [(3, 3, [(30, .one .b)])]) .z))) = control_Right_c  := by kernel_rfl
theorem control_Right_sound : FSound RO Tryz.prog 75 control_Right := sdf control_Right_run (gnil) Tryz.func75 (by kernel_rfl)
def config_Check_c (k75 : Sm O) : Sm O := fun xs h =>
 bif Nat.beq xs.length 1 then
 (AV.asAgg 5 (xs.getD 0 .u)).bind fun c0 =>
 I6 c0 0 fun n1 => I6 c0 1 fun n2 => I6 c0 2 fun n3 => I6 c0 3 fun n4 => I6 c0 4 fun n5 => let h6 := h.bump 1
 let h7 := h6.put h.next (.cells true 42 [J n1, J n2, J n3, J n4, J n5])
 (h7.ld (.n h.next) 0).bind fun w8 =>
 (AV.asI .i64 w8).bind fun n9 =>
 (h7.ld (.n h.next) 1).bind fun w10 =>
 (AV.asI .i64 w10).bind fun n11 =>
 (h7.ld (.n h.next) 2).bind fun w12 =>
 (AV.asI .i64 w12).bind fun n13 =>
 (h7.ld (.n h.next) 3).bind fun w14 =>
 (AV.asI .i64 w14).bind fun n15 =>
 (h7.ld (.n h.next) 4).bind fun w16 =>
 (AV.asI .i64 w16).bind fun n17 =>
 (k75 [(.agg [J n9, J n11, J n13, J n15, J n17])] h7).bind fun r18 =>
 (AV.asB r18.1).bind fun b19 =>
 (bif (!b19) then
 none
 else (r18.2.ld (.n h.next) 2).bind fun w20 =>
 (AV.asI .i64 w20).bind fun n21 =>
 ((bif ((decide (n21 < 2)) == false) then
 (r18.2.ld (.n h.next) 2).bind fun w22 =>
 (AV.asI .i64 w22).bind fun n23 =>
 some ([(.b (decide (n23 > 64)))], r18.2)
 else some ([(.b true)], r18.2)) : Option (List AV × AH O)).bind fun r24 =>
 (AV.asB (r24.1.getD 0 .u)).bind fun b25 =>
 (bif b25 then
 none
 else (r24.2.ld (.n h.next) 3).bind fun w26 =>
 (AV.asI .i64 w26).bind fun n27 =>
 ((bif ((decide (n27 < 1)) == false) then
 (r24.2.ld (.n h.next) 3).bind fun w28 =>
 (AV.asI .i64 w28).bind fun n29 =>
 some ([(.b (decide (n29 > 32)))], r24.2)
 else some ([(.b true)], r24.2)) : Option (List AV × AH O)).bind fun r30 =>
 (AV.asB (r30.1.getD 0 .u)).bind fun b31 =>
 (bif b31 then
 none
 else some (J 0, r30.2))))
 else none
def config_Check : Sm O := config_Check_c control_Right
theorem config_Check_ent : Entered Tryz.prog 50 := Tryz.call50
theorem config_Check_run (k75 : Sm O) : run (O := O) Tryz.prog [(75, k75)] Tryz.f50 (.n .z (.n (.n (.n .z (.n .x (.n (.g [(3, 3, [(15, .one .b)])]) (.n .x (.n (.g [(3, 3, [(24, .one .b)])]) (.n .x .z)))))) .z) .z)) = config_Check_c k75 := by kernel_rfl
theorem config_Check_sound : FSound RO Tryz.prog 50 config_Check := sdf (config_Check_run _) (gcons control_Right_ent control_Right_sound <| gnil) Tryz.func50 (by kernel_rfl)
def meter_New_c : Sm O := fun xs h =>
 bif Nat.beq xs.length 0 then
 let h0 := h.bump 1
 let h1 := h0.put h.next (.cells true 324 [(.i .u64 0), (.i .u64 0), (.i .u64 0), (.i .u64 0), J 0, J 0])
 some ((.p (some ((.n h.next), 0))), h1)
 else none
def meter_New : Sm O := meter_New_c
theorem meter_New_ent : Entered Tryz.prog 136 := Tryz.call136
theorem meter_New_run : run (O := O) Tryz.prog [] Tryz.f136 (.n .z .z) = meter_New_c  := by kernel_rfl
theorem meter_New_sound : FSound RO Tryz.prog 136 meter_New := sdf meter_New_run (gnil) Tryz.func136 (by kernel_rfl)
def mem_New_c (k136 : Sm O) : Sm O := fun xs h =>
 bif Nat.beq xs.length 0 then
 let h0 := h.bump 1
 (k136 [] h0).bind fun r1 =>
 (AV.asP r1.1).bind fun p2 =>
 let h3 := r1.2.put h.next (.cells true 256 [(.p p2), N, J 0, J 0])
 some ((.p (some ((.n h.next), 0))), h3)
 else none
def mem_New : Sm O := mem_New_c meter_New
theorem mem_New_ent : Entered Tryz.prog 76 := Tryz.call76
theorem mem_New_run (k136 : Sm O) : run (O := O) Tryz.prog [(136, k136)] Tryz.f76 (.n .z .z) = mem_New_c k136 := by kernel_rfl
theorem mem_New_sound : FSound RO Tryz.prog 76 mem_New := sdf (mem_New_run _) (gcons meter_New_ent meter_New_sound <| gnil) Tryz.func76 (by kernel_rfl)
def meter_words__open_c : Sm O := fun xs h =>
 bif Nat.beq xs.length 2 then
 (AV.asP (xs.getD 0 .u)).bind fun p0 =>
 (AV.asI .i64 (xs.getD 1 .u)).bind fun n1 =>
 Option.bind p0 fun q2 =>
 (h.ld q2.1 q2.2).bind fun w3 =>
 (AV.asI .i64 w3).bind fun n4 =>
 Option.bind p0 fun q5 =>
 (h.st q5.1 q5.2 [(.i .i64 (IntKind.i64.wrap (n4 + n1)))]).bind fun h6 =>
 Option.bind p0 fun q7 =>
 (h6.ld q7.1 (q7.2 + 1)).bind fun w8 =>
 (AV.asI .i64 w8).bind fun n9 =>
 Option.bind p0 fun q10 =>
 (h6.ld q10.1 q10.2).bind fun w11 =>
 (AV.asI .i64 w11).bind fun n12 =>
 Option.bind p0 fun q13 =>
 (h6.st q13.1 (q13.2 + 1) [(.i .i64 (if n12 > n9 then n12 else n9))]).bind fun h14 =>
 some ((.tup []), h14)
 else none
def meter_words__open : Sm O := meter_words__open_c
theorem meter_words__open_ent : Entered Tryz.prog 268 := Tryz.call268
theorem meter_words__open_run : run (O := O) Tryz.prog [] Tryz.f268 (.n .z (.d [] [0, 1, 2, 3, 4, 5, 6, 7, 8, 9, 10, 11, 12] [0, 0, 2, 6, 14, 0, 32, 96, 224, 510, 1023, 2047, 4095])) = meter_words__open_c  := by kernel_rfl
theorem meter_words__open_sound : FSound RO Tryz.prog 268 meter_words__open := sdf meter_words__open_run (gnil) Tryz.func268 (by kernel_rfl)
def meter_Meter__Hold_c (k268 : Sm O) : Sm O := fun xs h =>
 bif Nat.beq xs.length 2 then
 (AV.asP (xs.getD 0 .u)).bind fun p0 =>
 (AV.asI .i64 (xs.getD 1 .u)).bind fun n1 =>
 ((bif ((Option.isNone p0) == false) then
 some ([(.b (decide (n1 < 0)))], h)
 else some ([(.b true)], h)) : Option (List AV × AH O)).bind fun r2 =>
 (AV.asB (r2.1.getD 0 .u)).bind fun b3 =>
 (bif b3 then
 none
 else Option.bind p0 fun q4 =>
 (r2.2.ld q4.1 (q4.2 + 4)).bind fun w5 =>
 (AV.asI .i64 w5).bind fun n6 =>
 let c7 : Bool := (decide (n1 > (IntKind.i64.wrap (281474976710656 - n6))))
 (bif c7 then
 none
 else Option.bind p0 fun q8 =>
 (k268 [(.p (some (q8.1, (q8.2 + 4)))), J n1] r2.2).bind fun r9 =>
 (AV.asTup 0 r9.1).bind fun c10 =>
 some (J 0, r9.2)))
 else none
def meter_Meter__Hold : Sm O := meter_Meter__Hold_c meter_words__open
theorem meter_Meter__Hold_ent : Entered Tryz.prog 211 := Tryz.call211
theorem meter_Meter__Hold_run (k268 : Sm O) : run (O := O) Tryz.prog [(268, k268)] Tryz.f211 (.n .z (.n (.n (.n (.g [(2, 2, [(11, .one .b)])]) (.n .x (.n .z (.n .x .z)))) .z) (.n .z .z))) = meter_Meter__Hold_c k268 := by kernel_rfl
theorem meter_Meter__Hold_sound : FSound RO Tryz.prog 211 meter_Meter__Hold := sdf (meter_Meter__Hold_run _) (gcons meter_words__open_ent meter_words__open_sound <| gnil) Tryz.func211 (by kernel_rfl)
def mem_Mem__Open_L1 (p0 : Option (Bid × Nat)) : List AV × AH O → Option ((List AV × AH O) ⊕ (List AV × AH O)) := (fun r8 =>
 (AV.asI .i64 (r8.1.getD 0 .u)).bind fun n9 =>
 Option.bind p0 fun q10 =>
 (r8.2.ld q10.1 (q10.2 + 1)).bind fun w11 =>
 (AV.asSl w11).bind fun l12 =>
 ((bif ((decide (n9 < (l12.2 : Int))) == true) then
 Option.bind p0 fun q13 =>
 (r8.2.ld q13.1 (q13.2 + 1)).bind fun w14 =>
 (AV.asSl w14).bind fun l15 =>
 (bif ((decide ((0 : Int) ≤ n9)) && (decide (n9 < (l15.2 : Int)))) then
 (SA.ref l15.1).bind fun q16 =>
 (r8.2.ld q16.1 ((q16.2 + (n9.toNat * 2)) + 1)).bind fun w17 =>
 (AV.asB w17).bind fun b18 =>
 some ([(.b b18)], r8.2)
 else none)
 else some ([(.b false)], r8.2)) : Option (List AV × AH O)).bind fun r19 =>
 (AV.asB (r19.1.getD 0 .u)).bind fun b20 =>
 (bif b20 then
 none
 else some (Sum.inr ([J n9], r19.2))))
def mem_Mem__Open_c (k211 : Sm O) : Sm O := fun xs h =>
 bif Nat.beq xs.length 2 then
 (AV.asP (xs.getD 0 .u)).bind fun p0 =>
 (AV.asI .i64 (xs.getD 1 .u)).bind fun n1 =>
 (bif (decide (n1 < 0)) then
 none
 else (bif (decide (n1 > 4194304)) then
 none
 else Option.bind p0 fun q2 =>
 (h.ld q2.1 (q2.2 + 3)).bind fun w3 =>
 (AV.asI .i64 w3).bind fun n4 =>
 (bif (decide (n4 ≥ 262144)) then
 none
 else Option.bind p0 fun q5 =>
 (h.ld q5.1 (q5.2 + 2)).bind fun w6 =>
 (AV.asI .i64 w6).bind fun n7 =>
 (loopF (S := List AV × AH O) (T := List AV × AH O) (mem_Mem__Open_L1 p0) ([J n7], h)).bind fun r21 =>
 (AV.asI .i64 (r21.1.getD 0 .u)).bind fun n22 =>
 Option.bind p0 fun q23 =>
 (r21.2.ld q23.1 (q23.2 + 1)).bind fun w24 =>
 (AV.asSl w24).bind fun l25 =>
 (bif ((n22 : Int) == (l25.2 : Int)) then
 let h26 := r21.2.bump 2
 Option.bind p0 fun q27 =>
 (h26.ld q27.1 (q27.2 + 1)).bind fun w28 =>
 (AV.asSl w28).bind fun l29 =>
 let h30 := h26.put r21.2.next (.cells true 326 [N, (.b false)])
 (h30.rdSl (.loc (.n r21.2.next) 0 2) 1 2).bind fun new31 =>
 (bif (Nat.ble ((l29.2 + 1) * 33) 35184372088832) then
 (h30.appSl (r21.2.next + 1) 326 2 l29.1 l29.2 1 new31).bind fun r32 =>
 (AV.asSl r32.1).bind fun l33 =>
 Option.bind p0 fun q34 =>
 (r32.2.st q34.1 (q34.2 + 1) [L l33]).bind fun h35 =>
 let h36 := h35.bump 1
 Option.bind p0 fun q37 =>
 (h36.ld q37.1 (q37.2 + 1)).bind fun w38 =>
 (AV.asSl w38).bind fun l39 =>
 (bif ((((decide ((0 : Int) ≤ n1)) && (decide (n1 ≤ n1))) && (decide ((n1 * 8) ≤ 140737488355328))) && (decide (n1 ≤ 140737488355328))) then
 let h40 := h36.put h35.next (.cells true 90 ((List.replicate n1.toNat [(.i .u64 0)]).flatten))
 (bif ((decide ((0 : Int) ≤ n22)) && (decide (n22 < (l39.2 : Int)))) then
 (SA.ref l39.1).bind fun q41 =>
 (h40.st q41.1 (q41.2 + (n22.toNat * 2)) [(.sl (.loc (.n h35.next) 0 1) n1.toNat), (.b true)]).bind fun h42 =>
 Option.bind p0 fun q43 =>
 (h42.ld q43.1 (q43.2 + 3)).bind fun w44 =>
 (AV.asI .i64 w44).bind fun n45 =>
 Option.bind p0 fun q46 =>
 (h42.st q46.1 (q46.2 + 2) [(.i .i64 (IntKind.i64.wrap (n22 + 1)))]).bind fun h47 =>
 Option.bind p0 fun q48 =>
 (h47.st q48.1 (q48.2 + 3) [(.i .i64 (IntKind.i64.wrap (n45 + 1)))]).bind fun h49 =>
 Option.bind p0 fun q50 =>
 (h49.ld q50.1 q50.2).bind fun w51 =>
 (AV.asP w51).bind fun p52 =>
 (k211 [(.p p52), J n1] h49).bind fun r53 =>
 (AV.asI .i64 r53.1).bind fun n54 =>
 some ((.tup [J n22, J 0]), r53.2)
 else none)
 else none)
 else none)
 else none))))
 else none
def mem_Mem__Open : Sm O := mem_Mem__Open_c meter_Meter__Hold
theorem mem_Mem__Open_ent : Entered Tryz.prog 137 := Tryz.call137
theorem mem_Mem__Open_run (k211 : Sm O) : run (O := O) Tryz.prog [(211, k211)] Tryz.f137 (.n .z (.n (.n (.n .z (.n .x (.n .z (.n .x (.n .z (.n .x .z)))))) .z) (.n .z (.n (.n (.lp false 1 [(6, .one (.i .i64))] [(6, .one (.i .i64))] (.n (.n (.g [(7, 8, [(39, .one .b)])]) (.n .x .z)) .z)) .z) (.n (.n .z (.n .z .x)) (.n (.d [] [0, 1, 2, 3, 4, 5, 6, 7, 8, 9] [0, 1, 3, 7, 0, 0, 32, 96, 255, 511]) (.n .z (.n .z .z)))))))) = mem_Mem__Open_c k211 := by kernel_rfl
theorem mem_Mem__Open_sound : FSound RO Tryz.prog 137 mem_Mem__Open := sdf (mem_Mem__Open_run _) (gcons meter_Meter__Hold_ent meter_Meter__Hold_sound <| gnil) Tryz.func137 (by kernel_rfl)
def semi_New_c (k137 : Sm O) : Sm O := fun xs h =>
 bif Nat.beq xs.length 2 then
 (AV.asP (xs.getD 0 .u)).bind fun p0 =>
 (AV.asI .i64 (xs.getD 1 .u)).bind fun n1 =>
 (bif (Option.isNone p0) then
 none
 else (k137 [(.p p0), J n1] h).bind fun r2 =>
 (AV.asTup 2 r2.1).bind fun c3 =>
 I6 c3 0 fun n4 => I6 c3 1 fun n5 => (bif ((n5 : Int) != 0) then
 none
 else let h6 := r2.2.bump 1
 let h7 := h6.put r2.2.next (.cells true 260 [(.p p0), J n4, J 0, J 0, J 0, (.b false)])
 some ((.tup [(.p (some ((.n r2.2.next), 0))), J 0]), h7)))
 else none
def semi_New : Sm O := semi_New_c mem_Mem__Open
theorem semi_New_ent : Entered Tryz.prog 77 := Tryz.call77
theorem semi_New_run (k137 : Sm O) : run (O := O) Tryz.prog [(137, k137)] Tryz.f77 (.n .z (.n (.n .z (.n .x .z)) (.n .z (.n (.n .z (.n .x .z)) .z)))) = semi_New_c k137 := by kernel_rfl
theorem semi_New_sound : FSound RO Tryz.prog 77 semi_New := sdf (semi_New_run _) (gcons mem_Mem__Open_ent mem_Mem__Open_sound <| gnil) Tryz.func77 (by kernel_rfl)
def pool_New_c (k137 : Sm O) : Sm O := fun xs h =>
 bif Nat.beq xs.length 2 then
 (AV.asP (xs.getD 0 .u)).bind fun p0 =>
 (AV.asI .i64 (xs.getD 1 .u)).bind fun n1 =>
 ((bif ((Option.isNone p0) == false) then
 some ([(.b (decide (n1 < 1)))], h)
 else some ([(.b true)], h)) : Option (List AV × AH O)).bind fun r2 =>
 (AV.asB (r2.1.getD 0 .u)).bind fun b3 =>
 ((bif (b3 == false) then
 some ([(.b (decide (n1 > 60)))], r2.2)
 else some ([(.b true)], r2.2)) : Option (List AV × AH O)).bind fun r4 =>
 (AV.asB (r4.1.getD 0 .u)).bind fun b5 =>
 (bif b5 then
 none
 else (k137 [(.p p0), J 0] r4.2).bind fun r6 =>
 (AV.asTup 2 r6.1).bind fun c7 =>
 I6 c7 0 fun n8 => I6 c7 1 fun n9 => (bif ((n9 : Int) != 0) then
 none
 else let h10 := r6.2.bump 1
 let h11 := h10.put r6.2.next (.cells true 314 [(.p p0), J n8, J n1, J 0, J 0, J 0, J 0])
 some ((.tup [(.p (some ((.n r6.2.next), 0))), J 0]), h11)))
 else none
def pool_New : Sm O := pool_New_c mem_Mem__Open
theorem pool_New_ent : Entered Tryz.prog 138 := Tryz.call138
theorem pool_New_run (k137 : Sm O) : run (O := O) Tryz.prog [(137, k137)] Tryz.f138 (.n .z (.n (.n (.g [(2, 2, [(13, .one .b)]), (6, 2, [(17, .one .b)])]) (.n .x .z)) (.n .z (.n (.n .z (.n .x .z)) .z)))) = pool_New_c k137 := by kernel_rfl
theorem pool_New_sound : FSound RO Tryz.prog 138 pool_New := sdf (pool_New_run _) (gcons mem_Mem__Open_ent mem_Mem__Open_sound <| gnil) Tryz.func138 (by kernel_rfl)
def large_New_c (k138 : Sm O) : Sm O := fun xs h =>
 bif Nat.beq xs.length 1 then
 (AV.asP (xs.getD 0 .u)).bind fun p0 =>
 (k138 [(.p p0), J 5] h).bind fun r1 =>
 (AV.asTup 2 r1.1).bind fun c2 =>
 (AV.asP (c2.getD 0 .u)).bind fun p3 =>
 I6 c2 1 fun n4 => (bif ((n4 : Int) != 0) then
 none
 else let h5 := r1.2.bump 1
 let h6 := h5.put r1.2.next (.cells true 264 [(.p p0), (.p p3), J 0, J 0, J 0, J 0, J 0, J 0, (.i .u64 0), J 0, J 0])
 some ((.tup [(.p (some ((.n r1.2.next), 0))), J 0]), h6))
 else none
def large_New : Sm O := large_New_c pool_New
theorem large_New_ent : Entered Tryz.prog 78 := Tryz.call78
theorem large_New_run (k138 : Sm O) : run (O := O) Tryz.prog [(138, k138)] Tryz.f78 (.n .z (.n .z (.n (.n .z (.n .x .z)) .z))) = large_New_c k138 := by kernel_rfl
theorem large_New_sound : FSound RO Tryz.prog 78 large_New := sdf (large_New_run _) (gcons pool_New_ent pool_New_sound <| gnil) Tryz.func78 (by kernel_rfl)
def store_New_c (k76 k77 k78 : Sm O) : Sm O := fun xs h =>
 bif Nat.beq xs.length 2 then
 (AV.asI .i64 (xs.getD 0 .u)).bind fun n0 =>
 (AV.asI .i64 (xs.getD 1 .u)).bind fun n1 =>
 ((bif ((decide (n0 < 2)) == false) then
 some ([(.b (decide (n0 > 64)))], h)
 else some ([(.b true)], h)) : Option (List AV × AH O)).bind fun r2 =>
 (AV.asB (r2.1.getD 0 .u)).bind fun b3 =>
 (bif b3 then
 none
 else (k76 [] r2.2).bind fun r4 =>
 (AV.asP r4.1).bind fun p5 =>
 (k77 [(.p p5), J n1] r4.2).bind fun r6 =>
 (AV.asTup 2 r6.1).bind fun c7 =>
 (AV.asP (c7.getD 0 .u)).bind fun p8 =>
 I6 c7 1 fun n9 => (bif ((n9 : Int) != 0) then
 none
 else (k78 [(.p p5)] r6.2).bind fun r10 =>
 (AV.asTup 2 r10.1).bind fun c11 =>
 (AV.asP (c11.getD 0 .u)).bind fun p12 =>
 I6 c11 1 fun n13 => (bif ((n13 : Int) != 0) then
 none
 else let h14 := r10.2.bump 1
 let h15 := h14.put r10.2.next (.cells true 177 [(.p p5), (.p p8), (.p p12), J n0])
 some ((.tup [(.p (some ((.n r10.2.next), 0))), J 0]), h15))))
 else none
def store_New : Sm O := store_New_c mem_New semi_New large_New
theorem store_New_ent : Entered Tryz.prog 51 := Tryz.call51
theorem store_New_run (k76 k77 k78 : Sm O) : run (O := O) Tryz.prog [(76, k76), (77, k77), (78, k78)] Tryz.f51 (.n .z (.n (.n (.g [(2, 2, [(15, .one .b)])]) (.n .x .z)) (.n .z (.n .z (.n (.n .z (.n .x .z)) (.n .z (.n (.n .z (.n .x .z)) .z))))))) = store_New_c k76 k77 k78 := by kernel_rfl
theorem store_New_sound : FSound RO Tryz.prog 51 store_New := sdf (store_New_run _ _ _) (gcons mem_New_ent mem_New_sound <| gcons semi_New_ent semi_New_sound <| gcons large_New_ent large_New_sound <| gnil) Tryz.func51 (by kernel_rfl)
def store_Store__Mem_c : Sm O := fun xs h =>
 bif Nat.beq xs.length 1 then
 (AV.asP (xs.getD 0 .u)).bind fun p0 =>
 Option.bind p0 fun q1 =>
 (h.ld q1.1 q1.2).bind fun w2 =>
 (AV.asP w2).bind fun p3 =>
 some ((.p p3), h)
 else none
def store_Store__Mem : Sm O := store_Store__Mem_c
theorem store_Store__Mem_ent : Entered Tryz.prog 53 := Tryz.call53
theorem store_Store__Mem_run : run (O := O) Tryz.prog [] Tryz.f53 (.n .z .z) = store_Store__Mem_c  := by kernel_rfl
theorem store_Store__Mem_sound : FSound RO Tryz.prog 53 store_Store__Mem := sdf store_Store__Mem_run (gnil) Tryz.func53 (by kernel_rfl)
def frames_New_c (k137 : Sm O) : Sm O := fun xs h =>
 bif Nat.beq xs.length 1 then
 (AV.asP (xs.getD 0 .u)).bind fun p0 =>
 (bif (Option.isNone p0) then
 none
 else (k137 [(.p p0), J 0] h).bind fun r1 =>
 (AV.asTup 2 r1.1).bind fun c2 =>
 I6 c2 0 fun n3 => I6 c2 1 fun n4 => (bif ((n4 : Int) != 0) then
 none
 else let h5 := r1.2.bump 1
 let h6 := h5.put r1.2.next (.cells true 229 [(.p p0), J n3, J 0, J 0, J 0, J 0, J 0])
 some ((.tup [(.p (some ((.n r1.2.next), 0))), J 0]), h6)))
 else none
def frames_New : Sm O := frames_New_c mem_Mem__Open
theorem frames_New_ent : Entered Tryz.prog 79 := Tryz.call79
theorem frames_New_run (k137 : Sm O) : run (O := O) Tryz.prog [(137, k137)] Tryz.f79 (.n .z (.n (.n .z (.n .x .z)) (.n .z (.n (.n .z (.n .x .z)) .z)))) = frames_New_c k137 := by kernel_rfl
theorem frames_New_sound : FSound RO Tryz.prog 79 frames_New := sdf (frames_New_run _) (gcons mem_Mem__Open_ent mem_Mem__Open_sound <| gnil) Tryz.func79 (by kernel_rfl)
def handles_New_c (k138 : Sm O) : Sm O := fun xs h =>
 bif Nat.beq xs.length 1 then
 (AV.asP (xs.getD 0 .u)).bind fun p0 =>
 (k138 [(.p p0), J 3] h).bind fun r1 =>
 (AV.asTup 2 r1.1).bind fun c2 =>
 (AV.asP (c2.getD 0 .u)).bind fun p3 =>
 I6 c2 1 fun n4 => (bif ((n4 : Int) != 0) then
 none
 else let h5 := r1.2.bump 1
 let h6 := h5.put r1.2.next (.cells true 242 [(.p p3), J 0, J 0, J 0])
 some ((.tup [(.p (some ((.n r1.2.next), 0))), J 0]), h6))
 else none
def handles_New : Sm O := handles_New_c pool_New
theorem handles_New_ent : Entered Tryz.prog 80 := Tryz.call80
theorem handles_New_run (k138 : Sm O) : run (O := O) Tryz.prog [(138, k138)] Tryz.f80 (.n .z (.n .z (.n (.n .z (.n .x .z)) .z))) = handles_New_c k138 := by kernel_rfl
theorem handles_New_sound : FSound RO Tryz.prog 80 handles_New := sdf (handles_New_run _) (gcons pool_New_ent pool_New_sound <| gnil) Tryz.func80 (by kernel_rfl)
def roots_New_c (k79 k80 : Sm O) : Sm O := fun xs h =>
 bif Nat.beq xs.length 1 then
 (AV.asP (xs.getD 0 .u)).bind fun p0 =>
 (k79 [(.p p0)] h).bind fun r1 =>
 (AV.asTup 2 r1.1).bind fun c2 =>
 (AV.asP (c2.getD 0 .u)).bind fun p3 =>
 I6 c2 1 fun n4 => (bif ((n4 : Int) != 0) then
 none
 else (k80 [(.p p0)] r1.2).bind fun r5 =>
 (AV.asTup 2 r5.1).bind fun c6 =>
 (AV.asP (c6.getD 0 .u)).bind fun p7 =>
 I6 c6 1 fun n8 => (bif ((n8 : Int) != 0) then
 none
 else (k80 [(.p p0)] r5.2).bind fun r9 =>
 (AV.asTup 2 r9.1).bind fun c10 =>
 (AV.asP (c10.getD 0 .u)).bind fun p11 =>
 I6 c10 1 fun n12 => (bif ((n12 : Int) != 0) then
 none
 else let h13 := r9.2.bump 1
 let h14 := h13.put r9.2.next (.cells true 161 [(.p p3), (.p p7), (.p p11)])
 some ((.tup [(.p (some ((.n r9.2.next), 0))), J 0]), h14))))
 else none
def roots_New : Sm O := roots_New_c frames_New handles_New
theorem roots_New_ent : Entered Tryz.prog 52 := Tryz.call52
theorem roots_New_run (k79 k80 : Sm O) : run (O := O) Tryz.prog [(79, k79), (80, k80)] Tryz.f52 (.n .z (.n .z (.n (.n .z (.n .x .z)) (.n .z (.n (.n .z (.n .x .z)) (.n .z (.n (.n .z (.n .x .z)) .z))))))) = roots_New_c k79 k80 := by kernel_rfl
theorem roots_New_sound : FSound RO Tryz.prog 52 roots_New := sdf (roots_New_run _ _) (gcons frames_New_ent frames_New_sound <| gcons handles_New_ent handles_New_sound <| gnil) Tryz.func52 (by kernel_rfl)
def control_Begin_c : Sm O := fun xs h =>
 bif Nat.beq xs.length 1 then
 (AV.asAgg 5 (xs.getD 0 .u)).bind fun c0 =>
 I6 c0 0 fun n1 => I6 c0 1 fun n2 => I6 c0 2 fun n3 => I6 c0 3 fun n4 => I6 c0 4 fun n5 => let h6 := h.bump 2
 let h7 := h6.put h.next (.cells true 42 [J n1, J n2, J n3, J n4, J n5])
 let h8 := h7.put (h.next + 1) (.cells true 129 [J 0, J 0])
 (h8.ld (.n h.next) 1).bind fun w9 =>
 (AV.asI .i64 w9).bind fun n10 =>
 (h8.st (.n (h.next + 1)) 0 [J n10, J 0]).bind fun h11 =>
 (h11.ld (.n (h.next + 1)) 0).bind fun w12 =>
 (AV.asI .i64 w12).bind fun n13 =>
 (h11.ld (.n (h.next + 1)) 1).bind fun w14 =>
 (AV.asI .i64 w14).bind fun n15 =>
 some ((.agg [J n13, J n15]), h11)
 else none
def control_Begin : Sm O := control_Begin_c
theorem control_Begin_ent : Entered Tryz.prog 81 := Tryz.call81
theorem control_Begin_run : run (O := O) Tryz.prog [] Tryz.f81 (.n .z .z) = control_Begin_c  := by kernel_rfl
theorem control_Begin_sound : FSound RO Tryz.prog 81 control_Begin := sdf control_Begin_run (gnil) Tryz.func81 (by kernel_rfl)
def gate_New_p (w : Words O) (k75 k81 : Sm O) : Sm O := fun xs h =>
 bif Nat.beq xs.length 1 then
 (AV.asAgg 5 (xs.getD 0 .u)).bind fun c0 =>
 I6 c0 0 fun n1 => I6 c0 1 fun n2 => I6 c0 2 fun n3 => I6 c0 3 fun n4 => I6 c0 4 fun n5 => let h6 := h.bump 2
 let h7 := h6.put h.next (.cells true 42 [J n1, J n2, J n3, J n4, J n5])
 let h8 := h7.put (h.next + 1) (.cells true 131 P0)
 (h8.ld (.n h.next) 0).bind fun w9 =>
 (AV.asI .i64 w9).bind fun n10 =>
 (h8.ld (.n h.next) 1).bind fun w11 =>
 (AV.asI .i64 w11).bind fun n12 =>
 (h8.ld (.n h.next) 2).bind fun w13 =>
 (AV.asI .i64 w13).bind fun n14 =>
 (h8.ld (.n h.next) 3).bind fun w15 =>
 (AV.asI .i64 w15).bind fun n16 =>
 (h8.ld (.n h.next) 4).bind fun w17 =>
 (AV.asI .i64 w17).bind fun n18 =>
 (k75 [(.agg [J n10, J n12, J n14, J n16, J n18])] h8).bind fun r19 =>
 (AV.asB r19.1).bind fun b20 =>
 (bif (!b20) then
 none
 else (r19.2.ld (.n h.next) 0).bind fun w21 =>
 (AV.asI .i64 w21).bind fun n22 =>
 (r19.2.ld (.n h.next) 1).bind fun w23 =>
 (AV.asI .i64 w23).bind fun n24 =>
 (r19.2.ld (.n h.next) 2).bind fun w25 =>
 (AV.asI .i64 w25).bind fun n26 =>
 (r19.2.ld (.n h.next) 3).bind fun w27 =>
 (AV.asI .i64 w27).bind fun n28 =>
 (r19.2.ld (.n h.next) 4).bind fun w29 =>
 (AV.asI .i64 w29).bind fun n30 =>
 (r19.2.ld (.n h.next) 0).bind fun w31 =>
 (AV.asI .i64 w31).bind fun n32 =>
 (r19.2.ld (.n h.next) 1).bind fun w33 =>
 (AV.asI .i64 w33).bind fun n34 =>
 (r19.2.ld (.n h.next) 2).bind fun w35 =>
 (AV.asI .i64 w35).bind fun n36 =>
 (r19.2.ld (.n h.next) 3).bind fun w37 =>
 (AV.asI .i64 w37).bind fun n38 =>
 (r19.2.ld (.n h.next) 4).bind fun w39 =>
 (AV.asI .i64 w39).bind fun n40 =>
 (k81 [(.agg [J n32, J n34, J n36, J n38, J n40])] r19.2).bind fun r41 =>
 (AV.asAgg 2 r41.1).bind fun c42 =>
 I6 c42 0 fun n43 => I6 c42 1 fun n44 => (chkE (r41.2.ld (.n h.next) 0) (some (.i .i64 n22))).bind fun _ =>
 (chkE (r41.2.ld (.n h.next) 1) (some (.i .i64 n24))).bind fun _ =>
 (chkE (r41.2.ld (.n h.next) 2) (some (.i .i64 n26))).bind fun _ =>
 (chkE (r41.2.ld (.n h.next) 3) (some (.i .i64 n28))).bind fun _ =>
 (chkE (r41.2.ld (.n h.next) 4) (some (.i .i64 n30))).bind fun _ =>
 (r41.2.st (.n (h.next + 1)) 0 (P1 n22 n24 n26 n28 n30 n43 n44 0)).bind fun h45 =>
 w.W0 h45 (.n (h.next + 1)) 0 fun n47 n49 n51 n53 n55 n57 n59 n61 =>
 some ((.tup [(.agg (P1 n47 n49 n51 n53 n55 n57 n59 n61)), J 0]), h45))
 else none
def gate_New_c (k75 k81 : Sm O) : Sm O := gate_New_p fastWords k75 k81
def gate_New : Sm O := gate_New_c control_Right control_Begin
theorem gate_New_ent : Entered Tryz.prog 54 := Tryz.call54
theorem gate_New_run (k75 k81 : Sm O) : run (O := O) Tryz.prog [(75, k75), (81, k81)] Tryz.f54 (.n .z (.n (.n .z (.n .x .z)) (.n (.d [] [0, 1, 2, 3, 4, 5] [0, 0, 2, 7, 15, 31]) .z))) = gate_New_c k75 k81 :=
 (show run (O := O) Tryz.prog [(75, k75), (81, k81)] Tryz.f54 (.n .z (.n (.n .z (.n .x .z)) (.n (.d [] [0, 1, 2, 3, 4, 5] [0, 0, 2, 7, 15, 31]) .z))) = gate_New_p slowWords k75 k81 by kernel_rfl).trans (congrArg (fun w => gate_New_p w k75 k81) words_eq)
theorem gate_New_sound : FSound RO Tryz.prog 54 gate_New := sdf (gate_New_run _ _) (gcons control_Right_ent control_Right_sound <| gcons control_Begin_ent control_Begin_sound <| gnil) Tryz.func54 (by kernel_rfl)
def sites_New_c : Sm O := fun xs h =>
 bif Nat.beq xs.length 1 then
 (AV.asI .i64 (xs.getD 0 .u)).bind fun n0 =>
 ((bif ((decide (n0 < 1)) == false) then
 some ([(.b (decide (n0 > 32)))], h)
 else some ([(.b true)], h)) : Option (List AV × AH O)).bind fun r1 =>
 (AV.asB (r1.1.getD 0 .u)).bind fun b2 =>
 (bif b2 then
 none
 else let h3 := r1.2.bump 1
 let h4 := h3.put r1.2.next (.cells true 188 (P2 n0 0 0 0 0 0 0 0 0 0 0 0 0 0 0 0 0 0 0 0 0 0 0 0 0 0 0 0 0 0 0 0 0 0 0 0 0 0 0 0 0 0 0 0 0 0 0 0 0 0 0 0 0 0 0 0 0 0 0 0 0 0 0 0 0))
 some ((.tup [(.p (some ((.n r1.2.next), 0))), J 0]), h4))
 else none
def sites_New : Sm O := sites_New_c
theorem sites_New_ent : Entered Tryz.prog 55 := Tryz.call55
theorem sites_New_run : run (O := O) Tryz.prog [] Tryz.f55 (.n .z (.n (.n (.g [(2, 2, [(9, .one .b)])]) (.n .x .z)) .z)) = sites_New_c  := by kernel_rfl
theorem sites_New_sound : FSound RO Tryz.prog 55 sites_New := sdf sites_New_run (gnil) Tryz.func55 (by kernel_rfl)
def survive_New_c : Sm O := fun xs h =>
 bif Nat.beq xs.length 0 then
 let h0 := h.bump 1
 let h1 := h0.put h.next (.cells true 190 P3)
 some ((.p (some ((.n h.next), 0))), h1)
 else none
def survive_New : Sm O := survive_New_c
theorem survive_New_ent : Entered Tryz.prog 56 := Tryz.call56
theorem survive_New_run : run (O := O) Tryz.prog [] Tryz.f56 (.n .z .z) = survive_New_c  := by kernel_rfl
theorem survive_New_sound : FSound RO Tryz.prog 56 survive_New := sdf survive_New_run (gnil) Tryz.func56 (by kernel_rfl)
def census_New_c : Sm O := fun xs h =>
 bif Nat.beq xs.length 0 then
 let h0 := h.bump 2
 let h1 := h0.put h.next (.map [] [] 0)
 let h2 := h1.put (h.next + 1) (.cells true 193 [(.mp (some h.next))])
 some ((.p (some ((.n (h.next + 1)), 0))), h2)
 else none
def census_New : Sm O := census_New_c
theorem census_New_ent : Entered Tryz.prog 57 := Tryz.call57
theorem census_New_run : run (O := O) Tryz.prog [] Tryz.f57 (.n .z .z) = census_New_c  := by kernel_rfl
theorem census_New_sound : FSound RO Tryz.prog 57 census_New := sdf census_New_run (gnil) Tryz.func57 (by kernel_rfl)
def heap_New_p (w : Words O) (k50 k51 k53 k52 k54 k55 k56 k57 : Sm O) : Sm O := fun xs h =>
 bif Nat.beq xs.length 1 then
 (AV.asAgg 5 (xs.getD 0 .u)).bind fun c0 =>
 I6 c0 0 fun n1 => I6 c0 1 fun n2 => I6 c0 2 fun n3 => I6 c0 3 fun n4 => I6 c0 4 fun n5 => let h6 := h.bump 1
 let h7 := h6.put h.next (.cells true 42 [J n1, J n2, J n3, J n4, J n5])
 (h7.ld (.n h.next) 0).bind fun w8 =>
 (AV.asI .i64 w8).bind fun n9 =>
 (h7.ld (.n h.next) 1).bind fun w10 =>
 (AV.asI .i64 w10).bind fun n11 =>
 (h7.ld (.n h.next) 2).bind fun w12 =>
 (AV.asI .i64 w12).bind fun n13 =>
 (h7.ld (.n h.next) 3).bind fun w14 =>
 (AV.asI .i64 w14).bind fun n15 =>
 (h7.ld (.n h.next) 4).bind fun w16 =>
 (AV.asI .i64 w16).bind fun n17 =>
 (k50 [(.agg [J n9, J n11, J n13, J n15, J n17])] h7).bind fun r18 =>
 (AV.asI .i64 r18.1).bind fun n19 =>
 (bif ((n19 : Int) != 0) then
 none
 else (r18.2.ld (.n h.next) 2).bind fun w20 =>
 (AV.asI .i64 w20).bind fun n21 =>
 (r18.2.ld (.n h.next) 1).bind fun w22 =>
 (AV.asI .i64 w22).bind fun n23 =>
 (k51 [J n21, J n23] r18.2).bind fun r24 =>
 (AV.asTup 2 r24.1).bind fun c25 =>
 (AV.asP (c25.getD 0 .u)).bind fun p26 =>
 I6 c25 1 fun n27 => (bif ((n27 : Int) != 0) then
 none
 else (k53 [(.p p26)] r24.2).bind fun r28 =>
 (AV.asP r28.1).bind fun p29 =>
 (k52 [(.p p29)] r28.2).bind fun r30 =>
 (AV.asTup 2 r30.1).bind fun c31 =>
 (AV.asP (c31.getD 0 .u)).bind fun p32 =>
 I6 c31 1 fun n33 => (bif ((n33 : Int) != 0) then
 none
 else let h34 := r30.2.bump 1
 (h34.ld (.n h.next) 0).bind fun w35 =>
 (AV.asI .i64 w35).bind fun n36 =>
 (h34.ld (.n h.next) 1).bind fun w37 =>
 (AV.asI .i64 w37).bind fun n38 =>
 (h34.ld (.n h.next) 2).bind fun w39 =>
 (AV.asI .i64 w39).bind fun n40 =>
 (h34.ld (.n h.next) 3).bind fun w41 =>
 (AV.asI .i64 w41).bind fun n42 =>
 (h34.ld (.n h.next) 4).bind fun w43 =>
 (AV.asI .i64 w43).bind fun n44 =>
 (k54 [(.agg [J n36, J n38, J n40, J n42, J n44])] h34).bind fun r45 =>
 (AV.asTup 2 r45.1).bind fun c46 =>
 (AV.asAgg 8 (c46.getD 0 .u)).bind fun c47 =>
 w.U0 c47 fun n48 n49 n50 n51 n52 n53 n54 n55 =>
 I6 c46 1 fun n56 => let h57 := r45.2.put r30.2.next (.cells true 131 P0)
 (h57.st (.n r30.2.next) 0 (P1 n48 n49 n50 n51 n52 n53 n54 n55)).bind fun h58 =>
 (bif ((n56 : Int) != 0) then
 none
 else (h58.ld (.n h.next) 3).bind fun w59 =>
 (AV.asI .i64 w59).bind fun n60 =>
 (k55 [J n60] h58).bind fun r61 =>
 (AV.asTup 2 r61.1).bind fun c62 =>
 (AV.asP (c62.getD 0 .u)).bind fun p63 =>
 I6 c62 1 fun n64 => (bif ((n64 : Int) != 0) then
 none
 else let h65 := r61.2.bump 1
 (h65.ld (.n h.next) 0).bind fun w66 =>
 (AV.asI .i64 w66).bind fun n67 =>
 (h65.ld (.n h.next) 1).bind fun w68 =>
 (AV.asI .i64 w68).bind fun n69 =>
 (h65.ld (.n h.next) 2).bind fun w70 =>
 (AV.asI .i64 w70).bind fun n71 =>
 (h65.ld (.n h.next) 3).bind fun w72 =>
 (AV.asI .i64 w72).bind fun n73 =>
 (h65.ld (.n h.next) 4).bind fun w74 =>
 (AV.asI .i64 w74).bind fun n75 =>
 w.W0 h65 (.n r30.2.next) 0 fun n77 n79 n81 n83 n85 n87 n89 n91 =>
 (k56 [] h65).bind fun r92 =>
 (AV.asP r92.1).bind fun p93 =>
 (chkE (r92.2.ld (.n h.next) 0) (some (.i .i64 n67))).bind fun _ =>
 (chkE (r92.2.ld (.n h.next) 1) (some (.i .i64 n69))).bind fun _ =>
 (chkE (r92.2.ld (.n h.next) 2) (some (.i .i64 n71))).bind fun _ =>
 (chkE (r92.2.ld (.n h.next) 3) (some (.i .i64 n73))).bind fun _ =>
 (chkE (r92.2.ld (.n h.next) 4) (some (.i .i64 n75))).bind fun _ =>
 (chkE (r92.2.ld (.n r30.2.next) 0) (some (.i .i64 n77))).bind fun _ =>
 (chkE (r92.2.ld (.n r30.2.next) 1) (some (.i .i64 n79))).bind fun _ =>
 (chkE (r92.2.ld (.n r30.2.next) 2) (some (.i .i64 n81))).bind fun _ =>
 (chkE (r92.2.ld (.n r30.2.next) 3) (some (.i .i64 n83))).bind fun _ =>
 (chkE (r92.2.ld (.n r30.2.next) 4) (some (.i .i64 n85))).bind fun _ =>
 (chkE (r92.2.ld (.n r30.2.next) 5) (some (.i .i64 n87))).bind fun _ =>
 (chkE (r92.2.ld (.n r30.2.next) 6) (some (.i .i64 n89))).bind fun _ =>
 (chkE (r92.2.ld (.n r30.2.next) 7) (some (.i .i64 n91))).bind fun _ =>
 let h94 := r92.2.put r61.2.next (.cells true 153 [J n67, J n69, J n71, J n73, J n75, (.p p26), (.p p32), J n77, J n79, J n81, J n83, J n85, J n87, J n89, J n91, (.i .u64 0), (.i .u64 0), (.i .u64 0), (.i .u64 0), (.p p63), (.p p93), J 0, J 0, J 0, J 0, J 0, J 0, J 0, (.i .u64 0), (.i .u64 0), (.p none), J 0, J 0, J 0, J 0, J 0, J 0, J 0, J 0, J 0])
 (k57 [] h94).bind fun r95 =>
 (AV.asP r95.1).bind fun p96 =>
 (r95.2.st (.n r61.2.next) 30 [(.p p96)]).bind fun h97 =>
 some ((.tup [(.p (some ((.n r61.2.next), 0))), J 0]), h97))))))
 else none
def heap_New_c (k50 k51 k53 k52 k54 k55 k56 k57 : Sm O) : Sm O := heap_New_p fastWords k50 k51 k53 k52 k54 k55 k56 k57
def heap_New : Sm O := heap_New_c config_Check store_New store_Store__Mem roots_New gate_New sites_New survive_New census_New
theorem heap_New_ent : Entered Tryz.prog 30 := Tryz.call30
theorem heap_New_run (k50 k51 k53 k52 k54 k55 k56 k57 : Sm O) : run (O := O) Tryz.prog [(50, k50), (51, k51), (53, k53), (52, k52), (54, k54), (55, k55), (56, k56), (57, k57)] Tryz.f30 (.n .z (.n (.n .z (.n .z (.n .x .z))) (.n .z (.n (.n .z (.n .x .z)) (.n .z (.n (.n .z (.n .x .z)) (.n .z (.n (.n .z (.n .x .z)) (.n .z (.n (.n .z (.n .x .z)) (.n (.d [] [0, 1, 2, 3, 4, 5, 6, 7, 8] [0, 0, 0, 0, 0, 0, 63, 127, 255]) (.n .z .z)))))))))))) = heap_New_c k50 k51 k53 k52 k54 k55 k56 k57 :=
 (show run (O := O) Tryz.prog [(50, k50), (51, k51), (53, k53), (52, k52), (54, k54), (55, k55), (56, k56), (57, k57)] Tryz.f30 (.n .z (.n (.n .z (.n .z (.n .x .z))) (.n .z (.n (.n .z (.n .x .z)) (.n .z (.n (.n .z (.n .x .z)) (.n .z (.n (.n .z (.n .x .z)) (.n .z (.n (.n .z (.n .x .z)) (.n (.d [] [0, 1, 2, 3, 4, 5, 6, 7, 8] [0, 0, 0, 0, 0, 0, 63, 127, 255]) (.n .z .z)))))))))))) = heap_New_p slowWords k50 k51 k53 k52 k54 k55 k56 k57 by kernel_rfl).trans (congrArg (fun w => heap_New_p w k50 k51 k53 k52 k54 k55 k56 k57) words_eq)
theorem heap_New_sound : FSound RO Tryz.prog 30 heap_New := sdf (heap_New_run _ _ _ _ _ _ _ _) (gcons config_Check_ent config_Check_sound <| gcons store_New_ent store_New_sound <| gcons store_Store__Mem_ent store_Store__Mem_sound <| gcons roots_New_ent roots_New_sound <| gcons gate_New_ent gate_New_sound <| gcons sites_New_ent sites_New_sound <| gcons survive_New_ent survive_New_sound <| gcons census_New_ent census_New_sound <| gnil) Tryz.func30 (by kernel_rfl)
def heap_Heap__Space_c : Sm O := fun xs h =>
 bif Nat.beq xs.length 1 then
 (AV.asP (xs.getD 0 .u)).bind fun p0 =>
 Option.bind p0 fun q1 =>
 (h.ld q1.1 (q1.2 + 5)).bind fun w2 =>
 (AV.asP w2).bind fun p3 =>
 some ((.p p3), h)
 else none
def heap_Heap__Space : Sm O := heap_Heap__Space_c
theorem heap_Heap__Space_ent : Entered Tryz.prog 31 := Tryz.call31
theorem heap_Heap__Space_run : run (O := O) Tryz.prog [] Tryz.f31 (.n .z .z) = heap_Heap__Space_c  := by kernel_rfl
theorem heap_Heap__Space_sound : FSound RO Tryz.prog 31 heap_Heap__Space := sdf heap_Heap__Space_run (gnil) Tryz.func31 (by kernel_rfl)
def heap_Heap__Roots_c : Sm O := fun xs h =>
 bif Nat.beq xs.length 1 then
 (AV.asP (xs.getD 0 .u)).bind fun p0 =>
 Option.bind p0 fun q1 =>
 (h.ld q1.1 (q1.2 + 6)).bind fun w2 =>
 (AV.asP w2).bind fun p3 =>
 some ((.p p3), h)
 else none
def heap_Heap__Roots : Sm O := heap_Heap__Roots_c
theorem heap_Heap__Roots_ent : Entered Tryz.prog 32 := Tryz.call32
theorem heap_Heap__Roots_run : run (O := O) Tryz.prog [] Tryz.f32 (.n .z .z) = heap_Heap__Roots_c  := by kernel_rfl
theorem heap_Heap__Roots_sound : FSound RO Tryz.prog 32 heap_Heap__Roots := sdf heap_Heap__Roots_run (gnil) Tryz.func32 (by kernel_rfl)
def haymowref18_New_c : Sm O := fun xs h =>
 bif Nat.beq xs.length 0 then
 let h0 := h.bump 1
 let h1 := h0.put h.next (.cells true 50 [J 0, N, N, J 0, N])
 (h1.st (.n h.next) 0 [J 3, N, N, J 0, N]).bind fun h2 =>
 (h2.ld (.n h.next) 0).bind fun w3 =>
 (AV.asI .i64 w3).bind fun n4 =>
 (h2.ld (.n h.next) 1).bind fun w5 =>
 (AV.asSl w5).bind fun l6 =>
 (h2.ld (.n h.next) 2).bind fun w7 =>
 (AV.asSl w7).bind fun l8 =>
 (h2.ld (.n h.next) 3).bind fun w9 =>
 (AV.asI .i64 w9).bind fun n10 =>
 (h2.ld (.n h.next) 4).bind fun w11 =>
 (AV.asSl w11).bind fun l12 =>
 some ((.agg [J n4, L l6, L l8, J n10, L l12]), h2)
 else none
def haymowref18_New : Sm O := haymowref18_New_c
theorem haymowref18_New_ent : Entered Tryz.prog 82 := Tryz.call82
theorem haymowref18_New_run : run (O := O) Tryz.prog [] Tryz.f82 (.n .z .z) = haymowref18_New_c  := by kernel_rfl
theorem haymowref18_New_sound : FSound RO Tryz.prog 82 haymowref18_New := sdf haymowref18_New_run (gnil) Tryz.func82 (by kernel_rfl)
def haymowref19_New_p (w : Words O) (k82 : Sm O) : Sm O := fun xs h =>
 bif Nat.beq xs.length 0 then
 let h0 := h.bump 1
 let h1 := h0.put h.next (.cells true 52 P4)
 (k82 [] h1).bind fun r2 =>
 (AV.asAgg 5 r2.1).bind fun c3 =>
 I6 c3 0 fun n4 => Is c3 1 fun l5 => Is c3 2 fun l6 => I6 c3 3 fun n7 => Is c3 4 fun l8 => (k82 [] r2.2).bind fun r9 =>
 (AV.asAgg 5 r9.1).bind fun c10 =>
 I6 c10 0 fun n11 => Is c10 1 fun l12 => Is c10 2 fun l13 => I6 c10 3 fun n14 => Is c10 4 fun l15 => (r9.2.st (.n h.next) 0 (P5 n4 l5 l6 n7 l8 n11 l12 l13 n14 l15)).bind fun h16 =>
 w.W1 h16 (.n h.next) 0 fun l18 n20 l22 l24 n26 l28 n30 l32 l34 n36 l38 =>
 some ((.agg (P6 l18 n20 l22 l24 n26 l28 n30 l32 l34 n36 l38)), h16)
 else none
def haymowref19_New_c (k82 : Sm O) : Sm O := haymowref19_New_p fastWords k82
def haymowref19_New : Sm O := haymowref19_New_c haymowref18_New
theorem haymowref19_New_ent : Entered Tryz.prog 58 := Tryz.call58
theorem haymowref19_New_run (k82 : Sm O) : run (O := O) Tryz.prog [(82, k82)] Tryz.f58 (.n .z .z) = haymowref19_New_c k82 :=
 (show run (O := O) Tryz.prog [(82, k82)] Tryz.f58 (.n .z .z) = haymowref19_New_p slowWords k82 by kernel_rfl).trans (congrArg (fun w => haymowref19_New_p w k82) words_eq)
theorem haymowref19_New_sound : FSound RO Tryz.prog 58 haymowref19_New := sdf (haymowref19_New_run _) (gcons haymowref18_New_ent haymowref18_New_sound <| gnil) Tryz.func58 (by kernel_rfl)
def haymowref33_New_p (w : Words O) (k58 : Sm O) : Sm O := fun xs h =>
 bif Nat.beq xs.length 1 then
 (AV.asAgg 5 (xs.getD 0 .u)).bind fun c0 =>
 I6 c0 0 fun n1 => I6 c0 1 fun n2 => I6 c0 2 fun n3 => I6 c0 3 fun n4 => I6 c0 4 fun n5 => let h6 := h.bump 2
 let h7 := h6.put h.next (.cells true 42 [J n1, J n2, J n3, J n4, J n5])
 let h8 := h7.put (h.next + 1) (.cells true 62 P7)
 let h9 := h8.bump 1
 (h9.ld (.n h.next) 0).bind fun w10 =>
 (AV.asI .i64 w10).bind fun n11 =>
 (h9.ld (.n h.next) 1).bind fun w12 =>
 (AV.asI .i64 w12).bind fun n13 =>
 (h9.ld (.n h.next) 2).bind fun w14 =>
 (AV.asI .i64 w14).bind fun n15 =>
 (h9.ld (.n h.next) 3).bind fun w16 =>
 (AV.asI .i64 w16).bind fun n17 =>
 (h9.ld (.n h.next) 4).bind fun w18 =>
 (AV.asI .i64 w18).bind fun n19 =>
 (h9.ld (.n h.next) 0).bind fun w20 =>
 (AV.asI .i64 w20).bind fun n21 =>
 (h9.ld (.n h.next) 1).bind fun w22 =>
 (AV.asI .i64 w22).bind fun n23 =>
 (h9.ld (.n h.next) 2).bind fun w24 =>
 (AV.asI .i64 w24).bind fun n25 =>
 (h9.ld (.n h.next) 3).bind fun w26 =>
 (AV.asI .i64 w26).bind fun n27 =>
 (h9.ld (.n h.next) 4).bind fun w28 =>
 (AV.asI .i64 w28).bind fun n29 =>
 (h9.ld (.n h.next) 1).bind fun w30 =>
 (AV.asI .i64 w30).bind fun n31 =>
 (h9.ld (.n h.next) 3).bind fun w32 =>
 (AV.asI .i64 w32).bind fun n33 =>
 (k58 [] h9).bind fun r34 =>
 (AV.asAgg 11 r34.1).bind fun c35 =>
 w.U1 c35 fun l36 n37 l38 l39 n40 l41 n42 l43 l44 n45 l46 =>
 (chkE (r34.2.ld (.n h.next) 0) (some (.i .i64 n11))).bind fun _ =>
 (chkE (r34.2.ld (.n h.next) 1) (some (.i .i64 n13))).bind fun _ =>
 (chkE (r34.2.ld (.n h.next) 2) (some (.i .i64 n15))).bind fun _ =>
 (chkE (r34.2.ld (.n h.next) 3) (some (.i .i64 n17))).bind fun _ =>
 (chkE (r34.2.ld (.n h.next) 4) (some (.i .i64 n19))).bind fun _ =>
 (chkE (r34.2.ld (.n h.next) 0) (some (.i .i64 n21))).bind fun _ =>
 (chkE (r34.2.ld (.n h.next) 1) (some (.i .i64 n23))).bind fun _ =>
 (chkE (r34.2.ld (.n h.next) 2) (some (.i .i64 n25))).bind fun _ =>
 (chkE (r34.2.ld (.n h.next) 3) (some (.i .i64 n27))).bind fun _ =>
 (chkE (r34.2.ld (.n h.next) 4) (some (.i .i64 n29))).bind fun _ =>
 (chkE (r34.2.ld (.n h.next) 1) (some (.i .i64 n31))).bind fun _ =>
 (chkE (r34.2.ld (.n h.next) 3) (some (.i .i64 n33))).bind fun _ =>
 (bif ((((decide ((0 : Int) ≤ n33)) && (decide (n33 ≤ n33))) && (decide ((n33 * 16) ≤ 140737488355328))) && (decide (n33 ≤ 140737488355328))) then
 let h47 := r34.2.put h8.next (.cells true 331 ((List.replicate n33.toNat [J 0, J 0]).flatten))
 (h47.st (.n (h.next + 1)) 0 [J n11, J n13, J n15, J n17, J n19, N, L l36, J n37, L l38, L l39, J n40, L l41, J n42, L l43, L l44, J n45, L l46, J n21, J n23, J n25, J n27, J n29, J n31, J 0, J 0, J 0, J 0, J 0, J 0, J 0, J 0, J 0, J 0, (.sl (.loc (.n h8.next) 0 2) n33.toNat), J 0, J 0, J 0, J 0, J 0, J 0, J 0, J 0, J 0, J 0, J 0, J 0, J 0, J 0, J 0, J 0, J 0, J 0, J 0, J 0, J 0, J 0, J 0, J 0, J 0, J 0, J 0, J 0, J 0, J 0, J 0, J 0, J 0, J 0, J 0, J 0, J 0, J 0, J 0, J 0, J 0, J 0, J 0, J 0, J 0, J 0, J 0, J 0, J 0, J 0, J 0, J 0, J 0, J 0, J 0, J 0, J 0, J 0, J 0, J 0, J 0, J 0, J 0, J 0, J 0, J 0, J 0, J 0, J 0, J 0, J 0, J 0, J 0, J 0, J 0, J 0, J 0, J 0, J 0, J 0, J 0, J 0, J 0, J 0, J 0, J 0, J 0, J 0, J 0, J 0, J 0, J 0, J 0, J 0, J 0, J 0, J 0, J 0, J 0, J 0, J 0, J 0, J 0, J 0, J 0, J 0, J 0, J 0, J 0, J 0, J 0, J 0, J 0, J 0, J 0, J 0, J 0, J 0, J 0, J 0, J 0, J 0, J 0, J 0, J 0, J 0, J 0, J 0, J 0, J 0, J 0, J 0, J 0, J 0, J 0, J 0, J 0, J 0, J 0, J 0, J 0, J 0, J 0, J 0, J 0, J 0, J 0, J 0, J 0, J 0, J 0, J 0, J 0, J 0, J 0, J 0, J 0, J 0, J 0, J 0, J 0, J 0, J 0, J 0, J 0, J 0, J 0, J 0, J 0, J 0, J 0, J 0, J 0, J 0, J 0, J 0, J 0, J 0, J 0, J 0, J 0, J 0, J 0, J 0, J 0, J 0, J 0, J 0, J 0, J 0, J 0, J 0, J 0, J 0, J 0, J 0, J 0, J 0, J 0, J 0, J 0, J 0, J 0, J 0, J 0, J 0, J 0, J 0, J 0, J 0, J 0, J 0, J 0, J 0, J 0, J 0, J 0, J 0, J 0, J 0, J 0, J 0, J 0, J 0, N, J 0, J 0, J 0, J 0, J 0]).bind fun h48 =>
 w.W2 h48 (.n (h.next + 1)) 0 fun n50 n52 n54 n56 n58 l60 l62 n64 l66 l68 n70 l72 n74 l76 l78 n80 l82 n84 n86 n88 n90 n92 n94 n96 n98 n100 n102 n104 n106 n108 n110 n112 n114 l116 n118 n120 n122 n124 n126 n128 n130 n132 n134 n136 n138 n140 n142 n144 n146 n148 n150 n152 n154 n156 n158 n160 n162 n164 n166 n168 n170 n172 n174 n176 n178 n180 n182 n184 n186 n188 n190 n192 n194 n196 n198 n200 n202 n204 n206 n208 n210 n212 n214 n216 n218 n220 n222 n224 n226 n228 n230 n232 n234 n236 n238 n240 n242 n244 n246 n248 n250 n252 n254 n256 n258 n260 n262 n264 n266 n268 n270 n272 n274 n276 n278 n280 n282 n284 n286 n288 n290 n292 n294 n296 n298 n300 n302 n304 n306 n308 n310 n312 n314 n316 n318 n320 n322 n324 n326 n328 n330 n332 n334 n336 n338 n340 n342 n344 n346 n348 n350 n352 n354 n356 n358 n360 n362 n364 n366 n368 n370 n372 n374 n376 n378 n380 n382 n384 n386 n388 n390 n392 n394 n396 n398 n400 n402 n404 n406 n408 n410 n412 n414 n416 n418 n420 n422 n424 n426 n428 n430 n432 n434 n436 n438 n440 n442 n444 n446 n448 n450 n452 n454 n456 n458 n460 n462 n464 n466 n468 n470 n472 n474 n476 n478 n480 n482 n484 n486 n488 n490 n492 n494 n496 n498 n500 n502 n504 n506 n508 n510 n512 n514 n516 n518 n520 n522 n524 n526 n528 n530 n532 n534 n536 n538 n540 n542 n544 n546 n548 n550 n552 n554 n556 n558 n560 n562 n564 l566 n568 n570 n572 n574 n576 =>
 some ((.agg (P8 n50 n52 n54 n56 n58 l60 l62 n64 l66 l68 n70 l72 n74 l76 l78 n80 l82 n84 n86 n88 n90 n92 n94 n96 n98 n100 n102 n104 n106 n108 n110 n112 n114 l116 n118 n120 n122 n124 n126 n128 n130 n132 n134 n136 n138 n140 n142 n144 n146 n148 n150 n152 n154 n156 n158 n160 n162 n164 n166 n168 n170 n172 n174 n176 n178 n180 n182 n184 n186 n188 n190 n192 n194 n196 n198 n200 n202 n204 n206 n208 n210 n212 n214 n216 n218 n220 n222 n224 n226 n228 n230 n232 n234 n236 n238 n240 n242 n244 n246 n248 n250 n252 n254 n256 n258 n260 n262 n264 n266 n268 n270 n272 n274 n276 n278 n280 n282 n284 n286 n288 n290 n292 n294 n296 n298 n300 n302 n304 n306 n308 n310 n312 n314 n316 n318 n320 n322 n324 n326 n328 n330 n332 n334 n336 n338 n340 n342 n344 n346 n348 n350 n352 n354 n356 n358 n360 n362 n364 n366 n368 n370 n372 n374 n376 n378 n380 n382 n384 n386 n388 n390 n392 n394 n396 n398 n400 n402 n404 n406 n408 n410 n412 n414 n416 n418 n420 n422 n424 n426 n428 n430 n432 n434 n436 n438 n440 n442 n444 n446 n448 n450 n452 n454 n456 n458 n460 n462 n464 n466 n468 n470 n472 n474 n476 n478 n480 n482 n484 n486 n488 n490 n492 n494 n496 n498 n500 n502 n504 n506 n508 n510 n512 n514 n516 n518 n520 n522 n524 n526 n528 n530 n532 n534 n536 n538 n540 n542 n544 n546 n548 n550 n552 n554 n556 n558 n560 n562 n564 l566 n568 n570 n572 n574 n576)), h48)
 else none)
 else none
def haymowref33_New_c (k58 : Sm O) : Sm O := haymowref33_New_p fastWords k58
def haymowref33_New : Sm O := haymowref33_New_c haymowref19_New
theorem haymowref33_New_ent : Entered Tryz.prog 33 := Tryz.call33
theorem haymowref33_New_run (k58 : Sm O) : run (O := O) Tryz.prog [(58, k58)] Tryz.f33 (.n .z (.n (.d [] [0, 2, 3, 4, 5, 6, 7, 1, 8, 9, 10] [0, 0, 0, 0, 8, 28, 0, 64, 192, 511, 1023]) .z)) = haymowref33_New_c k58 :=
 (show run (O := O) Tryz.prog [(58, k58)] Tryz.f33 (.n .z (.n (.d [] [0, 2, 3, 4, 5, 6, 7, 1, 8, 9, 10] [0, 0, 0, 0, 8, 28, 0, 64, 192, 511, 1023]) .z)) = haymowref33_New_p slowWords k58 by kernel_rfl).trans (congrArg (fun w => haymowref33_New_p w k58) words_eq)
theorem haymowref33_New_sound : FSound RO Tryz.prog 33 haymowref33_New := sdf (haymowref33_New_run _) (gcons haymowref19_New_ent haymowref19_New_sound <| gnil) Tryz.func33 (by kernel_rfl)
def sites_Sites__Count_c : Sm O := fun xs h =>
 bif Nat.beq xs.length 1 then
 (AV.asP (xs.getD 0 .u)).bind fun p0 =>
 (bif (Option.isNone p0) then
 none
 else Option.bind p0 fun q1 =>
 (h.ld q1.1 q1.2).bind fun w2 =>
 (AV.asI .i64 w2).bind fun n3 =>
 some (J n3, h))
 else none
def sites_Sites__Count : Sm O := sites_Sites__Count_c
theorem sites_Sites__Count_ent : Entered Tryz.prog 269 := Tryz.call269
theorem sites_Sites__Count_run : run (O := O) Tryz.prog [] Tryz.f269 (.n .z (.n (.n .z (.n .x .z)) .z)) = sites_Sites__Count_c  := by kernel_rfl
theorem sites_Sites__Count_sound : FSound RO Tryz.prog 269 sites_Sites__Count := sdf sites_Sites__Count_run (gnil) Tryz.func269 (by kernel_rfl)
def sites_Sites__Is_c (k269 : Sm O) : Sm O := fun xs h =>
 bif Nat.beq xs.length 2 then
 (AV.asP (xs.getD 0 .u)).bind fun p0 =>
 (AV.asI .i64 (xs.getD 1 .u)).bind fun n1 =>
 ((bif ((decide (n1 ≥ 0)) == true) then
 (k269 [(.p p0)] h).bind fun r2 =>
 (AV.asI .i64 r2.1).bind fun n3 =>
 some ([(.b (decide (n1 < n3)))], r2.2)
 else some ([(.b false)], h)) : Option (List AV × AH O)).bind fun r4 =>
 (AV.asB (r4.1.getD 0 .u)).bind fun b5 =>
 some ((.b b5), r4.2)
 else none
def sites_Sites__Is : Sm O := sites_Sites__Is_c sites_Sites__Count
theorem sites_Sites__Is_ent : Entered Tryz.prog 212 := Tryz.call212
theorem sites_Sites__Is_run (k269 : Sm O) : run (O := O) Tryz.prog [(269, k269)] Tryz.f212 (.n .z (.n (.g [(2, 4, [(12, .one .b)])]) .z)) = sites_Sites__Is_c k269 := by kernel_rfl
theorem sites_Sites__Is_sound : FSound RO Tryz.prog 212 sites_Sites__Is := sdf (sites_Sites__Is_run _) (gcons sites_Sites__Count_ent sites_Sites__Count_sound <| gnil) Tryz.func212 (by kernel_rfl)
def pool_Pool__width_c : Sm O := fun xs h =>
 bif Nat.beq xs.length 1 then
 (AV.asP (xs.getD 0 .u)).bind fun p0 =>
 Option.bind p0 fun q1 =>
 (h.ld q1.1 (q1.2 + 2)).bind fun w2 =>
 (AV.asI .i64 w2).bind fun n3 =>
 some ((.i .i64 (IntKind.i64.wrap (n3 + 1))), h)
 else none
def pool_Pool__width : Sm O := pool_Pool__width_c
theorem pool_Pool__width_ent : Entered Tryz.prog 262 := Tryz.call262
theorem pool_Pool__width_run : run (O := O) Tryz.prog [] Tryz.f262 (.n .z .z) = pool_Pool__width_c  := by kernel_rfl
theorem pool_Pool__width_sound : FSound RO Tryz.prog 262 pool_Pool__width := sdf pool_Pool__width_run (gnil) Tryz.func262 (by kernel_rfl)
def pool_Pool__at_c (k262 : Sm O) : Sm O := fun xs h =>
 bif Nat.beq xs.length 3 then
 (AV.asP (xs.getD 0 .u)).bind fun p0 =>
 (AV.asI .i64 (xs.getD 1 .u)).bind fun n1 =>
 (AV.asI .i64 (xs.getD 2 .u)).bind fun n2 =>
 (k262 [(.p p0)] h).bind fun r3 =>
 (AV.asI .i64 r3.1).bind fun n4 =>
 let v5 : Int := (IntKind.i64.wrap ((IntKind.i64.wrap (n1 - 1)) * n4))
 let v6 : Int := (IntKind.i64.wrap ((IntKind.i64.wrap (v5 + 1)) + n2))
 some (J v6, r3.2)
 else none
def pool_Pool__at : Sm O := pool_Pool__at_c pool_Pool__width
theorem pool_Pool__at_ent : Entered Tryz.prog 206 := Tryz.call206
theorem pool_Pool__at_run (k262 : Sm O) : run (O := O) Tryz.prog [(262, k262)] Tryz.f206 (.n .z .z) = pool_Pool__at_c k262 := by kernel_rfl
theorem pool_Pool__at_sound : FSound RO Tryz.prog 206 pool_Pool__at := sdf (pool_Pool__at_run _) (gcons pool_Pool__width_ent pool_Pool__width_sound <| gnil) Tryz.func206 (by kernel_rfl)
def mem_Mem__at_c : Sm O := fun xs h =>
 bif Nat.beq xs.length 2 then
 (AV.asP (xs.getD 0 .u)).bind fun p0 =>
 (AV.asI .i64 (xs.getD 1 .u)).bind fun n1 =>
 ((bif ((decide (n1 < 0)) == false) then
 Option.bind p0 fun q2 =>
 (h.ld q2.1 (q2.2 + 1)).bind fun w3 =>
 (AV.asSl w3).bind fun l4 =>
 some ([(.b (decide (n1 ≥ (l4.2 : Int))))], h)
 else some ([(.b true)], h)) : Option (List AV × AH O)).bind fun r5 =>
 (AV.asB (r5.1.getD 0 .u)).bind fun b6 =>
 ((bif (b6 == false) then
 Option.bind p0 fun q7 =>
 (r5.2.ld q7.1 (q7.2 + 1)).bind fun w8 =>
 (AV.asSl w8).bind fun l9 =>
 (bif ((decide ((0 : Int) ≤ n1)) && (decide (n1 < (l9.2 : Int)))) then
 (SA.ref l9.1).bind fun q10 =>
 (r5.2.ld q10.1 ((q10.2 + (n1.toNat * 2)) + 1)).bind fun w11 =>
 (AV.asB w11).bind fun b12 =>
 some ([(.b (!b12))], r5.2)
 else none)
 else some ([(.b true)], r5.2)) : Option (List AV × AH O)).bind fun r13 =>
 (AV.asB (r13.1.getD 0 .u)).bind fun b14 =>
 (bif b14 then
 none
 else Option.bind p0 fun q15 =>
 (r13.2.ld q15.1 (q15.2 + 1)).bind fun w16 =>
 (AV.asSl w16).bind fun l17 =>
 (bif ((decide ((0 : Int) ≤ n1)) && (decide (n1 < (l17.2 : Int)))) then
 (SA.ref l17.1).bind fun q18 =>
 some ((.p (some (q18.1, (q18.2 + (n1.toNat * 2))))), r13.2)
 else none))
 else none
def mem_Mem__at : Sm O := mem_Mem__at_c
theorem mem_Mem__at_ent : Entered Tryz.prog 260 := Tryz.call260
theorem mem_Mem__at_run : run (O := O) Tryz.prog [] Tryz.f260 (.n .z (.n (.n (.g [(2, 7, [(15, .one .b)]), (11, 9, [(26, .one .b)])]) (.n .x .z)) .z)) = mem_Mem__at_c  := by kernel_rfl
theorem mem_Mem__at_sound : FSound RO Tryz.prog 260 mem_Mem__at := sdf mem_Mem__at_run (gnil) Tryz.func260 (by kernel_rfl)
def mem_Mem__within_c (k260 : Sm O) : Sm O := fun xs h =>
 bif Nat.beq xs.length 4 then
 (AV.asP (xs.getD 0 .u)).bind fun p0 =>
 (AV.asI .i64 (xs.getD 1 .u)).bind fun n1 =>
 (AV.asI .i64 (xs.getD 2 .u)).bind fun n2 =>
 (AV.asI .i64 (xs.getD 3 .u)).bind fun n3 =>
 (k260 [(.p p0), J n1] h).bind fun r4 =>
 (AV.asP r4.1).bind fun p5 =>
 (bif (Option.isNone p5) then
 none
 else ((bif ((decide (n3 < 0)) == false) then
 some ([(.b (decide (n2 < 0)))], r4.2)
 else some ([(.b true)], r4.2)) : Option (List AV × AH O)).bind fun r6 =>
 (AV.asB (r6.1.getD 0 .u)).bind fun b7 =>
 ((bif (b7 == false) then
 Option.bind p5 fun q8 =>
 (r6.2.ld q8.1 q8.2).bind fun w9 =>
 (AV.asSl w9).bind fun l10 =>
 some ([(.b (decide (n2 > (l10.2 : Int))))], r6.2)
 else some ([(.b true)], r6.2)) : Option (List AV × AH O)).bind fun r11 =>
 (AV.asB (r11.1.getD 0 .u)).bind fun b12 =>
 ((bif (b12 == false) then
 Option.bind p5 fun q13 =>
 (r11.2.ld q13.1 q13.2).bind fun w14 =>
 (AV.asSl w14).bind fun l15 =>
 let c16 : Bool := (decide (n3 > (IntKind.i64.wrap ((l15.2 : Int) - n2))))
 some ([(.b c16)], r11.2)
 else some ([(.b true)], r11.2)) : Option (List AV × AH O)).bind fun r17 =>
 (AV.asB (r17.1.getD 0 .u)).bind fun b18 =>
 (bif b18 then
 none
 else Option.bind p5 fun q19 =>
 (r17.2.ld q19.1 q19.2).bind fun w20 =>
 (AV.asSl w20).bind fun l21 =>
 (bif (((decide ((0 : Int) ≤ n2)) && (decide (n2 ≤ (IntKind.i64.wrap (n2 + n3))))) && (decide ((IntKind.i64.wrap (n2 + n3)) ≤ (l21.2 : Int)))) then
 (SA.adv l21.1 n2.toNat 1).bind fun a22 =>
 some ((.tup [(.sl a22 ((IntKind.i64.wrap (n2 + n3)).toNat - n2.toNat)), J 0]), r17.2)
 else none)))
 else none
def mem_Mem__within : Sm O := mem_Mem__within_c mem_Mem__at
theorem mem_Mem__within_ent : Entered Tryz.prog 200 := Tryz.call200
theorem mem_Mem__within_run (k260 : Sm O) : run (O := O) Tryz.prog [(260, k260)] Tryz.f200 (.n .z (.n .z (.n (.n (.n .z (.n .x (.n (.g [(2, 2, [(23, .one .b)]), (6, 7, [(32, .one .b)]), (15, 9, [(43, .one .b)])]) (.n .x .z)))) .z) .z))) = mem_Mem__within_c k260 := by kernel_rfl
theorem mem_Mem__within_sound : FSound RO Tryz.prog 200 mem_Mem__within := sdf (mem_Mem__within_run _) (gcons mem_Mem__at_ent mem_Mem__at_sound <| gnil) Tryz.func200 (by kernel_rfl)
def wide_Of_c : Sm O := fun xs h =>
 bif Nat.beq xs.length 1 then
 (AV.asI .u64 (xs.getD 0 .u)).bind fun n0 =>
 let h1 := h.bump 1
 let h2 := h1.put h.next (.cells true 140 [(.i .u64 0), (.i .u64 0)])
 (h2.st (.n h.next) 0 [(.i .u64 0), (.i .u64 n0)]).bind fun h3 =>
 (h3.ld (.n h.next) 0).bind fun w4 =>
 (AV.asI .u64 w4).bind fun n5 =>
 (h3.ld (.n h.next) 1).bind fun w6 =>
 (AV.asI .u64 w6).bind fun n7 =>
 some ((.agg [(.i .u64 n5), (.i .u64 n7)]), h3)
 else none
def wide_Of : Sm O := wide_Of_c
theorem wide_Of_ent : Entered Tryz.prog 261 := Tryz.call261
theorem wide_Of_run : run (O := O) Tryz.prog [] Tryz.f261 (.n .z .z) = wide_Of_c  := by kernel_rfl
theorem wide_Of_sound : FSound RO Tryz.prog 261 wide_Of := sdf wide_Of_run (gnil) Tryz.func261 (by kernel_rfl)
def wide_Add_c (k292 : Sm O) : Sm O := fun xs h =>
 bif Nat.beq xs.length 2 then
 (AV.asAgg 2 (xs.getD 0 .u)).bind fun c0 =>
 (AV.asI .u64 (c0.getD 0 .u)).bind fun n1 =>
 (AV.asI .u64 (c0.getD 1 .u)).bind fun n2 =>
 (AV.asAgg 2 (xs.getD 1 .u)).bind fun c3 =>
 (AV.asI .u64 (c3.getD 0 .u)).bind fun n4 =>
 (AV.asI .u64 (c3.getD 1 .u)).bind fun n5 =>
 let h6 := h.bump 3
 let h7 := h6.put h.next (.cells true 140 [(.i .u64 n1), (.i .u64 n2)])
 let h8 := h7.put (h.next + 1) (.cells true 140 [(.i .u64 n4), (.i .u64 n5)])
 let h9 := h8.put ((h.next + 1) + 1) (.cells true 140 [(.i .u64 0), (.i .u64 0)])
 (h9.ld (.n h.next) 1).bind fun w10 =>
 (AV.asI .u64 w10).bind fun n11 =>
 (h9.ld (.n (h.next + 1)) 1).bind fun w12 =>
 (AV.asI .u64 w12).bind fun n13 =>
 (k292 [(.i .u64 n11), (.i .u64 n13), (.i .u64 0)] h9).bind fun r14 =>
 (AV.asTup 2 r14.1).bind fun c15 =>
 (AV.asI .u64 (c15.getD 0 .u)).bind fun n16 =>
 (AV.asI .u64 (c15.getD 1 .u)).bind fun n17 =>
 (r14.2.ld (.n h.next) 0).bind fun w18 =>
 (AV.asI .u64 w18).bind fun n19 =>
 (r14.2.ld (.n (h.next + 1)) 0).bind fun w20 =>
 (AV.asI .u64 w20).bind fun n21 =>
 (k292 [(.i .u64 n19), (.i .u64 n21), (.i .u64 n17)] r14.2).bind fun r22 =>
 (AV.asTup 2 r22.1).bind fun c23 =>
 (AV.asI .u64 (c23.getD 0 .u)).bind fun n24 =>
 (AV.asI .u64 (c23.getD 1 .u)).bind fun n25 =>
 (bif ((n25 : Int) != 0) then
 none
 else (r22.2.st (.n ((h.next + 1) + 1)) 0 [(.i .u64 n24), (.i .u64 n16)]).bind fun h26 =>
 (h26.ld (.n ((h.next + 1) + 1)) 0).bind fun w27 =>
 (AV.asI .u64 w27).bind fun n28 =>
 (h26.ld (.n ((h.next + 1) + 1)) 1).bind fun w29 =>
 (AV.asI .u64 w29).bind fun n30 =>
 some ((.tup [(.agg [(.i .u64 n28), (.i .u64 n30)]), (.b true)]), h26))
 else none
def wide_Add : Sm O := wide_Add_c bits_Add64
theorem wide_Add_ent : Entered Tryz.prog 235 := Tryz.call235
theorem wide_Add_run (k292 : Sm O) : run (O := O) Tryz.prog [(292, k292)] Tryz.f235 (.n .z (.n .z (.n .z (.n (.n .z (.n .x .z)) .z)))) = wide_Add_c k292 := by kernel_rfl
theorem wide_Add_sound : FSound RO Tryz.prog 235 wide_Add := sdf (wide_Add_run _) (gext bits_Add64_ext <| gnil) Tryz.func235 (by kernel_rfl)
def meter_Meter__Step_c (k261 k235 : Sm O) : Sm O := fun xs h =>
 bif Nat.beq xs.length 3 then
 (AV.asP (xs.getD 0 .u)).bind fun p0 =>
 (AV.asI .i64 (xs.getD 1 .u)).bind fun n1 =>
 (AV.asI .i64 (xs.getD 2 .u)).bind fun n2 =>
 ((bif ((Option.isNone p0) == false) then
 some ([(.b (decide (n1 < 0)))], h)
 else some ([(.b true)], h)) : Option (List AV × AH O)).bind fun r3 =>
 (AV.asB (r3.1.getD 0 .u)).bind fun b4 =>
 ((bif (b4 == false) then
 some ([(.b (decide (n1 ≥ 2)))], r3.2)
 else some ([(.b true)], r3.2)) : Option (List AV × AH O)).bind fun r5 =>
 (AV.asB (r5.1.getD 0 .u)).bind fun b6 =>
 ((bif (b6 == false) then
 some ([(.b (decide (n2 < 1)))], r5.2)
 else some ([(.b true)], r5.2)) : Option (List AV × AH O)).bind fun r7 =>
 (AV.asB (r7.1.getD 0 .u)).bind fun b8 =>
 (bif b8 then
 none
 else Option.bind p0 fun q9 =>
 (bif ((decide ((0 : Int) ≤ n1)) && (decide (n1 < 2))) then
 (r7.2.ld q9.1 (q9.2 + (n1.toNat * 2))).bind fun w10 =>
 (AV.asI .u64 w10).bind fun n11 =>
 (r7.2.ld q9.1 ((q9.2 + (n1.toNat * 2)) + 1)).bind fun w12 =>
 (AV.asI .u64 w12).bind fun n13 =>
 Option.bind p0 fun q14 =>
 (k261 [(.i .u64 (IntKind.u64.wrap n2))] r7.2).bind fun r15 =>
 (AV.asAgg 2 r15.1).bind fun c16 =>
 (AV.asI .u64 (c16.getD 0 .u)).bind fun n17 =>
 (AV.asI .u64 (c16.getD 1 .u)).bind fun n18 =>
 (chkE (r15.2.ld q9.1 (q9.2 + (n1.toNat * 2))) (some (.i .u64 n11))).bind fun _ =>
 (chkE (r15.2.ld q9.1 ((q9.2 + (n1.toNat * 2)) + 1)) (some (.i .u64 n13))).bind fun _ =>
 (k235 [(.agg [(.i .u64 n11), (.i .u64 n13)]), (.agg [(.i .u64 n17), (.i .u64 n18)])] r15.2).bind fun r19 =>
 (AV.asTup 2 r19.1).bind fun c20 =>
 (AV.asAgg 2 (c20.getD 0 .u)).bind fun c21 =>
 (AV.asI .u64 (c21.getD 0 .u)).bind fun n22 =>
 (AV.asI .u64 (c21.getD 1 .u)).bind fun n23 =>
 (AV.asB (c20.getD 1 .u)).bind fun b24 =>
 (bif ((decide ((0 : Int) ≤ n1)) && (decide (n1 < 2))) then
 (r19.2.st q14.1 (q14.2 + (n1.toNat * 2)) [(.i .u64 n22), (.i .u64 n23)]).bind fun h25 =>
 some ((.tup []), h25)
 else none)
 else none))
 else none
def meter_Meter__Step : Sm O := meter_Meter__Step_c wide_Of wide_Add
theorem meter_Meter__Step_ent : Entered Tryz.prog 201 := Tryz.call201
theorem meter_Meter__Step_run (k261 k235 : Sm O) : run (O := O) Tryz.prog [(261, k261), (235, k235)] Tryz.f201 (.n (.n (.g [(2, 2, [(11, .one .b)]), (6, 2, [(15, .one .b)]), (10, 2, [(19, .one .b)])]) (.n .x .z)) (.d [] [0, 1, 2, 3, 4, 5, 6, 7, 8, 9, 15, 16, 10, 11, 12, 13, 14, 17, 18] [0, 0, 0, 0, 4, 20, 60, 124, 0, 256, 768, 2044, 4092, 8188, 8188, 1, 32769, 114687, 245759])) = meter_Meter__Step_c k261 k235 := by kernel_rfl
theorem meter_Meter__Step_sound : FSound RO Tryz.prog 201 meter_Meter__Step := sdf (meter_Meter__Step_run _ _) (gcons wide_Of_ent wide_Of_sound <| gcons wide_Add_ent wide_Add_sound <| gnil) Tryz.func201 (by kernel_rfl)
def mem_Mem__Read_c (k200 k201 : Sm O) : Sm O := fun xs h =>
 bif Nat.beq xs.length 3 then
 (AV.asP (xs.getD 0 .u)).bind fun p0 =>
 (AV.asI .i64 (xs.getD 1 .u)).bind fun n1 =>
 (AV.asI .i64 (xs.getD 2 .u)).bind fun n2 =>
 (k200 [(.p p0), J n1, J n2, J 1] h).bind fun r3 =>
 (AV.asTup 2 r3.1).bind fun c4 =>
 Is c4 0 fun l5 => I6 c4 1 fun n6 => (bif ((n6 : Int) != 0) then
 none
 else Option.bind p0 fun q7 =>
 (r3.2.ld q7.1 q7.2).bind fun w8 =>
 (AV.asP w8).bind fun p9 =>
 (k201 [(.p p9), J 0, J 1] r3.2).bind fun r10 =>
 (AV.asTup 0 r10.1).bind fun c11 =>
 (bif (decide ((0 : Int) < (l5.2 : Int))) then
 (SA.ref l5.1).bind fun q12 =>
 (r10.2.ld q12.1 q12.2).bind fun w13 =>
 (AV.asI .u64 w13).bind fun n14 =>
 some ((.tup [(.i .u64 n14), J 0]), r10.2)
 else none))
 else none
def mem_Mem__Read : Sm O := mem_Mem__Read_c mem_Mem__within meter_Meter__Step
theorem mem_Mem__Read_ent : Entered Tryz.prog 122 := Tryz.call122
theorem mem_Mem__Read_run (k200 k201 : Sm O) : run (O := O) Tryz.prog [(200, k200), (201, k201)] Tryz.f122 (.n .z (.n .z (.n (.n .z (.n .x .z)) (.n .z .z)))) = mem_Mem__Read_c k200 k201 := by kernel_rfl
theorem mem_Mem__Read_sound : FSound RO Tryz.prog 122 mem_Mem__Read := sdf (mem_Mem__Read_run _ _) (gcons mem_Mem__within_ent mem_Mem__within_sound <| gcons meter_Meter__Step_ent meter_Meter__Step_sound <| gnil) Tryz.func122 (by kernel_rfl)
def pool_Pool__look_c (k206 k122 : Sm O) : Sm O := fun xs h =>
 bif Nat.beq xs.length 2 then
 (AV.asP (xs.getD 0 .u)).bind fun p0 =>
 (AV.asI .i64 (xs.getD 1 .u)).bind fun n1 =>
 ((bif ((decide (n1 < 1)) == false) then
 Option.bind p0 fun q2 =>
 (h.ld q2.1 (q2.2 + 3)).bind fun w3 =>
 (AV.asI .i64 w3).bind fun n4 =>
 some ([(.b (decide (n1 > n4)))], h)
 else some ([(.b true)], h)) : Option (List AV × AH O)).bind fun r5 =>
 (AV.asB (r5.1.getD 0 .u)).bind fun b6 =>
 (bif b6 then
 none
 else Option.bind p0 fun q7 =>
 (r5.2.ld q7.1 q7.2).bind fun w8 =>
 (AV.asP w8).bind fun p9 =>
 Option.bind p0 fun q10 =>
 (r5.2.ld q10.1 (q10.2 + 1)).bind fun w11 =>
 (AV.asI .i64 w11).bind fun n12 =>
 (k206 [(.p p0), J n1, (.i .i64 (-1))] r5.2).bind fun r13 =>
 (AV.asI .i64 r13.1).bind fun n14 =>
 (chkE (r13.2.ld q7.1 q7.2) (some (.p p9))).bind fun _ =>
 (chkE (r13.2.ld q10.1 (q10.2 + 1)) (some (.i .i64 n12))).bind fun _ =>
 (k122 [(.p p9), J n12, J n14] r13.2).bind fun r15 =>
 (AV.asTup 2 r15.1).bind fun c16 =>
 (AV.asI .u64 (c16.getD 0 .u)).bind fun n17 =>
 I6 c16 1 fun n18 => some ((.tup [(.i .u64 n17), (.b true)]), r15.2))
 else none
def pool_Pool__look : Sm O := pool_Pool__look_c pool_Pool__at mem_Mem__Read
theorem pool_Pool__look_ent : Entered Tryz.prog 326 := Tryz.call326
theorem pool_Pool__look_run (k206 k122 : Sm O) : run (O := O) Tryz.prog [(206, k206), (122, k122)] Tryz.f326 (.n .z (.n (.n (.g [(2, 6, [(17, .one .b)])]) (.n .x .z)) (.n (.d [] [0, 1, 2, 3, 4, 5, 6, 7, 8, 9, 10, 11, 12, 13, 14, 15, 16] [0, 1, 3, 7, 0, 16, 48, 112, 0, 0, 768, 2047, 4095, 8191, 8191, 16383, 65535]) .z))) = pool_Pool__look_c k206 k122 := by kernel_rfl
theorem pool_Pool__look_sound : FSound RO Tryz.prog 326 pool_Pool__look := sdf (pool_Pool__look_run _ _) (gcons pool_Pool__at_ent pool_Pool__at_sound <| gcons mem_Mem__Read_ent mem_Mem__Read_sound <| gnil) Tryz.func326 (by kernel_rfl)
def pool_Pool__Taken_c (k326 : Sm O) : Sm O := fun xs h =>
 bif Nat.beq xs.length 2 then
 (AV.asP (xs.getD 0 .u)).bind fun p0 =>
 (AV.asI .i64 (xs.getD 1 .u)).bind fun n1 =>
 (k326 [(.p p0), J n1] h).bind fun r2 =>
 (AV.asTup 2 r2.1).bind fun c3 =>
 (AV.asI .u64 (c3.getD 0 .u)).bind fun n4 =>
 (AV.asB (c3.getD 1 .u)).bind fun b5 =>
 ((bif (b5 == true) then
 some ([(.b (((ibits .and .u64 n4 1) : Int) == 1))], r2.2)
 else some ([(.b false)], r2.2)) : Option (List AV × AH O)).bind fun r6 =>
 (AV.asB (r6.1.getD 0 .u)).bind fun b7 =>
 some ((.b b7), r6.2)
 else none
def pool_Pool__Taken : Sm O := pool_Pool__Taken_c pool_Pool__look
theorem pool_Pool__Taken_ent : Entered Tryz.prog 265 := Tryz.call265
theorem pool_Pool__Taken_run (k326 : Sm O) : run (O := O) Tryz.prog [(326, k326)] Tryz.f265 (.n .z (.n .z (.n (.g [(1, 3, [(18, .one .b)])]) .z))) = pool_Pool__Taken_c k326 := by kernel_rfl
theorem pool_Pool__Taken_sound : FSound RO Tryz.prog 265 pool_Pool__Taken := sdf (pool_Pool__Taken_run _) (gcons pool_Pool__look_ent pool_Pool__look_sound <| gnil) Tryz.func265 (by kernel_rfl)
def pool_Pool__Gen_c (k326 : Sm O) : Sm O := fun xs h =>
 bif Nat.beq xs.length 2 then
 (AV.asP (xs.getD 0 .u)).bind fun p0 =>
 (AV.asI .i64 (xs.getD 1 .u)).bind fun n1 =>
 (k326 [(.p p0), J n1] h).bind fun r2 =>
 (AV.asTup 2 r2.1).bind fun c3 =>
 (AV.asI .u64 (c3.getD 0 .u)).bind fun n4 =>
 (AV.asB (c3.getD 1 .u)).bind fun b5 =>
 some ((.i .i64 (IntKind.i64.wrap (Int.fdiv n4 (2 ^ 1)))), r2.2)
 else none
def pool_Pool__Gen : Sm O := pool_Pool__Gen_c pool_Pool__look
theorem pool_Pool__Gen_ent : Entered Tryz.prog 283 := Tryz.call283
theorem pool_Pool__Gen_run (k326 : Sm O) : run (O := O) Tryz.prog [(326, k326)] Tryz.f283 (.n .z (.n .z .z)) = pool_Pool__Gen_c k326 := by kernel_rfl
theorem pool_Pool__Gen_sound : FSound RO Tryz.prog 283 pool_Pool__Gen := sdf (pool_Pool__Gen_run _) (gcons pool_Pool__look_ent pool_Pool__look_sound <| gnil) Tryz.func283 (by kernel_rfl)
def handles_Handles__id_c (k265 k283 : Sm O) : Sm O := fun xs h =>
 bif Nat.beq xs.length 2 then
 (AV.asP (xs.getD 0 .u)).bind fun p0 =>
 (AV.asI .i64 (xs.getD 1 .u)).bind fun n1 =>
 let v2 : Int := (IntKind.i64.wrap ((ibits .and .i64 n1 1048575) + 1))
 ((bif ((decide (n1 < 0)) == false) then
 Option.bind p0 fun q3 =>
 (h.ld q3.1 q3.2).bind fun w4 =>
 (AV.asP w4).bind fun p5 =>
 (k265 [(.p p5), J v2] h).bind fun r6 =>
 (AV.asB r6.1).bind fun b7 =>
 some ([(.b (!b7))], r6.2)
 else some ([(.b true)], h)) : Option (List AV × AH O)).bind fun r8 =>
 (AV.asB (r8.1.getD 0 .u)).bind fun b9 =>
 ((bif (b9 == false) then
 Option.bind p0 fun q10 =>
 (r8.2.ld q10.1 q10.2).bind fun w11 =>
 (AV.asP w11).bind fun p12 =>
 (k283 [(.p p12), J v2] r8.2).bind fun r13 =>
 (AV.asI .i64 r13.1).bind fun n14 =>
 some ([(.b ((n14 : Int) != (Int.fdiv n1 (2 ^ 20))))], r13.2)
 else some ([(.b true)], r8.2)) : Option (List AV × AH O)).bind fun r15 =>
 (AV.asB (r15.1.getD 0 .u)).bind fun b16 =>
 (bif b16 then
 none
 else some ((.tup [J v2, J 0]), r15.2))
 else none
def handles_Handles__id : Sm O := handles_Handles__id_c pool_Pool__Taken pool_Pool__Gen
theorem handles_Handles__id_ent : Entered Tryz.prog 285 := Tryz.call285
theorem handles_Handles__id_run (k265 k283 : Sm O) : run (O := O) Tryz.prog [(265, k265), (283, k283)] Tryz.f285 (.n .z (.n .z (.n (.n (.g [(2, 7, [(20, .one .b)]), (11, 9, [(31, .one .b)])]) (.n .x .z)) .z))) = handles_Handles__id_c k265 k283 := by kernel_rfl
theorem handles_Handles__id_sound : FSound RO Tryz.prog 285 handles_Handles__id := sdf (handles_Handles__id_run _ _) (gcons pool_Pool__Taken_ent pool_Pool__Taken_sound <| gcons pool_Pool__Gen_ent pool_Pool__Gen_sound <| gnil) Tryz.func285 (by kernel_rfl)
def pool_Pool__check_c (k265 : Sm O) : Sm O := fun xs h =>
 bif Nat.beq xs.length 3 then
 (AV.asP (xs.getD 0 .u)).bind fun p0 =>
 (AV.asI .i64 (xs.getD 1 .u)).bind fun n1 =>
 (AV.asI .i64 (xs.getD 2 .u)).bind fun n2 =>
 (k265 [(.p p0), J n1] h).bind fun r3 =>
 (AV.asB r3.1).bind fun b4 =>
 (bif (!b4) then
 none
 else ((bif ((decide (n2 < 0)) == false) then
 Option.bind p0 fun q5 =>
 (r3.2.ld q5.1 (q5.2 + 2)).bind fun w6 =>
 (AV.asI .i64 w6).bind fun n7 =>
 some ([(.b (decide (n2 ≥ n7)))], r3.2)
 else some ([(.b true)], r3.2)) : Option (List AV × AH O)).bind fun r8 =>
 (AV.asB (r8.1.getD 0 .u)).bind fun b9 =>
 (bif b9 then
 none
 else some (J 0, r8.2)))
 else none
def pool_Pool__check : Sm O := pool_Pool__check_c pool_Pool__Taken
theorem pool_Pool__check_ent : Entered Tryz.prog 205 := Tryz.call205
theorem pool_Pool__check_run (k265 : Sm O) : run (O := O) Tryz.prog [(265, k265)] Tryz.f205 (.n .z (.n (.n (.n .z (.n .x (.n (.g [(2, 6, [(22, .one .b)])]) (.n .x .z)))) .z) .z)) = pool_Pool__check_c k265 := by kernel_rfl
theorem pool_Pool__check_sound : FSound RO Tryz.prog 205 pool_Pool__check := sdf (pool_Pool__check_run _) (gcons pool_Pool__Taken_ent pool_Pool__Taken_sound <| gnil) Tryz.func205 (by kernel_rfl)
def pool_Pool__Get_c (k205 k206 k122 : Sm O) : Sm O := fun xs h =>
 bif Nat.beq xs.length 3 then
 (AV.asP (xs.getD 0 .u)).bind fun p0 =>
 (AV.asI .i64 (xs.getD 1 .u)).bind fun n1 =>
 (AV.asI .i64 (xs.getD 2 .u)).bind fun n2 =>
 (k205 [(.p p0), J n1, J n2] h).bind fun r3 =>
 (AV.asI .i64 r3.1).bind fun n4 =>
 (bif ((n4 : Int) != 0) then
 none
 else Option.bind p0 fun q5 =>
 (r3.2.ld q5.1 q5.2).bind fun w6 =>
 (AV.asP w6).bind fun p7 =>
 Option.bind p0 fun q8 =>
 (r3.2.ld q8.1 (q8.2 + 1)).bind fun w9 =>
 (AV.asI .i64 w9).bind fun n10 =>
 (k206 [(.p p0), J n1, J n2] r3.2).bind fun r11 =>
 (AV.asI .i64 r11.1).bind fun n12 =>
 (chkE (r11.2.ld q5.1 q5.2) (some (.p p7))).bind fun _ =>
 (chkE (r11.2.ld q8.1 (q8.2 + 1)) (some (.i .i64 n10))).bind fun _ =>
 (k122 [(.p p7), J n10, J n12] r11.2).bind fun r13 =>
 (AV.asTup 2 r13.1).bind fun c14 =>
 (AV.asI .u64 (c14.getD 0 .u)).bind fun n15 =>
 I6 c14 1 fun n16 => some ((.tup [(.i .u64 n15), J n16]), r13.2))
 else none
def pool_Pool__Get : Sm O := pool_Pool__Get_c pool_Pool__check pool_Pool__at mem_Mem__Read
theorem pool_Pool__Get_ent : Entered Tryz.prog 127 := Tryz.call127
theorem pool_Pool__Get_run (k205 k206 k122 : Sm O) : run (O := O) Tryz.prog [(205, k205), (206, k206), (122, k122)] Tryz.f127 (.n .z (.n (.n .z (.n .z (.n .x .z))) (.n (.d [] [0, 1, 2, 3, 4, 5, 6, 7, 8, 9, 10, 11, 12, 13, 14, 15, 16] [0, 1, 3, 7, 0, 16, 48, 112, 0, 0, 0, 1792, 4095, 8191, 8191, 32767, 65535]) .z))) = pool_Pool__Get_c k205 k206 k122 := by kernel_rfl
theorem pool_Pool__Get_sound : FSound RO Tryz.prog 127 pool_Pool__Get := sdf (pool_Pool__Get_run _ _ _) (gcons pool_Pool__check_ent pool_Pool__check_sound <| gcons pool_Pool__at_ent pool_Pool__at_sound <| gcons mem_Mem__Read_ent mem_Mem__Read_sound <| gnil) Tryz.func127 (by kernel_rfl)
def handles_Handles__Get_c (k285 k127 : Sm O) : Sm O := fun xs h =>
 bif Nat.beq xs.length 2 then
 (AV.asP (xs.getD 0 .u)).bind fun p0 =>
 (AV.asI .i64 (xs.getD 1 .u)).bind fun n1 =>
 (k285 [(.p p0), J n1] h).bind fun r2 =>
 (AV.asTup 2 r2.1).bind fun c3 =>
 I6 c3 0 fun n4 => I6 c3 1 fun n5 => (bif ((n5 : Int) != 0) then
 none
 else Option.bind p0 fun q6 =>
 (r2.2.ld q6.1 q6.2).bind fun w7 =>
 (AV.asP w7).bind fun p8 =>
 (k127 [(.p p8), J n4, J 0] r2.2).bind fun r9 =>
 (AV.asTup 2 r9.1).bind fun c10 =>
 (AV.asI .u64 (c10.getD 0 .u)).bind fun n11 =>
 I6 c10 1 fun n12 => some ((.tup [(.i .u64 n11), J n12]), r9.2))
 else none
def handles_Handles__Get : Sm O := handles_Handles__Get_c handles_Handles__id pool_Pool__Get
theorem handles_Handles__Get_ent : Entered Tryz.prog 225 := Tryz.call225
theorem handles_Handles__Get_run (k285 k127 : Sm O) : run (O := O) Tryz.prog [(285, k285), (127, k127)] Tryz.f225 (.n .z (.n .z (.n (.n .z (.n .x .z)) (.n .z .z)))) = handles_Handles__Get_c k285 k127 := by kernel_rfl
theorem handles_Handles__Get_sound : FSound RO Tryz.prog 225 handles_Handles__Get := sdf (handles_Handles__Get_run _ _) (gcons handles_Handles__id_ent handles_Handles__id_sound <| gcons pool_Pool__Get_ent pool_Pool__Get_sound <| gnil) Tryz.func225 (by kernel_rfl)
def roots_Roots__Get_c (k225 : Sm O) : Sm O := fun xs h =>
 bif Nat.beq xs.length 2 then
 (AV.asP (xs.getD 0 .u)).bind fun p0 =>
 (AV.asI .i64 (xs.getD 1 .u)).bind fun n1 =>
 (bif (decide (n1 ≥ 0)) then
 Option.bind p0 fun q2 =>
 (h.ld q2.1 (q2.2 + 1)).bind fun w3 =>
 (AV.asP w3).bind fun p4 =>
 (k225 [(.p p4), J n1] h).bind fun r5 =>
 (AV.asTup 2 r5.1).bind fun c6 =>
 (AV.asI .u64 (c6.getD 0 .u)).bind fun n7 =>
 I6 c6 1 fun n8 => some ((.tup [(.i .u64 n7), J n8]), r5.2)
 else none)
 else none
def roots_Roots__Get : Sm O := roots_Roots__Get_c handles_Handles__Get
theorem roots_Roots__Get_ent : Entered Tryz.prog 156 := Tryz.call156
theorem roots_Roots__Get_run (k225 : Sm O) : run (O := O) Tryz.prog [(225, k225)] Tryz.f156 (.n .z (.n (.n .z (.n .z .x)) (.n (.d [] [0, 1, 2, 3, 4, 5, 6, 7, 8, 9, 10] [0, 1, 3, 7, 0, 16, 63, 127, 127, 511, 1023]) .z))) = roots_Roots__Get_c k225 := by kernel_rfl
theorem roots_Roots__Get_sound : FSound RO Tryz.prog 156 roots_Roots__Get := sdf (roots_Roots__Get_run _) (gcons handles_Handles__Get_ent handles_Handles__Get_sound <| gnil) Tryz.func156 (by kernel_rfl)
def frames_Frames__Words_c : Sm O := fun xs h =>
 bif Nat.beq xs.length 1 then
 (AV.asP (xs.getD 0 .u)).bind fun p0 =>
 Option.bind p0 fun q1 =>
 (h.ld q1.1 (q1.2 + 3)).bind fun w2 =>
 (AV.asI .i64 w2).bind fun n3 =>
 some (J n3, h)
 else none
def frames_Frames__Words : Sm O := frames_Frames__Words_c
theorem frames_Frames__Words_ent : Entered Tryz.prog 317 := Tryz.call317
theorem frames_Frames__Words_run : run (O := O) Tryz.prog [] Tryz.f317 (.n .z .z) = frames_Frames__Words_c  := by kernel_rfl
theorem frames_Frames__Words_sound : FSound RO Tryz.prog 317 frames_Frames__Words := sdf frames_Frames__Words_run (gnil) Tryz.func317 (by kernel_rfl)
def handles_Handles__Count_c : Sm O := fun xs h =>
 bif Nat.beq xs.length 1 then
 (AV.asP (xs.getD 0 .u)).bind fun p0 =>
 Option.bind p0 fun q1 =>
 (h.ld q1.1 ((q1.2 + 1) + 2)).bind fun w2 =>
 (AV.asI .i64 w2).bind fun n3 =>
 some (J n3, h)
 else none
def handles_Handles__Count : Sm O := handles_Handles__Count_c
theorem handles_Handles__Count_ent : Entered Tryz.prog 318 := Tryz.call318
theorem handles_Handles__Count_run : run (O := O) Tryz.prog [] Tryz.f318 (.n .z .z) = handles_Handles__Count_c  := by kernel_rfl
theorem handles_Handles__Count_sound : FSound RO Tryz.prog 318 handles_Handles__Count := sdf handles_Handles__Count_run (gnil) Tryz.func318 (by kernel_rfl)
def roots_Roots__Charge_c (k317 k318 : Sm O) : Sm O := fun xs h =>
 bif Nat.beq xs.length 1 then
 (AV.asP (xs.getD 0 .u)).bind fun p0 =>
 Option.bind p0 fun q1 =>
 (h.ld q1.1 q1.2).bind fun w2 =>
 (AV.asP w2).bind fun p3 =>
 Option.bind p0 fun q4 =>
 (h.ld q4.1 (q4.2 + 1)).bind fun w5 =>
 (AV.asP w5).bind fun p6 =>
 Option.bind p0 fun q7 =>
 (h.ld q7.1 (q7.2 + 2)).bind fun w8 =>
 (AV.asP w8).bind fun p9 =>
 (k317 [(.p p3)] h).bind fun r10 =>
 (AV.asI .i64 r10.1).bind fun n11 =>
 (chkE (r10.2.ld q4.1 (q4.2 + 1)) (some (.p p6))).bind fun _ =>
 (chkE (r10.2.ld q7.1 (q7.2 + 2)) (some (.p p9))).bind fun _ =>
 (k318 [(.p p6)] r10.2).bind fun r12 =>
 (AV.asI .i64 r12.1).bind fun n13 =>
 (chkE (r12.2.ld q7.1 (q7.2 + 2)) (some (.p p9))).bind fun _ =>
 (k318 [(.p p9)] r12.2).bind fun r14 =>
 (AV.asI .i64 r14.1).bind fun n15 =>
 let v16 : Int := (IntKind.i64.wrap (4 * (IntKind.i64.wrap (n13 + n15))))
 some ((.i .i64 (IntKind.i64.wrap (n11 + v16))), r14.2)
 else none
def roots_Roots__Charge : Sm O := roots_Roots__Charge_c frames_Frames__Words handles_Handles__Count
theorem roots_Roots__Charge_ent : Entered Tryz.prog 254 := Tryz.call254
theorem roots_Roots__Charge_run (k317 k318 : Sm O) : run (O := O) Tryz.prog [(317, k317), (318, k318)] Tryz.f254 (.n .z (.n (.d [] [0, 1, 2, 3, 5, 6, 7, 8, 10, 11, 12, 13, 4, 9, 14, 15, 16, 17, 18] [0, 1, 3, 7, 15, 0, 32, 96, 224, 511, 0, 1024, 3072, 7168, 16383, 32767, 65535, 131071, 262143]) .z)) = roots_Roots__Charge_c k317 k318 := by kernel_rfl
theorem roots_Roots__Charge_sound : FSound RO Tryz.prog 254 roots_Roots__Charge := sdf (roots_Roots__Charge_run _ _) (gcons frames_Frames__Words_ent frames_Frames__Words_sound <| gcons handles_Handles__Count_ent handles_Handles__Count_sound <| gnil) Tryz.func254 (by kernel_rfl)
def heap_Heap__used_c (k254 : Sm O) : Sm O := fun xs h =>
 bif Nat.beq xs.length 1 then
 (AV.asP (xs.getD 0 .u)).bind fun p0 =>
 Option.bind p0 fun q1 =>
 (h.ld q1.1 (q1.2 + 31)).bind fun w2 =>
 (AV.asI .i64 w2).bind fun n3 =>
 Option.bind p0 fun q4 =>
 (h.ld q4.1 (q4.2 + 6)).bind fun w5 =>
 (AV.asP w5).bind fun p6 =>
 (k254 [(.p p6)] h).bind fun r7 =>
 (AV.asI .i64 r7.1).bind fun n8 =>
 (chkE (r7.2.ld q1.1 (q1.2 + 31)) (some (.i .i64 n3))).bind fun _ =>
 some ((.i .i64 (IntKind.i64.wrap (n3 + n8))), r7.2)
 else none
def heap_Heap__used : Sm O := heap_Heap__used_c roots_Roots__Charge
theorem heap_Heap__used_ent : Entered Tryz.prog 191 := Tryz.call191
theorem heap_Heap__used_run (k254 : Sm O) : run (O := O) Tryz.prog [(254, k254)] Tryz.f191 (.n .z (.n (.d [] [0, 1, 2, 3, 4, 5, 6, 7, 8, 9, 10] [0, 1, 3, 7, 0, 16, 48, 112, 240, 511, 1023]) .z)) = heap_Heap__used_c k254 := by kernel_rfl
theorem heap_Heap__used_sound : FSound RO Tryz.prog 191 heap_Heap__used := sdf (heap_Heap__used_run _) (gcons roots_Roots__Charge_ent roots_Roots__Charge_sound <| gnil) Tryz.func191 (by kernel_rfl)
def gate_over_c : Sm O := fun xs h =>
 bif Nat.beq xs.length 3 then
 (AV.asI .i64 (xs.getD 0 .u)).bind fun n0 =>
 (AV.asI .i64 (xs.getD 1 .u)).bind fun n1 =>
 (AV.asI .i64 (xs.getD 2 .u)).bind fun n2 =>
 ((bif ((decide ((if 0 > n0 then 0 else n0) > n2)) == false) then
 let v3 : Int := (IntKind.i64.wrap (n2 - (if 0 > n0 then 0 else n0)))
 some ([(.b (decide ((if 0 > n1 then 0 else n1) > v3)))], h)
 else some ([(.b true)], h)) : Option (List AV × AH O)).bind fun r4 =>
 (AV.asB (r4.1.getD 0 .u)).bind fun b5 =>
 some ((.b b5), r4.2)
 else none
def gate_over : Sm O := gate_over_c
theorem gate_over_ent : Entered Tryz.prog 279 := Tryz.call279
theorem gate_over_run : run (O := O) Tryz.prog [] Tryz.f279 (.n .z (.n .z (.n (.g [(3, 5, [(20, .one .b)])]) .z))) = gate_over_c  := by kernel_rfl
theorem gate_over_sound : FSound RO Tryz.prog 279 gate_over := sdf gate_over_run (gnil) Tryz.func279 (by kernel_rfl)
def gate_Gate__Asks_p (w : Words O) (k279 : Sm O) : Sm O := fun xs h =>
 bif Nat.beq xs.length 3 then
 (AV.asAgg 8 (xs.getD 0 .u)).bind fun c0 =>
 w.U0 c0 fun n1 n2 n3 n4 n5 n6 n7 n8 =>
 (AV.asI .i64 (xs.getD 1 .u)).bind fun n9 =>
 (AV.asI .i64 (xs.getD 2 .u)).bind fun n10 =>
 let h11 := h.bump 1
 let h12 := h11.put h.next (.cells true 131 (P1 n1 n2 n3 n4 n5 n6 n7 n8))
 (h12.ld (.n h.next) 5).bind fun w13 =>
 (AV.asI .i64 w13).bind fun n14 =>
 (k279 [J n9, J n10, J n14] h12).bind fun r15 =>
 (AV.asB r15.1).bind fun b16 =>
 some ((.b b16), r15.2)
 else none
def gate_Gate__Asks_c (k279 : Sm O) : Sm O := gate_Gate__Asks_p fastWords k279
def gate_Gate__Asks : Sm O := gate_Gate__Asks_c gate_over
theorem gate_Gate__Asks_ent : Entered Tryz.prog 219 := Tryz.call219
theorem gate_Gate__Asks_run (k279 : Sm O) : run (O := O) Tryz.prog [(279, k279)] Tryz.f219 (.n .z .z) = gate_Gate__Asks_c k279 :=
 (show run (O := O) Tryz.prog [(279, k279)] Tryz.f219 (.n .z .z) = gate_Gate__Asks_p slowWords k279 by kernel_rfl).trans (congrArg (fun w => gate_Gate__Asks_p w k279) words_eq)
theorem gate_Gate__Asks_sound : FSound RO Tryz.prog 219 gate_Gate__Asks := sdf (gate_Gate__Asks_run _) (gcons gate_over_ent gate_over_sound <| gnil) Tryz.func219 (by kernel_rfl)
def bits_Mul64_c : Sm O := fun xs h =>
 bif Nat.beq xs.length 2 then
 (AV.asI .u64 (xs.getD 0 .u)).bind fun n0 =>
 (AV.asI .u64 (xs.getD 1 .u)).bind fun n1 =>
 let v2 : Int := (IntKind.u64.wrap ((ibits .and .u64 n0 4294967295) * (ibits .and .u64 n1 4294967295)))
 let v3 : Int := (IntKind.u64.wrap ((Int.fdiv n0 (2 ^ 32)) * (ibits .and .u64 n1 4294967295)))
 let v4 : Int := (ibits .and .u64 (IntKind.u64.wrap (v3 + (Int.fdiv v2 (2 ^ 32)))) 4294967295)
 let v5 : Int := (Int.fdiv (IntKind.u64.wrap (v3 + (Int.fdiv v2 (2 ^ 32)))) (2 ^ 32))
 let v6 : Int := (IntKind.u64.wrap ((ibits .and .u64 n0 4294967295) * (Int.fdiv n1 (2 ^ 32))))
 let v7 : Int := (IntKind.u64.wrap ((Int.fdiv n0 (2 ^ 32)) * (Int.fdiv n1 (2 ^ 32))))
 let v8 : Int := (IntKind.u64.wrap ((IntKind.u64.wrap (v7 + v5)) + (Int.fdiv (IntKind.u64.wrap (v4 + v6)) (2 ^ 32))))
 some ((.tup [(.i .u64 v8), (.i .u64 (IntKind.u64.wrap (n0 * n1)))]), h)
 else none
def bits_Mul64 : Sm O := bits_Mul64_c
theorem bits_Mul64_ent : Entered Tryz.prog 355 := Tryz.call355
theorem bits_Mul64_run : run (O := O) Tryz.prog [] Tryz.f355 (.n .z (.n .z (.n .z (.n .z (.n .z (.n .z (.n .z (.n .z (.n .z (.n .z (.n .z .z))))))))))) = bits_Mul64_c  := by kernel_rfl
theorem bits_Mul64_sound : FSound RO Tryz.prog 355 bits_Mul64 := sdf bits_Mul64_run (gnil) Tryz.func355 (by kernel_rfl)
def wide_Mul_c (k355 k292 : Sm O) : Sm O := fun xs h =>
 bif Nat.beq xs.length 2 then
 (AV.asAgg 2 (xs.getD 0 .u)).bind fun c0 =>
 (AV.asI .u64 (c0.getD 0 .u)).bind fun n1 =>
 (AV.asI .u64 (c0.getD 1 .u)).bind fun n2 =>
 (AV.asI .u64 (xs.getD 1 .u)).bind fun n3 =>
 let h4 := h.bump 2
 let h5 := h4.put h.next (.cells true 140 [(.i .u64 n1), (.i .u64 n2)])
 let h6 := h5.put (h.next + 1) (.cells true 140 [(.i .u64 0), (.i .u64 0)])
 (h6.ld (.n h.next) 1).bind fun w7 =>
 (AV.asI .u64 w7).bind fun n8 =>
 (k355 [(.i .u64 n8), (.i .u64 n3)] h6).bind fun r9 =>
 (AV.asTup 2 r9.1).bind fun c10 =>
 (AV.asI .u64 (c10.getD 0 .u)).bind fun n11 =>
 (AV.asI .u64 (c10.getD 1 .u)).bind fun n12 =>
 (r9.2.ld (.n h.next) 0).bind fun w13 =>
 (AV.asI .u64 w13).bind fun n14 =>
 (k355 [(.i .u64 n14), (.i .u64 n3)] r9.2).bind fun r15 =>
 (AV.asTup 2 r15.1).bind fun c16 =>
 (AV.asI .u64 (c16.getD 0 .u)).bind fun n17 =>
 (AV.asI .u64 (c16.getD 1 .u)).bind fun n18 =>
 (k292 [(.i .u64 n18), (.i .u64 n11), (.i .u64 0)] r15.2).bind fun r19 =>
 (AV.asTup 2 r19.1).bind fun c20 =>
 (AV.asI .u64 (c20.getD 0 .u)).bind fun n21 =>
 (AV.asI .u64 (c20.getD 1 .u)).bind fun n22 =>
 ((bif (((n17 : Int) != 0) == false) then
 some ([(.b ((n22 : Int) != 0))], r19.2)
 else some ([(.b true)], r19.2)) : Option (List AV × AH O)).bind fun r23 =>
 (AV.asB (r23.1.getD 0 .u)).bind fun b24 =>
 (bif b24 then
 none
 else (r23.2.st (.n (h.next + 1)) 0 [(.i .u64 n21), (.i .u64 n12)]).bind fun h25 =>
 (h25.ld (.n (h.next + 1)) 0).bind fun w26 =>
 (AV.asI .u64 w26).bind fun n27 =>
 (h25.ld (.n (h.next + 1)) 1).bind fun w28 =>
 (AV.asI .u64 w28).bind fun n29 =>
 some ((.tup [(.agg [(.i .u64 n27), (.i .u64 n29)]), (.b true)]), h25))
 else none
def wide_Mul : Sm O := wide_Mul_c bits_Mul64 bits_Add64
theorem wide_Mul_ent : Entered Tryz.prog 333 := Tryz.call333
theorem wide_Mul_run (k355 k292 : Sm O) : run (O := O) Tryz.prog [(355, k355), (292, k292)] Tryz.f333 (.n .z (.n .z (.n .z (.n .z (.n (.n (.g [(2, 2, [(36, .one .b)])]) (.n .x .z)) .z))))) = wide_Mul_c k355 k292 := by kernel_rfl
theorem wide_Mul_sound : FSound RO Tryz.prog 333 wide_Mul := sdf (wide_Mul_run _ _) (gcons bits_Mul64_ent bits_Mul64_sound <| gext bits_Add64_ext <| gnil) Tryz.func333 (by kernel_rfl)
def cost_of_c (k261 k333 : Sm O) : Sm O := fun xs h =>
 bif Nat.beq xs.length 2 then
 (AV.asI .i64 (xs.getD 0 .u)).bind fun n0 =>
 (AV.asI .u64 (xs.getD 1 .u)).bind fun n1 =>
 let h2 := h.bump 1
 let h3 := h2.put h.next (.cells true 140 [(.i .u64 0), (.i .u64 0)])
 let h4 := h3.bump 1
 (k261 [(.i .u64 (IntKind.u64.wrap (if 0 > n0 then 0 else n0)))] h4).bind fun r5 =>
 (AV.asAgg 2 r5.1).bind fun c6 =>
 (AV.asI .u64 (c6.getD 0 .u)).bind fun n7 =>
 (AV.asI .u64 (c6.getD 1 .u)).bind fun n8 =>
 (k333 [(.agg [(.i .u64 n7), (.i .u64 n8)]), (.i .u64 n1)] r5.2).bind fun r9 =>
 (AV.asTup 2 r9.1).bind fun c10 =>
 (AV.asAgg 2 (c10.getD 0 .u)).bind fun c11 =>
 (AV.asI .u64 (c11.getD 0 .u)).bind fun n12 =>
 (AV.asI .u64 (c11.getD 1 .u)).bind fun n13 =>
 (AV.asB (c10.getD 1 .u)).bind fun b14 =>
 let h15 := r9.2.put h3.next (.cells true 140 [(.i .u64 0), (.i .u64 0)])
 (h15.st (.n h3.next) 0 [(.i .u64 n12), (.i .u64 n13)]).bind fun h16 =>
 (h16.ld (.n h3.next) 0).bind fun w17 =>
 (AV.asI .u64 w17).bind fun n18 =>
 (h16.ld (.n h3.next) 1).bind fun w19 =>
 (AV.asI .u64 w19).bind fun n20 =>
 (h16.st (.n h.next) 0 [(.i .u64 n18), (.i .u64 n20)]).bind fun h21 =>
 (h21.ld (.n h.next) 0).bind fun w22 =>
 (AV.asI .u64 w22).bind fun n23 =>
 (h21.ld (.n h.next) 1).bind fun w24 =>
 (AV.asI .u64 w24).bind fun n25 =>
 some ((.agg [(.i .u64 n23), (.i .u64 n25)]), h21)
 else none
def cost_of : Sm O := cost_of_c wide_Of wide_Mul
theorem cost_of_ent : Entered Tryz.prog 291 := Tryz.call291
theorem cost_of_run (k261 k333 : Sm O) : run (O := O) Tryz.prog [(261, k261), (333, k333)] Tryz.f291 (.n .z (.n .z .z)) = cost_of_c k261 k333 := by kernel_rfl
theorem cost_of_sound : FSound RO Tryz.prog 291 cost_of := sdf (cost_of_run _ _) (gcons wide_Of_ent wide_Of_sound <| gcons wide_Mul_ent wide_Mul_sound <| gnil) Tryz.func291 (by kernel_rfl)
def cost_sum_L1 (l0 : SA × Nat) (h2 : AH O) (k235 : Sm O) : List AV × AH O → Option ((List AV × AH O) ⊕ (List AV × AH O)) := (fun r5 =>
 (AV.asI .i64 (r5.1.getD 0 .u)).bind fun n6 =>
 (bif (decide (n6 < (l0.2 : Int))) then
 let h7 := r5.2.bump 1
 (bif ((decide ((0 : Int) ≤ n6)) && (decide (n6 < (l0.2 : Int)))) then
 (SA.ref l0.1).bind fun q8 =>
 (h7.ld q8.1 (q8.2 + (n6.toNat * 2))).bind fun w9 =>
 (AV.asI .u64 w9).bind fun n10 =>
 (h7.ld q8.1 ((q8.2 + (n6.toNat * 2)) + 1)).bind fun w11 =>
 (AV.asI .u64 w11).bind fun n12 =>
 let h13 := h7.put r5.2.next (.cells true 140 [(.i .u64 0), (.i .u64 0)])
 (h13.st (.n r5.2.next) 0 [(.i .u64 n10), (.i .u64 n12)]).bind fun h14 =>
 (h14.ld (.n h2.next) 0).bind fun w15 =>
 (AV.asI .u64 w15).bind fun n16 =>
 (h14.ld (.n h2.next) 1).bind fun w17 =>
 (AV.asI .u64 w17).bind fun n18 =>
 (h14.ld (.n r5.2.next) 0).bind fun w19 =>
 (AV.asI .u64 w19).bind fun n20 =>
 (h14.ld (.n r5.2.next) 1).bind fun w21 =>
 (AV.asI .u64 w21).bind fun n22 =>
 (k235 [(.agg [(.i .u64 n16), (.i .u64 n18)]), (.agg [(.i .u64 n20), (.i .u64 n22)])] h14).bind fun r23 =>
 (AV.asTup 2 r23.1).bind fun c24 =>
 (AV.asAgg 2 (c24.getD 0 .u)).bind fun c25 =>
 (AV.asI .u64 (c25.getD 0 .u)).bind fun n26 =>
 (AV.asI .u64 (c25.getD 1 .u)).bind fun n27 =>
 (AV.asB (c24.getD 1 .u)).bind fun b28 =>
 (r23.2.st (.n h2.next) 0 [(.i .u64 n26), (.i .u64 n27)]).bind fun h29 =>
 some (Sum.inl ([(.i .i64 (IntKind.i64.wrap (n6 + 1)))], h29))
 else none)
 else some (Sum.inr ([], r5.2))))
def cost_sum_c (k235 : Sm O) : Sm O := fun xs h =>
 bif Nat.beq xs.length 1 then
 (AV.asSl (xs.getD 0 .u)).bind fun l0 =>
 let h1 := h.bump 1
 let h2 := h1.put h.next (.cells true 140 [(.i .u64 0), (.i .u64 0)])
 let h3 := h2.bump 1
 let h4 := h3.put h2.next (.cells true 140 [(.i .u64 0), (.i .u64 0)])
 (loopF (S := List AV × AH O) (T := List AV × AH O) (cost_sum_L1 l0 h2 k235) ([J 0], h4)).bind fun r30 =>
 (r30.2.ld (.n h2.next) 0).bind fun w31 =>
 (AV.asI .u64 w31).bind fun n32 =>
 (r30.2.ld (.n h2.next) 1).bind fun w33 =>
 (AV.asI .u64 w33).bind fun n34 =>
 (r30.2.st (.n h.next) 0 [(.i .u64 n32), (.i .u64 n34)]).bind fun h35 =>
 (h35.ld (.n h.next) 0).bind fun w36 =>
 (AV.asI .u64 w36).bind fun n37 =>
 (h35.ld (.n h.next) 1).bind fun w38 =>
 (AV.asI .u64 w38).bind fun n39 =>
 some ((.agg [(.i .u64 n37), (.i .u64 n39)]), h35)
 else none
def cost_sum : Sm O := cost_sum_c wide_Add
theorem cost_sum_ent : Entered Tryz.prog 290 := Tryz.call290
theorem cost_sum_run (k235 : Sm O) : run (O := O) Tryz.prog [(235, k235)] Tryz.f290 (.n .z (.n .z (.n (.n .z (.n (.lp false 0 [(8, .one (.i .i64))] [] (.n .z (.n .z (.n (.n .z .z) .z)))) .z)) .z))) = cost_sum_c k235 := by kernel_rfl
theorem cost_sum_sound : FSound RO Tryz.prog 290 cost_sum := sdf (cost_sum_run _) (gcons wide_Add_ent wide_Add_sound <| gnil) Tryz.func290 (by kernel_rfl)
def cost_Deposit_c (k291 k290 : Sm O) : Sm O := fun xs h =>
 bif Nat.beq xs.length 2 then
 (AV.asI .i64 (xs.getD 0 .u)).bind fun n0 =>
 (AV.asI .i64 (xs.getD 1 .u)).bind fun n1 =>
 let h2 := h.bump 1
 let h3 := h2.put h.next (.cells true 140 [(.i .u64 0), (.i .u64 0)])
 let h4 := h3.bump 1
 (k291 [J n0, (.i .u64 64)] h4).bind fun r5 =>
 (AV.asAgg 2 r5.1).bind fun c6 =>
 (AV.asI .u64 (c6.getD 0 .u)).bind fun n7 =>
 (AV.asI .u64 (c6.getD 1 .u)).bind fun n8 =>
 (k291 [J n1, (.i .u64 64)] r5.2).bind fun r9 =>
 (AV.asAgg 2 r9.1).bind fun c10 =>
 (AV.asI .u64 (c10.getD 0 .u)).bind fun n11 =>
 (AV.asI .u64 (c10.getD 1 .u)).bind fun n12 =>
 let h13 := r9.2.put h3.next (.cells true 140 [(.i .u64 n7), (.i .u64 n8), (.i .u64 n11), (.i .u64 n12)])
 (k290 [(.sl (.loc (.n h3.next) 0 2) 2)] h13).bind fun r14 =>
 (AV.asAgg 2 r14.1).bind fun c15 =>
 (AV.asI .u64 (c15.getD 0 .u)).bind fun n16 =>
 (AV.asI .u64 (c15.getD 1 .u)).bind fun n17 =>
 (r14.2.st (.n h.next) 0 [(.i .u64 n16), (.i .u64 n17)]).bind fun h18 =>
 (h18.ld (.n h.next) 0).bind fun w19 =>
 (AV.asI .u64 w19).bind fun n20 =>
 (h18.ld (.n h.next) 1).bind fun w21 =>
 (AV.asI .u64 w21).bind fun n22 =>
 some ((.agg [(.i .u64 n20), (.i .u64 n22)]), h18)
 else none
def cost_Deposit : Sm O := cost_Deposit_c cost_of cost_sum
theorem cost_Deposit_ent : Entered Tryz.prog 234 := Tryz.call234
theorem cost_Deposit_run (k291 k290 : Sm O) : run (O := O) Tryz.prog [(291, k291), (290, k290)] Tryz.f234 (.n .z .z) = cost_Deposit_c k291 k290 := by kernel_rfl
theorem cost_Deposit_sound : FSound RO Tryz.prog 234 cost_Deposit := sdf (cost_Deposit_run _ _) (gcons cost_of_ent cost_of_sound <| gcons cost_sum_ent cost_sum_sound <| gnil) Tryz.func234 (by kernel_rfl)
def ledger_Ledger__in_c (k235 : Sm O) : Sm O := fun xs h =>
 bif Nat.beq xs.length 2 then
 (AV.asAgg 4 (xs.getD 0 .u)).bind fun c0 =>
 (AV.asI .u64 (c0.getD 0 .u)).bind fun n1 =>
 (AV.asI .u64 (c0.getD 1 .u)).bind fun n2 =>
 (AV.asI .u64 (c0.getD 2 .u)).bind fun n3 =>
 (AV.asI .u64 (c0.getD 3 .u)).bind fun n4 =>
 (AV.asAgg 2 (xs.getD 1 .u)).bind fun c5 =>
 (AV.asI .u64 (c5.getD 0 .u)).bind fun n6 =>
 (AV.asI .u64 (c5.getD 1 .u)).bind fun n7 =>
 let h8 := h.bump 3
 let h9 := h8.put h.next (.cells true 144 [(.i .u64 n1), (.i .u64 n2), (.i .u64 n3), (.i .u64 n4)])
 let h10 := h9.put (h.next + 1) (.cells true 140 [(.i .u64 n6), (.i .u64 n7)])
 let h11 := h10.put ((h.next + 1) + 1) (.cells true 144 [(.i .u64 0), (.i .u64 0), (.i .u64 0), (.i .u64 0)])
 (h11.ld (.n h.next) 0).bind fun w12 =>
 (AV.asI .u64 w12).bind fun n13 =>
 (h11.ld (.n h.next) 1).bind fun w14 =>
 (AV.asI .u64 w14).bind fun n15 =>
 (h11.ld (.n (h.next + 1)) 0).bind fun w16 =>
 (AV.asI .u64 w16).bind fun n17 =>
 (h11.ld (.n (h.next + 1)) 1).bind fun w18 =>
 (AV.asI .u64 w18).bind fun n19 =>
 (k235 [(.agg [(.i .u64 n13), (.i .u64 n15)]), (.agg [(.i .u64 n17), (.i .u64 n19)])] h11).bind fun r20 =>
 (AV.asTup 2 r20.1).bind fun c21 =>
 (AV.asAgg 2 (c21.getD 0 .u)).bind fun c22 =>
 (AV.asI .u64 (c22.getD 0 .u)).bind fun n23 =>
 (AV.asI .u64 (c22.getD 1 .u)).bind fun n24 =>
 (AV.asB (c21.getD 1 .u)).bind fun b25 =>
 (r20.2.st (.n h.next) 0 [(.i .u64 n23), (.i .u64 n24)]).bind fun h26 =>
 (h26.ld (.n h.next) 0).bind fun w27 =>
 (AV.asI .u64 w27).bind fun n28 =>
 (h26.ld (.n h.next) 1).bind fun w29 =>
 (AV.asI .u64 w29).bind fun n30 =>
 (h26.ld (.n h.next) 2).bind fun w31 =>
 (AV.asI .u64 w31).bind fun n32 =>
 (h26.ld (.n h.next) 3).bind fun w33 =>
 (AV.asI .u64 w33).bind fun n34 =>
 (h26.st (.n ((h.next + 1) + 1)) 0 [(.i .u64 n28), (.i .u64 n30), (.i .u64 n32), (.i .u64 n34)]).bind fun h35 =>
 (h35.ld (.n ((h.next + 1) + 1)) 0).bind fun w36 =>
 (AV.asI .u64 w36).bind fun n37 =>
 (h35.ld (.n ((h.next + 1) + 1)) 1).bind fun w38 =>
 (AV.asI .u64 w38).bind fun n39 =>
 (h35.ld (.n ((h.next + 1) + 1)) 2).bind fun w40 =>
 (AV.asI .u64 w40).bind fun n41 =>
 (h35.ld (.n ((h.next + 1) + 1)) 3).bind fun w42 =>
 (AV.asI .u64 w42).bind fun n43 =>
 some ((.agg [(.i .u64 n37), (.i .u64 n39), (.i .u64 n41), (.i .u64 n43)]), h35)
 else none
def ledger_Ledger__in : Sm O := ledger_Ledger__in_c wide_Add
theorem ledger_Ledger__in_ent : Entered Tryz.prog 233 := Tryz.call233
theorem ledger_Ledger__in_run (k235 : Sm O) : run (O := O) Tryz.prog [(235, k235)] Tryz.f233 (.n .z (.n .z .z)) = ledger_Ledger__in_c k235 := by kernel_rfl
theorem ledger_Ledger__in_sound : FSound RO Tryz.prog 233 ledger_Ledger__in := sdf (ledger_Ledger__in_run _) (gcons wide_Add_ent wide_Add_sound <| gnil) Tryz.func233 (by kernel_rfl)
def ledger_Ledger__Deposit_c (k234 k233 : Sm O) : Sm O := fun xs h =>
 bif Nat.beq xs.length 3 then
 (AV.asAgg 4 (xs.getD 0 .u)).bind fun c0 =>
 (AV.asI .u64 (c0.getD 0 .u)).bind fun n1 =>
 (AV.asI .u64 (c0.getD 1 .u)).bind fun n2 =>
 (AV.asI .u64 (c0.getD 2 .u)).bind fun n3 =>
 (AV.asI .u64 (c0.getD 3 .u)).bind fun n4 =>
 (AV.asI .i64 (xs.getD 1 .u)).bind fun n5 =>
 (AV.asI .i64 (xs.getD 2 .u)).bind fun n6 =>
 let h7 := h.bump 2
 let h8 := h7.put h.next (.cells true 144 [(.i .u64 n1), (.i .u64 n2), (.i .u64 n3), (.i .u64 n4)])
 let h9 := h8.put (h.next + 1) (.cells true 144 [(.i .u64 0), (.i .u64 0), (.i .u64 0), (.i .u64 0)])
 (h9.ld (.n h.next) 0).bind fun w10 =>
 (AV.asI .u64 w10).bind fun n11 =>
 (h9.ld (.n h.next) 1).bind fun w12 =>
 (AV.asI .u64 w12).bind fun n13 =>
 (h9.ld (.n h.next) 2).bind fun w14 =>
 (AV.asI .u64 w14).bind fun n15 =>
 (h9.ld (.n h.next) 3).bind fun w16 =>
 (AV.asI .u64 w16).bind fun n17 =>
 (k234 [J n5, J n6] h9).bind fun r18 =>
 (AV.asAgg 2 r18.1).bind fun c19 =>
 (AV.asI .u64 (c19.getD 0 .u)).bind fun n20 =>
 (AV.asI .u64 (c19.getD 1 .u)).bind fun n21 =>
 (chkE (r18.2.ld (.n h.next) 0) (some (.i .u64 n11))).bind fun _ =>
 (chkE (r18.2.ld (.n h.next) 1) (some (.i .u64 n13))).bind fun _ =>
 (chkE (r18.2.ld (.n h.next) 2) (some (.i .u64 n15))).bind fun _ =>
 (chkE (r18.2.ld (.n h.next) 3) (some (.i .u64 n17))).bind fun _ =>
 (k233 [(.agg [(.i .u64 n11), (.i .u64 n13), (.i .u64 n15), (.i .u64 n17)]), (.agg [(.i .u64 n20), (.i .u64 n21)])] r18.2).bind fun r22 =>
 (AV.asAgg 4 r22.1).bind fun c23 =>
 (AV.asI .u64 (c23.getD 0 .u)).bind fun n24 =>
 (AV.asI .u64 (c23.getD 1 .u)).bind fun n25 =>
 (AV.asI .u64 (c23.getD 2 .u)).bind fun n26 =>
 (AV.asI .u64 (c23.getD 3 .u)).bind fun n27 =>
 (r22.2.st (.n (h.next + 1)) 0 [(.i .u64 n24), (.i .u64 n25), (.i .u64 n26), (.i .u64 n27)]).bind fun h28 =>
 (h28.ld (.n (h.next + 1)) 0).bind fun w29 =>
 (AV.asI .u64 w29).bind fun n30 =>
 (h28.ld (.n (h.next + 1)) 1).bind fun w31 =>
 (AV.asI .u64 w31).bind fun n32 =>
 (h28.ld (.n (h.next + 1)) 2).bind fun w33 =>
 (AV.asI .u64 w33).bind fun n34 =>
 (h28.ld (.n (h.next + 1)) 3).bind fun w35 =>
 (AV.asI .u64 w35).bind fun n36 =>
 some ((.agg [(.i .u64 n30), (.i .u64 n32), (.i .u64 n34), (.i .u64 n36)]), h28)
 else none
def ledger_Ledger__Deposit : Sm O := ledger_Ledger__Deposit_c cost_Deposit ledger_Ledger__in
theorem ledger_Ledger__Deposit_ent : Entered Tryz.prog 181 := Tryz.call181
theorem ledger_Ledger__Deposit_run (k234 k233 : Sm O) : run (O := O) Tryz.prog [(234, k234), (233, k233)] Tryz.f181 (.n .z (.n (.d [] [0, 1, 2, 3, 4, 5] [0, 0, 0, 6, 15, 31]) .z)) = ledger_Ledger__Deposit_c k234 k233 := by kernel_rfl
theorem ledger_Ledger__Deposit_sound : FSound RO Tryz.prog 181 ledger_Ledger__Deposit := sdf (ledger_Ledger__Deposit_run _ _) (gcons cost_Deposit_ent cost_Deposit_sound <| gcons ledger_Ledger__in_ent ledger_Ledger__in_sound <| gnil) Tryz.func181 (by kernel_rfl)
def heap_Heap__request_c (k191 k219 k181 : Sm O) : Sm O := fun xs h =>
 bif Nat.beq xs.length 2 then
 (AV.asP (xs.getD 0 .u)).bind fun p0 =>
 (AV.asI .i64 (xs.getD 1 .u)).bind fun n1 =>
 Option.bind p0 fun q2 =>
 (h.ld q2.1 (q2.2 + 7)).bind fun w3 =>
 (AV.asI .i64 w3).bind fun n4 =>
 (h.ld q2.1 ((q2.2 + 7) + 1)).bind fun w5 =>
 (AV.asI .i64 w5).bind fun n6 =>
 (h.ld q2.1 (((q2.2 + 7) + 1) + 1)).bind fun w7 =>
 (AV.asI .i64 w7).bind fun n8 =>
 (h.ld q2.1 ((((q2.2 + 7) + 1) + 1) + 1)).bind fun w9 =>
 (AV.asI .i64 w9).bind fun n10 =>
 (h.ld q2.1 (((((q2.2 + 7) + 1) + 1) + 1) + 1)).bind fun w11 =>
 (AV.asI .i64 w11).bind fun n12 =>
 (h.ld q2.1 ((((((q2.2 + 7) + 1) + 1) + 1) + 1) + 1)).bind fun w13 =>
 (AV.asI .i64 w13).bind fun n14 =>
 (h.ld q2.1 (((((((q2.2 + 7) + 1) + 1) + 1) + 1) + 1) + 1)).bind fun w15 =>
 (AV.asI .i64 w15).bind fun n16 =>
 (h.ld q2.1 ((((((((q2.2 + 7) + 1) + 1) + 1) + 1) + 1) + 1) + 1)).bind fun w17 =>
 (AV.asI .i64 w17).bind fun n18 =>
 (k191 [(.p p0)] h).bind fun r19 =>
 (AV.asI .i64 r19.1).bind fun n20 =>
 (chkE (r19.2.ld q2.1 (q2.2 + 7)) (some (.i .i64 n4))).bind fun _ =>
 (chkE (r19.2.ld q2.1 ((q2.2 + 7) + 1)) (some (.i .i64 n6))).bind fun _ =>
 (chkE (r19.2.ld q2.1 (((q2.2 + 7) + 1) + 1)) (some (.i .i64 n8))).bind fun _ =>
 (chkE (r19.2.ld q2.1 ((((q2.2 + 7) + 1) + 1) + 1)) (some (.i .i64 n10))).bind fun _ =>
 (chkE (r19.2.ld q2.1 (((((q2.2 + 7) + 1) + 1) + 1) + 1)) (some (.i .i64 n12))).bind fun _ =>
 (chkE (r19.2.ld q2.1 ((((((q2.2 + 7) + 1) + 1) + 1) + 1) + 1)) (some (.i .i64 n14))).bind fun _ =>
 (chkE (r19.2.ld q2.1 (((((((q2.2 + 7) + 1) + 1) + 1) + 1) + 1) + 1)) (some (.i .i64 n16))).bind fun _ =>
 (chkE (r19.2.ld q2.1 ((((((((q2.2 + 7) + 1) + 1) + 1) + 1) + 1) + 1) + 1)) (some (.i .i64 n18))).bind fun _ =>
 (k219 [(.agg (P1 n4 n6 n8 n10 n12 n14 n16 n18)), J n20, J n1] r19.2).bind fun r21 =>
 (AV.asB r21.1).bind fun b22 =>
 (bif b22 then
 none
 else Option.bind p0 fun q23 =>
 (r21.2.ld q23.1 ((q23.2 + 32) + 3)).bind fun w24 =>
 (AV.asI .i64 w24).bind fun n25 =>
 Option.bind p0 fun q26 =>
 (r21.2.st q26.1 ((q26.2 + 32) + 3) [(.i .i64 (IntKind.i64.wrap (n25 + n1)))]).bind fun h27 =>
 Option.bind p0 fun q28 =>
 (h27.ld q28.1 (q28.2 + 15)).bind fun w29 =>
 (AV.asI .u64 w29).bind fun n30 =>
 (h27.ld q28.1 ((q28.2 + 15) + 1)).bind fun w31 =>
 (AV.asI .u64 w31).bind fun n32 =>
 (h27.ld q28.1 (((q28.2 + 15) + 1) + 1)).bind fun w33 =>
 (AV.asI .u64 w33).bind fun n34 =>
 (h27.ld q28.1 ((((q28.2 + 15) + 1) + 1) + 1)).bind fun w35 =>
 (AV.asI .u64 w35).bind fun n36 =>
 (k181 [(.agg [(.i .u64 n30), (.i .u64 n32), (.i .u64 n34), (.i .u64 n36)]), J n1, J 0] h27).bind fun r37 =>
 (AV.asAgg 4 r37.1).bind fun c38 =>
 (AV.asI .u64 (c38.getD 0 .u)).bind fun n39 =>
 (AV.asI .u64 (c38.getD 1 .u)).bind fun n40 =>
 (AV.asI .u64 (c38.getD 2 .u)).bind fun n41 =>
 (AV.asI .u64 (c38.getD 3 .u)).bind fun n42 =>
 Option.bind p0 fun q43 =>
 (r37.2.st q43.1 (q43.2 + 15) [(.i .u64 n39), (.i .u64 n40), (.i .u64 n41), (.i .u64 n42)]).bind fun h44 =>
 some (J 0, h44))
 else none
def heap_Heap__request : Sm O := heap_Heap__request_c heap_Heap__used gate_Gate__Asks ledger_Ledger__Deposit
theorem heap_Heap__request_ent : Entered Tryz.prog 146 := Tryz.call146
theorem heap_Heap__request_run (k191 k219 k181 : Sm O) : run (O := O) Tryz.prog [(191, k191), (219, k219), (181, k181)] Tryz.f146 (.n .z (.n (.n (.d [] [0, 1, 2, 3, 4, 6, 5, 7] [0, 1, 3, 7, 0, 16, 0, 127]) (.n .x .z)) (.n .z (.n .z .z)))) = heap_Heap__request_c k191 k219 k181 := by kernel_rfl
theorem heap_Heap__request_sound : FSound RO Tryz.prog 146 heap_Heap__request := sdf (heap_Heap__request_run _ _ _) (gcons heap_Heap__used_ent heap_Heap__used_sound <| gcons gate_Gate__Asks_ent gate_Gate__Asks_sound <| gcons ledger_Ledger__Deposit_ent ledger_Ledger__Deposit_sound <| gnil) Tryz.func146 (by kernel_rfl)
def header_fields_L1 (n4 : Int) (n6 : Int) (n8 : Int) (n10 : Int) (n12 : Int) : List AV × AH O → Option ((List AV × AH O) ⊕ (List AV × AH O)) := (fun r13 =>
 (AV.asSl (r13.1.getD 0 .u)).bind fun l14 =>
 (AV.asI .i64 (r13.1.getD 1 .u)).bind fun n15 =>
 (AV.asI .i64 (r13.1.getD 2 .u)).bind fun n16 =>
 (bif (decide (n16 < 5)) then
 (bif ((decide ((0 : Int) ≤ n16)) && (decide (n16 < 5))) then
 (([J n4, J n6, J n8, J n10, J n12] : List AV)[(n16.toNat * 1)]?).bind fun w17 =>
 (AV.asI .i64 w17).bind fun n18 =>
 let h19 := r13.2.bump 2
 let h20 := h19.put r13.2.next (.cells true 249 [J n15, J n18])
 (h20.rdSl (.loc (.n r13.2.next) 0 2) 1 2).bind fun new21 =>
 (bif (Nat.ble ((l14.2 + 1) * 17) 35184372088832) then
 (h20.appSl (r13.2.next + 1) 249 2 l14.1 l14.2 1 new21).bind fun r22 =>
 (AV.asSl r22.1).bind fun l23 =>
 some (Sum.inl ([L l23, (.i .i64 (IntKind.i64.wrap (n15 + n18))), (.i .i64 (IntKind.i64.wrap (n16 + 1)))], r22.2))
 else none)
 else none)
 else some (Sum.inr ([L l14], r13.2))))
def header_fields_c : Sm O := fun xs h =>
 bif Nat.beq xs.length 0 then
 let h0 := h.bump 1
 let h1 := h0.put h.next (.cells true 60 [J 0, J 0, J 0, J 0, J 0])
 (h1.st (.n h.next) 0 [J 12, J 12, J 5, J 3, J 1]).bind fun h2 =>
 (h2.ld (.n h.next) 0).bind fun w3 =>
 (AV.asI .i64 w3).bind fun n4 =>
 (h2.ld (.n h.next) 1).bind fun w5 =>
 (AV.asI .i64 w5).bind fun n6 =>
 (h2.ld (.n h.next) 2).bind fun w7 =>
 (AV.asI .i64 w7).bind fun n8 =>
 (h2.ld (.n h.next) 3).bind fun w9 =>
 (AV.asI .i64 w9).bind fun n10 =>
 (h2.ld (.n h.next) 4).bind fun w11 =>
 (AV.asI .i64 w11).bind fun n12 =>
 (loopF (S := List AV × AH O) (T := List AV × AH O) (header_fields_L1 n4 n6 n8 n10 n12) ([N, J 0, J 0], h2)).bind fun r24 =>
 (AV.asSl (r24.1.getD 0 .u)).bind fun l25 =>
 let h26 := r24.2.bump 2
 let h27 := h26.put r24.2.next (.cells true 249 [J 62, J 1])
 (h27.rdSl (.loc (.n r24.2.next) 0 2) 1 2).bind fun new28 =>
 (bif (Nat.ble ((l25.2 + 1) * 17) 35184372088832) then
 (h27.appSl (r24.2.next + 1) 249 2 l25.1 l25.2 1 new28).bind fun r29 =>
 (AV.asSl r29.1).bind fun l30 =>
 some (L l30, r29.2)
 else none)
 else none
def header_fields : Sm O := header_fields_c
theorem header_fields_ent : Entered Tryz.prog 133 := Tryz.call133
theorem header_fields_run : run (O := O) Tryz.prog [] Tryz.f133 (.n .z (.n .z (.n .z (.n .z (.n (.n .z (.n (.lp false 0 [(2, .one .sl), (3, .one (.i .i64)), (8, .one (.i .i64))] [(2, .one .sl)] (.n .z (.n .z (.n (.n (.n .z .z) .z) .z)))) .z)) .z))))) = header_fields_c  := by kernel_rfl
theorem header_fields_sound : FSound RO Tryz.prog 133 header_fields := sdf header_fields_run (gnil) Tryz.func133 (by kernel_rfl)
def field_Right_c : Sm O := fun xs h =>
 bif Nat.beq xs.length 1 then
 (AV.asAgg 2 (xs.getD 0 .u)).bind fun c0 =>
 I6 c0 0 fun n1 => I6 c0 1 fun n2 => let h3 := h.bump 1
 let h4 := h3.put h.next (.cells true 249 [J n1, J n2])
 (h4.ld (.n h.next) 1).bind fun w5 =>
 (AV.asI .i64 w5).bind fun n6 =>
 ((bif ((decide (n6 ≥ 1)) == true) then
 (h4.ld (.n h.next) 1).bind fun w7 =>
 (AV.asI .i64 w7).bind fun n8 =>
 some ([(.b (decide (n8 ≤ 64)))], h4)
 else some ([(.b false)], h4)) : Option (List AV × AH O)).bind fun r9 =>
 (AV.asB (r9.1.getD 0 .u)).bind fun b10 =>
 ((bif (b10 == true) then
 (r9.2.ld (.n h.next) 0).bind fun w11 =>
 (AV.asI .i64 w11).bind fun n12 =>
 some ([(.b (decide (n12 ≥ 0)))], r9.2)
 else some ([(.b false)], r9.2)) : Option (List AV × AH O)).bind fun r13 =>
 (AV.asB (r13.1.getD 0 .u)).bind fun b14 =>
 ((bif (b14 == true) then
 (r13.2.ld (.n h.next) 0).bind fun w15 =>
 (AV.asI .i64 w15).bind fun n16 =>
 (r13.2.ld (.n h.next) 1).bind fun w17 =>
 (AV.asI .i64 w17).bind fun n18 =>
 some ([(.b (decide (n16 ≤ (IntKind.i64.wrap (64 - n18)))))], r13.2)
 else some ([(.b false)], r13.2)) : Option (List AV × AH O)).bind fun r19 =>
 (AV.asB (r19.1.getD 0 .u)).bind fun b20 =>
 some ((.b b20), r19.2)
 else none
def field_Right : Sm O := field_Right_c
theorem field_Right_ent : Entered Tryz.prog 208 := Tryz.call208
theorem field_Right_run : run (O := O) Tryz.prog [] Tryz.f208 (.n .z (.n (.g [(3, 3, [(10, .one .b)]), (8, 3, [(15, .one .b)]), (13, 6, [(23, .one .b)])]) .z)) = field_Right_c  := by kernel_rfl
theorem field_Right_sound : FSound RO Tryz.prog 208 field_Right := sdf field_Right_run (gnil) Tryz.func208 (by kernel_rfl)
def field_Mask_c (k208 : Sm O) : Sm O := fun xs h =>
 bif Nat.beq xs.length 1 then
 (AV.asAgg 2 (xs.getD 0 .u)).bind fun c0 =>
 I6 c0 0 fun n1 => I6 c0 1 fun n2 => let h3 := h.bump 1
 let h4 := h3.put h.next (.cells true 249 [J n1, J n2])
 (h4.ld (.n h.next) 0).bind fun w5 =>
 (AV.asI .i64 w5).bind fun n6 =>
 (h4.ld (.n h.next) 1).bind fun w7 =>
 (AV.asI .i64 w7).bind fun n8 =>
 (k208 [(.agg [J n6, J n8])] h4).bind fun r9 =>
 (AV.asB r9.1).bind fun b10 =>
 (bif (!b10) then
 none
 else (r9.2.ld (.n h.next) 1).bind fun w11 =>
 (AV.asI .i64 w11).bind fun n12 =>
 (bif (decide ((IntKind.i64.wrap (64 - n12)) < 0)) then
 none
 else let v13 : Int := (Int.fdiv 18446744073709551615 (2 ^ min (IntKind.i64.wrap (64 - n12)).toNat 64))
 (r9.2.ld (.n h.next) 0).bind fun w14 =>
 (AV.asI .i64 w14).bind fun n15 =>
 (bif (decide (n15 < 0)) then
 none
 else some ((.i .u64 (IntKind.u64.wrap (v13 * 2 ^ min n15.toNat 64))), r9.2))))
 else none
def field_Mask : Sm O := field_Mask_c field_Right
theorem field_Mask_ent : Entered Tryz.prog 209 := Tryz.call209
theorem field_Mask_run (k208 : Sm O) : run (O := O) Tryz.prog [(208, k208)] Tryz.f209 (.n .z (.n (.n .z (.n .x .z)) (.n (.d [] [0, 1, 2, 3, 4, 5, 6, 7] [0, 1, 3, 7, 0, 16, 63, 127]) .z))) = field_Mask_c k208 := by kernel_rfl
theorem field_Mask_sound : FSound RO Tryz.prog 209 field_Mask := sdf (field_Mask_run _) (gcons field_Right_ent field_Right_sound <| gnil) Tryz.func209 (by kernel_rfl)
def field_Apart_L1 (l0 : SA × Nat) (k209 : Sm O) : List AV × AH O → Option ((List AV × AH O) ⊕ (List AV × AH O)) := (fun r1 =>
 (AV.asI .u64 (r1.1.getD 0 .u)).bind fun n2 =>
 (AV.asI .i64 (r1.1.getD 1 .u)).bind fun n3 =>
 (bif (decide (n3 < (l0.2 : Int))) then
 let h4 := r1.2.bump 1
 (bif ((decide ((0 : Int) ≤ n3)) && (decide (n3 < (l0.2 : Int)))) then
 (SA.ref l0.1).bind fun q5 =>
 (h4.ld q5.1 (q5.2 + (n3.toNat * 2))).bind fun w6 =>
 (AV.asI .i64 w6).bind fun n7 =>
 (h4.ld q5.1 ((q5.2 + (n3.toNat * 2)) + 1)).bind fun w8 =>
 (AV.asI .i64 w8).bind fun n9 =>
 let h10 := h4.put r1.2.next (.cells true 249 [J 0, J 0])
 (h10.st (.n r1.2.next) 0 [J n7, J n9]).bind fun h11 =>
 (h11.ld (.n r1.2.next) 0).bind fun w12 =>
 (AV.asI .i64 w12).bind fun n13 =>
 (h11.ld (.n r1.2.next) 1).bind fun w14 =>
 (AV.asI .i64 w14).bind fun n15 =>
 (k209 [(.agg [J n13, J n15])] h11).bind fun r16 =>
 (AV.asI .u64 r16.1).bind fun n17 =>
 ((bif (((n17 : Int) == 0) == false) then
 some ([(.b (((ibits .and .u64 n2 n17) : Int) != 0))], r16.2)
 else some ([(.b true)], r16.2)) : Option (List AV × AH O)).bind fun r18 =>
 (AV.asB (r18.1.getD 0 .u)).bind fun b19 =>
 (bif b19 then
 none
 else some (Sum.inl ([(.i .u64 (ibits .or .u64 n2 n17)), (.i .i64 (IntKind.i64.wrap (n3 + 1)))], r18.2)))
 else none)
 else some (Sum.inr ([], r1.2))))
def field_Apart_c (k209 : Sm O) : Sm O := fun xs h =>
 bif Nat.beq xs.length 1 then
 (AV.asSl (xs.getD 0 .u)).bind fun l0 =>
 (loopF (S := List AV × AH O) (T := List AV × AH O) (field_Apart_L1 l0 k209) ([(.i .u64 0), J 0], h)).bind fun r20 =>
 some ((.b true), r20.2)
 else none
def field_Apart : Sm O := field_Apart_c field_Mask
theorem field_Apart_ent : Entered Tryz.prog 266 := Tryz.call266
theorem field_Apart_run (k209 : Sm O) : run (O := O) Tryz.prog [(209, k209)] Tryz.f266 (.n .z (.n .z (.n (.n .z (.n (.lp false 0 [(3, .one (.i .u64)), (9, .one (.i .i64))] [] (.n .z (.n .z (.n (.n (.n .z (.n .z (.n (.n (.g [(2, 4, [(22, .one .b)])]) (.n .x .z)) .z))) .z) .z)))) .z)) .z))) = field_Apart_c k209 := by kernel_rfl
theorem field_Apart_sound : FSound RO Tryz.prog 266 field_Apart := sdf (field_Apart_run _) (gcons field_Mask_ent field_Mask_sound <| gnil) Tryz.func266 (by kernel_rfl)
def bits_Len64_c : Sm O := fun xs h =>
 bif Nat.beq xs.length 1 then
 (AV.asI .u64 (xs.getD 0 .u)).bind fun n0 =>
 (bif (decide (n0 ≥ 4294967296)) then
 none
 else (bif (decide (n0 ≥ 65536)) then
 none
 else (bif (decide (n0 ≥ 256)) then
 none
 else (bif (decide ((0 : Int) ≤ (IntKind.u8.wrap n0))) then
 (([0, 1, 2, 2, 3, 3, 3, 3, 4, 4, 4, 4, 4, 4, 4, 4, 5, 5, 5, 5, 5, 5, 5, 5, 5, 5, 5, 5, 5, 5, 5, 5, 6, 6, 6, 6, 6, 6, 6, 6, 6, 6, 6, 6, 6, 6, 6, 6, 6, 6, 6, 6, 6, 6, 6, 6, 6, 6, 6, 6, 6, 6, 6, 6, 7, 7, 7, 7, 7, 7, 7, 7, 7, 7, 7, 7, 7, 7, 7, 7, 7, 7, 7, 7, 7, 7, 7, 7, 7, 7, 7, 7, 7, 7, 7, 7, 7, 7, 7, 7, 7, 7, 7, 7, 7, 7, 7, 7, 7, 7, 7, 7, 7, 7, 7, 7, 7, 7, 7, 7, 7, 7, 7, 7, 7, 7, 7, 7, 8, 8, 8, 8, 8, 8, 8, 8, 8, 8, 8, 8, 8, 8, 8, 8, 8, 8, 8, 8, 8, 8, 8, 8, 8, 8, 8, 8, 8, 8, 8, 8, 8, 8, 8, 8, 8, 8, 8, 8, 8, 8, 8, 8, 8, 8, 8, 8, 8, 8, 8, 8, 8, 8, 8, 8, 8, 8, 8, 8, 8, 8, 8, 8, 8, 8, 8, 8, 8, 8, 8, 8, 8, 8, 8, 8, 8, 8, 8, 8, 8, 8, 8, 8, 8, 8, 8, 8, 8, 8, 8, 8, 8, 8, 8, 8, 8, 8, 8, 8, 8, 8, 8, 8, 8, 8, 8, 8, 8, 8, 8, 8, 8, 8, 8, 8, 8, 8, 8, 8, 8, 8, 8, 8, 8, 8, 8, 8] : List UInt8)[(IntKind.u8.wrap n0).toNat]?).bind fun y1 =>
 let v2 : Int := (IntKind.i64.wrap (0 + (IntKind.i64.wrap (y1.toNat : Int))))
 some (J v2, h)
 else none))))
 else none
def bits_Len64 : Sm O := bits_Len64_c
theorem bits_Len64_ent : Entered Tryz.prog 327 := Tryz.call327
theorem bits_Len64_run : run (O := O) Tryz.prog [] Tryz.f327 (.n .z (.n (.n .z (.n .x .z)) (.n (.n .z (.n .x .z)) (.n (.n .z (.n .x .z)) .z)))) = bits_Len64_c  := by kernel_rfl
theorem bits_Len64_sound : FSound RO Tryz.prog 327 bits_Len64 := sdf bits_Len64_run (gnil) Tryz.func327 (by kernel_rfl)
def field_Put_c (k208 k327 k209 : Sm O) : Sm O := fun xs h =>
 bif Nat.beq xs.length 3 then
 (AV.asI .u64 (xs.getD 0 .u)).bind fun n0 =>
 (AV.asAgg 2 (xs.getD 1 .u)).bind fun c1 =>
 I6 c1 0 fun n2 => I6 c1 1 fun n3 => (AV.asI .u64 (xs.getD 2 .u)).bind fun n4 =>
 let h5 := h.bump 1
 let h6 := h5.put h.next (.cells true 249 [J n2, J n3])
 (h6.ld (.n h.next) 0).bind fun w7 =>
 (AV.asI .i64 w7).bind fun n8 =>
 (h6.ld (.n h.next) 1).bind fun w9 =>
 (AV.asI .i64 w9).bind fun n10 =>
 (k208 [(.agg [J n8, J n10])] h6).bind fun r11 =>
 (AV.asB r11.1).bind fun b12 =>
 (bif (!b12) then
 none
 else (r11.2.ld (.n h.next) 1).bind fun w13 =>
 (AV.asI .i64 w13).bind fun n14 =>
 (k327 [(.i .u64 n4)] r11.2).bind fun r15 =>
 (AV.asI .i64 r15.1).bind fun n16 =>
 (chkE (r15.2.ld (.n h.next) 1) (some (.i .i64 n14))).bind fun _ =>
 (bif (decide (n16 > n14)) then
 none
 else (r15.2.ld (.n h.next) 0).bind fun w17 =>
 (AV.asI .i64 w17).bind fun n18 =>
 (r15.2.ld (.n h.next) 1).bind fun w19 =>
 (AV.asI .i64 w19).bind fun n20 =>
 (r15.2.ld (.n h.next) 0).bind fun w21 =>
 (AV.asI .i64 w21).bind fun n22 =>
 (bif (decide (n22 < 0)) then
 none
 else (k209 [(.agg [J n18, J n20])] r15.2).bind fun r23 =>
 (AV.asI .u64 r23.1).bind fun n24 =>
 (chkE (r23.2.ld (.n h.next) 0) (some (.i .i64 n22))).bind fun _ =>
 let v25 : Int := (ibits .or .u64 (ibits .andNot .u64 n0 n24) (IntKind.u64.wrap (n4 * 2 ^ min n22.toNat 64)))
 some ((.tup [(.i .u64 v25), J 0]), r23.2))))
 else none
def field_Put : Sm O := field_Put_c field_Right bits_Len64 field_Mask
theorem field_Put_ent : Entered Tryz.prog 267 := Tryz.call267
theorem field_Put_run (k208 k327 k209 : Sm O) : run (O := O) Tryz.prog [(208, k208), (327, k327), (209, k209)] Tryz.f267 (.n .z (.n (.n (.n .z (.n .x (.n (.d [] [0, 2, 3, 1, 4, 5] [0, 1, 0, 4, 15, 31]) (.n .x .z)))) .z) (.n (.d [] [0, 1, 4, 5, 6, 7, 2, 3, 8, 9, 10] [0, 0, 2, 7, 0, 0, 32, 112, 255, 511, 1023]) .z))) = field_Put_c k208 k327 k209 := by kernel_rfl
theorem field_Put_sound : FSound RO Tryz.prog 267 field_Put := sdf (field_Put_run _ _ _) (gcons field_Right_ent field_Right_sound <| gcons bits_Len64_ent bits_Len64_sound <| gcons field_Mask_ent field_Mask_sound <| gnil) Tryz.func267 (by kernel_rfl)
def field_Pack_L1 (l0 : SA × Nat) (l1 : SA × Nat) (k267 : Sm O) : List AV × AH O → Option ((List AV × AH O) ⊕ (List AV × AH O)) := (fun r6 =>
 (AV.asI .u64 (r6.1.getD 0 .u)).bind fun n7 =>
 (AV.asI .i64 (r6.1.getD 1 .u)).bind fun n8 =>
 (bif (decide (n8 < (l0.2 : Int))) then
 let h9 := r6.2.bump 1
 (bif ((decide ((0 : Int) ≤ n8)) && (decide (n8 < (l0.2 : Int)))) then
 (SA.ref l0.1).bind fun q10 =>
 (h9.ld q10.1 (q10.2 + (n8.toNat * 2))).bind fun w11 =>
 (AV.asI .i64 w11).bind fun n12 =>
 (h9.ld q10.1 ((q10.2 + (n8.toNat * 2)) + 1)).bind fun w13 =>
 (AV.asI .i64 w13).bind fun n14 =>
 let h15 := h9.put r6.2.next (.cells true 249 [J 0, J 0])
 (h15.st (.n r6.2.next) 0 [J n12, J n14]).bind fun h16 =>
 (h16.ld (.n r6.2.next) 0).bind fun w17 =>
 (AV.asI .i64 w17).bind fun n18 =>
 (h16.ld (.n r6.2.next) 1).bind fun w19 =>
 (AV.asI .i64 w19).bind fun n20 =>
 (bif ((decide ((0 : Int) ≤ n8)) && (decide (n8 < (l1.2 : Int)))) then
 (SA.ref l1.1).bind fun q21 =>
 (h16.ld q21.1 (q21.2 + (n8.toNat * 1))).bind fun w22 =>
 (AV.asI .u64 w22).bind fun n23 =>
 (k267 [(.i .u64 n7), (.agg [J n18, J n20]), (.i .u64 n23)] h16).bind fun r24 =>
 (AV.asTup 2 r24.1).bind fun c25 =>
 (AV.asI .u64 (c25.getD 0 .u)).bind fun n26 =>
 I6 c25 1 fun n27 => (bif ((n27 : Int) != 0) then
 none
 else some (Sum.inl ([(.i .u64 n26), (.i .i64 (IntKind.i64.wrap (n8 + 1)))], r24.2)))
 else none)
 else none)
 else some (Sum.inr ([(.i .u64 n7)], r6.2))))
def field_Pack_c (k266 k267 : Sm O) : Sm O := fun xs h =>
 bif Nat.beq xs.length 2 then
 (AV.asSl (xs.getD 0 .u)).bind fun l0 =>
 (AV.asSl (xs.getD 1 .u)).bind fun l1 =>
 (k266 [L l0] h).bind fun r2 =>
 (AV.asB r2.1).bind fun b3 =>
 ((bif ((!b3) == false) then
 some ([(.b (((l0.2 : Int) : Int) != (l1.2 : Int)))], r2.2)
 else some ([(.b true)], r2.2)) : Option (List AV × AH O)).bind fun r4 =>
 (AV.asB (r4.1.getD 0 .u)).bind fun b5 =>
 (bif b5 then
 none
 else (loopF (S := List AV × AH O) (T := List AV × AH O) (field_Pack_L1 l0 l1 k267) ([(.i .u64 0), J 0], r4.2)).bind fun r28 =>
 (AV.asI .u64 (r28.1.getD 0 .u)).bind fun n29 =>
 some ((.tup [(.i .u64 n29), J 0]), r28.2))
 else none
def field_Pack : Sm O := field_Pack_c field_Apart field_Put
theorem field_Pack_ent : Entered Tryz.prog 210 := Tryz.call210
theorem field_Pack_run (k266 k267 : Sm O) : run (O := O) Tryz.prog [(266, k266), (267, k267)] Tryz.f210 (.n .z (.n (.n (.g [(3, 5, [(20, .one .b)])]) (.n .x .z)) (.n .z (.n (.n .z (.n (.lp false 0 [(6, .one (.i .u64)), (23, .one (.i .i64))] [(6, .one (.i .u64))] (.n .z (.n .z (.n (.n (.n .z (.n (.d [] [0, 1, 2, 3, 4, 5, 6, 7, 8, 9, 10, 11] [0, 0, 0, 0, 12, 28, 63, 127, 255, 255, 511, 2047]) (.n (.n .z (.n .x .z)) .z))) .z) .z)))) .z)) .z)))) = field_Pack_c k266 k267 := by kernel_rfl
theorem field_Pack_sound : FSound RO Tryz.prog 210 field_Pack := sdf (field_Pack_run _ _) (gcons field_Apart_ent field_Apart_sound <| gcons field_Put_ent field_Put_sound <| gnil) Tryz.func210 (by kernel_rfl)
def header_Pack_c (k19 k133 k210 : Sm O) : Sm O := fun xs h =>
 bif Nat.beq xs.length 1 then
 (AV.asAgg 5 (xs.getD 0 .u)).bind fun c0 =>
 I6 c0 0 fun n1 => I6 c0 1 fun n2 => I6 c0 2 fun n3 => I6 c0 3 fun n4 => (AV.asB (c0.getD 4 .u)).bind fun b5 =>
 let h6 := h.bump 1
 let h7 := h6.put h.next (.cells true 72 [J n1, J n2, J n3, J n4, (.b b5)])
 (h7.ld (.n h.next) 0).bind fun w8 =>
 (AV.asI .i64 w8).bind fun n9 =>
 (h7.ld (.n h.next) 1).bind fun w10 =>
 (AV.asI .i64 w10).bind fun n11 =>
 (h7.ld (.n h.next) 2).bind fun w12 =>
 (AV.asI .i64 w12).bind fun n13 =>
 (h7.ld (.n h.next) 3).bind fun w14 =>
 (AV.asI .i64 w14).bind fun n15 =>
 (h7.ld (.n h.next) 4).bind fun w16 =>
 (AV.asB w16).bind fun b17 =>
 (k19 [(.agg [J n9, J n11, J n13, J n15, (.b b17)])] h7).bind fun r18 =>
 (AV.asI .i64 r18.1).bind fun n19 =>
 (bif ((n19 : Int) != 0) then
 none
 else (r18.2.ld (.n h.next) 4).bind fun w20 =>
 (AV.asB w20).bind fun b21 =>
 (bif b21 then
 none
 else let h22 := r18.2.bump 1
 (h22.ld (.n h.next) 0).bind fun w23 =>
 (AV.asI .i64 w23).bind fun n24 =>
 (h22.ld (.n h.next) 1).bind fun w25 =>
 (AV.asI .i64 w25).bind fun n26 =>
 (h22.ld (.n h.next) 2).bind fun w27 =>
 (AV.asI .i64 w27).bind fun n28 =>
 (h22.ld (.n h.next) 3).bind fun w29 =>
 (AV.asI .i64 w29).bind fun n30 =>
 (k133 [] h22).bind fun r31 =>
 (AV.asSl r31.1).bind fun l32 =>
 (chkE (r31.2.ld (.n h.next) 0) (some (.i .i64 n24))).bind fun _ =>
 (chkE (r31.2.ld (.n h.next) 1) (some (.i .i64 n26))).bind fun _ =>
 (chkE (r31.2.ld (.n h.next) 2) (some (.i .i64 n28))).bind fun _ =>
 (chkE (r31.2.ld (.n h.next) 3) (some (.i .i64 n30))).bind fun _ =>
 let h33 := r31.2.put r18.2.next (.cells true 90 [(.i .u64 (IntKind.u64.wrap n24)), (.i .u64 (IntKind.u64.wrap n26)), (.i .u64 (IntKind.u64.wrap n28)), (.i .u64 (IntKind.u64.wrap n30)), (.i .u64 0), (.i .u64 1)])
 (k210 [L l32, (.sl (.loc (.n r18.2.next) 0 1) 6)] h33).bind fun r34 =>
 (AV.asTup 2 r34.1).bind fun c35 =>
 (AV.asI .u64 (c35.getD 0 .u)).bind fun n36 =>
 I6 c35 1 fun n37 => some ((.tup [(.i .u64 n36), J n37]), r34.2)))
 else none
def header_Pack : Sm O := header_Pack_c header_Check header_fields field_Pack
theorem header_Pack_ent : Entered Tryz.prog 135 := Tryz.call135
theorem header_Pack_run (k19 k133 k210 : Sm O) : run (O := O) Tryz.prog [(19, k19), (133, k133), (210, k210)] Tryz.f135 (.n .z (.n (.n .z (.n .z (.n .x .z))) (.n .z (.n (.n .z (.n .x .z)) (.n (.d [] [1, 2, 3, 4, 5, 6, 7, 8, 9, 10, 11, 12, 13, 14, 15, 0, 16, 17, 18, 19, 20, 21] [0, 0, 2, 6, 14, 0, 32, 96, 224, 0, 512, 1536, 0, 4096, 12288, 0, 65534, 131071, 262143, 262143, 1048575, 2097151]) .z))))) = header_Pack_c k19 k133 k210 := by kernel_rfl
theorem header_Pack_sound : FSound RO Tryz.prog 135 header_Pack := sdf (header_Pack_run _ _ _) (gcons header_Check_ent header_Check_sound <| gcons header_fields_ent header_fields_sound <| gcons field_Pack_ent field_Pack_sound <| gnil) Tryz.func135 (by kernel_rfl)
def mem_Mem__Size_c (k260 : Sm O) : Sm O := fun xs h =>
 bif Nat.beq xs.length 2 then
 (AV.asP (xs.getD 0 .u)).bind fun p0 =>
 (AV.asI .i64 (xs.getD 1 .u)).bind fun n1 =>
 (k260 [(.p p0), J n1] h).bind fun r2 =>
 (AV.asP r2.1).bind fun p3 =>
 (bif (Option.isNone p3) then
 none
 else Option.bind p3 fun q4 =>
 (r2.2.ld q4.1 q4.2).bind fun w5 =>
 (AV.asSl w5).bind fun l6 =>
 some ((.tup [(.i .i64 (l6.2 : Int)), J 0]), r2.2))
 else none
def mem_Mem__Size : Sm O := mem_Mem__Size_c mem_Mem__at
theorem mem_Mem__Size_ent : Entered Tryz.prog 298 := Tryz.call298
theorem mem_Mem__Size_run (k260 : Sm O) : run (O := O) Tryz.prog [(260, k260)] Tryz.f298 (.n .z (.n .z (.n (.n .z (.n .x .z)) .z))) = mem_Mem__Size_c k260 := by kernel_rfl
theorem mem_Mem__Size_sound : FSound RO Tryz.prog 298 mem_Mem__Size := sdf (mem_Mem__Size_run _) (gcons mem_Mem__at_ent mem_Mem__at_sound <| gnil) Tryz.func298 (by kernel_rfl)
def semi_Semi__Size_c (k298 : Sm O) : Sm O := fun xs h =>
 bif Nat.beq xs.length 1 then
 (AV.asP (xs.getD 0 .u)).bind fun p0 =>
 Option.bind p0 fun q1 =>
 (h.ld q1.1 q1.2).bind fun w2 =>
 (AV.asP w2).bind fun p3 =>
 Option.bind p0 fun q4 =>
 (h.ld q4.1 (q4.2 + 1)).bind fun w5 =>
 (AV.asI .i64 w5).bind fun n6 =>
 (k298 [(.p p3), J n6] h).bind fun r7 =>
 (AV.asTup 2 r7.1).bind fun c8 =>
 I6 c8 0 fun n9 => I6 c8 1 fun n10 => some (J n9, r7.2)
 else none
def semi_Semi__Size : Sm O := semi_Semi__Size_c mem_Mem__Size
theorem semi_Semi__Size_ent : Entered Tryz.prog 241 := Tryz.call241
theorem semi_Semi__Size_run (k298 : Sm O) : run (O := O) Tryz.prog [(298, k298)] Tryz.f241 (.n .z (.n (.d [] [0, 1, 2, 3, 4, 5, 6, 7, 8, 9, 10, 11, 12, 13, 14] [0, 1, 3, 7, 0, 16, 48, 112, 240, 511, 1023, 2047, 2047, 4095, 16383]) .z)) = semi_Semi__Size_c k298 := by kernel_rfl
theorem semi_Semi__Size_sound : FSound RO Tryz.prog 241 semi_Semi__Size := sdf (semi_Semi__Size_run _) (gcons mem_Mem__Size_ent mem_Mem__Size_sound <| gnil) Tryz.func241 (by kernel_rfl)
def semi_Semi__Room_c (k241 : Sm O) : Sm O := fun xs h =>
 bif Nat.beq xs.length 1 then
 (AV.asP (xs.getD 0 .u)).bind fun p0 =>
 Option.bind p0 fun q1 =>
 (h.ld q1.1 ((q1.2 + 1) + 1)).bind fun w2 =>
 (AV.asI .i64 w2).bind fun n3 =>
 (k241 [(.p p0)] h).bind fun r4 =>
 (AV.asI .i64 r4.1).bind fun n5 =>
 (chkE (r4.2.ld q1.1 ((q1.2 + 1) + 1)) (some (.i .i64 n3))).bind fun _ =>
 some ((.i .i64 (IntKind.i64.wrap (n5 - n3))), r4.2)
 else none
def semi_Semi__Room : Sm O := semi_Semi__Room_c semi_Semi__Size
theorem semi_Semi__Room_ent : Entered Tryz.prog 330 := Tryz.call330
theorem semi_Semi__Room_run (k241 : Sm O) : run (O := O) Tryz.prog [(241, k241)] Tryz.f330 (.n .z (.n (.d [] [0, 2, 3, 4, 5, 6, 1, 7, 8] [0, 1, 0, 4, 12, 28, 60, 127, 255]) .z)) = semi_Semi__Room_c k241 := by kernel_rfl
theorem semi_Semi__Room_sound : FSound RO Tryz.prog 330 semi_Semi__Room := sdf (semi_Semi__Room_run _) (gcons semi_Semi__Size_ent semi_Semi__Size_sound <| gnil) Tryz.func330 (by kernel_rfl)
def semi_Semi__Take_c (k330 : Sm O) : Sm O := fun xs h =>
 bif Nat.beq xs.length 2 then
 (AV.asP (xs.getD 0 .u)).bind fun p0 =>
 (AV.asI .i64 (xs.getD 1 .u)).bind fun n1 =>
 (bif (decide (n1 < 1)) then
 none
 else (k330 [(.p p0)] h).bind fun r2 =>
 (AV.asI .i64 r2.1).bind fun n3 =>
 (bif (decide (n1 > n3)) then
 none
 else Option.bind p0 fun q4 =>
 (r2.2.ld q4.1 ((q4.2 + 1) + 1)).bind fun w5 =>
 (AV.asI .i64 w5).bind fun n6 =>
 Option.bind p0 fun q7 =>
 (r2.2.ld q7.1 ((q7.2 + 1) + 1)).bind fun w8 =>
 (AV.asI .i64 w8).bind fun n9 =>
 Option.bind p0 fun q10 =>
 (r2.2.st q10.1 ((q10.2 + 1) + 1) [(.i .i64 (IntKind.i64.wrap (n9 + n1)))]).bind fun h11 =>
 some ((.tup [J n6, J 0]), h11)))
 else none
def semi_Semi__Take : Sm O := semi_Semi__Take_c semi_Semi__Room
theorem semi_Semi__Take_ent : Entered Tryz.prog 273 := Tryz.call273
theorem semi_Semi__Take_run (k330 : Sm O) : run (O := O) Tryz.prog [(330, k330)] Tryz.f273 (.n .z (.n (.n (.n .z (.n .x (.n .z (.n .x .z)))) .z) (.n .z (.n .z .z)))) = semi_Semi__Take_c k330 := by kernel_rfl
theorem semi_Semi__Take_sound : FSound RO Tryz.prog 273 semi_Semi__Take := sdf (semi_Semi__Take_run _) (gcons semi_Semi__Room_ent semi_Semi__Room_sound <| gnil) Tryz.func273 (by kernel_rfl)
def semi_side__within_c : Sm O := fun xs h =>
 bif Nat.beq xs.length 3 then
 (AV.asAgg 2 (xs.getD 0 .u)).bind fun c0 =>
 I6 c0 0 fun n1 => I6 c0 1 fun n2 => (AV.asI .i64 (xs.getD 1 .u)).bind fun n3 =>
 (AV.asI .i64 (xs.getD 2 .u)).bind fun n4 =>
 let h5 := h.bump 1
 let h6 := h5.put h.next (.cells true 258 [J n1, J n2])
 ((bif ((decide (n4 ≥ 0)) == true) then
 some ([(.b (decide (n3 ≥ 0)))], h6)
 else some ([(.b false)], h6)) : Option (List AV × AH O)).bind fun r7 =>
 (AV.asB (r7.1.getD 0 .u)).bind fun b8 =>
 ((bif (b8 == true) then
 (r7.2.ld (.n h.next) 1).bind fun w9 =>
 (AV.asI .i64 w9).bind fun n10 =>
 some ([(.b (decide (n3 ≤ n10)))], r7.2)
 else some ([(.b false)], r7.2)) : Option (List AV × AH O)).bind fun r11 =>
 (AV.asB (r11.1.getD 0 .u)).bind fun b12 =>
 ((bif (b12 == true) then
 (r11.2.ld (.n h.next) 1).bind fun w13 =>
 (AV.asI .i64 w13).bind fun n14 =>
 some ([(.b (decide (n4 ≤ (IntKind.i64.wrap (n14 - n3)))))], r11.2)
 else some ([(.b false)], r11.2)) : Option (List AV × AH O)).bind fun r15 =>
 (AV.asB (r15.1.getD 0 .u)).bind fun b16 =>
 some ((.b b16), r15.2)
 else none
def semi_side__within : Sm O := semi_side__within_c
theorem semi_side__within_ent : Entered Tryz.prog 207 := Tryz.call207
theorem semi_side__within_run : run (O := O) Tryz.prog [] Tryz.f207 (.n .z (.n (.g [(2, 2, [(12, .one .b)]), (6, 4, [(18, .one .b)]), (12, 6, [(26, .one .b)])]) .z)) = semi_side__within_c  := by kernel_rfl
theorem semi_side__within_sound : FSound RO Tryz.prog 207 semi_side__within := sdf semi_side__within_run (gnil) Tryz.func207 (by kernel_rfl)
def mem_Mem__Write_c (k200 k201 : Sm O) : Sm O := fun xs h =>
 bif Nat.beq xs.length 4 then
 (AV.asP (xs.getD 0 .u)).bind fun p0 =>
 (AV.asI .i64 (xs.getD 1 .u)).bind fun n1 =>
 (AV.asI .i64 (xs.getD 2 .u)).bind fun n2 =>
 (AV.asI .u64 (xs.getD 3 .u)).bind fun n3 =>
 (k200 [(.p p0), J n1, J n2, J 1] h).bind fun r4 =>
 (AV.asTup 2 r4.1).bind fun c5 =>
 Is c5 0 fun l6 => I6 c5 1 fun n7 => (bif ((n7 : Int) != 0) then
 none
 else Option.bind p0 fun q8 =>
 (r4.2.ld q8.1 q8.2).bind fun w9 =>
 (AV.asP w9).bind fun p10 =>
 (k201 [(.p p10), J 1, J 1] r4.2).bind fun r11 =>
 (AV.asTup 0 r11.1).bind fun c12 =>
 (bif (decide ((0 : Int) < (l6.2 : Int))) then
 (SA.ref l6.1).bind fun q13 =>
 (r11.2.st q13.1 q13.2 [(.i .u64 n3)]).bind fun h14 =>
 some (J 0, h14)
 else none))
 else none
def mem_Mem__Write : Sm O := mem_Mem__Write_c mem_Mem__within meter_Meter__Step
theorem mem_Mem__Write_ent : Entered Tryz.prog 123 := Tryz.call123
theorem mem_Mem__Write_run (k200 k201 : Sm O) : run (O := O) Tryz.prog [(200, k200), (201, k201)] Tryz.f123 (.n .z (.n .z (.n (.n .z (.n .x .z)) (.n .z (.n .z .z))))) = mem_Mem__Write_c k200 k201 := by kernel_rfl
theorem mem_Mem__Write_sound : FSound RO Tryz.prog 123 mem_Mem__Write := sdf (mem_Mem__Write_run _ _) (gcons mem_Mem__within_ent mem_Mem__within_sound <| gcons meter_Meter__Step_ent meter_Meter__Step_sound <| gnil) Tryz.func123 (by kernel_rfl)
def semi_Semi__Write_c (k207 k123 : Sm O) : Sm O := fun xs h =>
 bif Nat.beq xs.length 3 then
 (AV.asP (xs.getD 0 .u)).bind fun p0 =>
 (AV.asI .i64 (xs.getD 1 .u)).bind fun n1 =>
 (AV.asI .u64 (xs.getD 2 .u)).bind fun n2 =>
 Option.bind p0 fun q3 =>
 (h.ld q3.1 (q3.2 + 1)).bind fun w4 =>
 (AV.asI .i64 w4).bind fun n5 =>
 (h.ld q3.1 ((q3.2 + 1) + 1)).bind fun w6 =>
 (AV.asI .i64 w6).bind fun n7 =>
 (k207 [(.agg [J n5, J n7]), J n1, J 1] h).bind fun r8 =>
 (AV.asB r8.1).bind fun b9 =>
 (bif (!b9) then
 none
 else Option.bind p0 fun q10 =>
 (r8.2.ld q10.1 q10.2).bind fun w11 =>
 (AV.asP w11).bind fun p12 =>
 Option.bind p0 fun q13 =>
 (r8.2.ld q13.1 (q13.2 + 1)).bind fun w14 =>
 (AV.asI .i64 w14).bind fun n15 =>
 (k123 [(.p p12), J n15, J n1, (.i .u64 n2)] r8.2).bind fun r16 =>
 (AV.asI .i64 r16.1).bind fun n17 =>
 some (J n17, r16.2))
 else none
def semi_Semi__Write : Sm O := semi_Semi__Write_c semi_side__within mem_Mem__Write
theorem semi_Semi__Write_ent : Entered Tryz.prog 274 := Tryz.call274
theorem semi_Semi__Write_run (k207 k123 : Sm O) : run (O := O) Tryz.prog [(207, k207), (123, k123)] Tryz.f274 (.n .z (.n (.n .z (.n .x .z)) (.n (.d [] [0, 1, 2, 3, 4, 5, 6, 7, 8, 9, 10, 11, 12] [0, 1, 3, 7, 0, 16, 48, 112, 240, 0, 0, 2047, 4095]) .z))) = semi_Semi__Write_c k207 k123 := by kernel_rfl
theorem semi_Semi__Write_sound : FSound RO Tryz.prog 274 semi_Semi__Write := sdf (semi_Semi__Write_run _ _) (gcons semi_side__within_ent semi_side__within_sound <| gcons mem_Mem__Write_ent mem_Mem__Write_sound <| gnil) Tryz.func274 (by kernel_rfl)
def ref_ToSmall_c : Sm O := fun xs h =>
 bif Nat.beq xs.length 1 then
 (AV.asI .i64 (xs.getD 0 .u)).bind fun n0 =>
 ((bif ((decide (n0 < 0)) == false) then
 some ([(.b (decide (n0 ≥ 4194304)))], h)
 else some ([(.b true)], h)) : Option (List AV × AH O)).bind fun r1 =>
 (AV.asB (r1.1.getD 0 .u)).bind fun b2 =>
 (bif b2 then
 none
 else let v3 : Int := (IntKind.u64.wrap ((IntKind.u64.wrap n0) * 2 ^ 1))
 some ((.tup [(.i .u64 (ibits .or .u64 v3 1)), J 0]), r1.2))
 else none
def ref_ToSmall : Sm O := ref_ToSmall_c
theorem ref_ToSmall_ent : Entered Tryz.prog 275 := Tryz.call275
theorem ref_ToSmall_run : run (O := O) Tryz.prog [] Tryz.f275 (.n .z (.n (.n (.g [(2, 2, [(9, .one .b)])]) (.n .x .z)) .z)) = ref_ToSmall_c  := by kernel_rfl
theorem ref_ToSmall_sound : FSound RO Tryz.prog 275 ref_ToSmall := sdf ref_ToSmall_run (gnil) Tryz.func275 (by kernel_rfl)
def store_Store__Make_c (k48 k135 k73 k273 k274 k275 : Sm O) : Sm O := fun xs h =>
 bif Nat.beq xs.length 3 then
 (AV.asP (xs.getD 0 .u)).bind fun p0 =>
 (AV.asAgg 2 (xs.getD 1 .u)).bind fun c1 =>
 I6 c1 0 fun n2 => I6 c1 1 fun n3 => (AV.asI .i64 (xs.getD 2 .u)).bind fun n4 =>
 let h5 := h.bump 1
 let h6 := h5.put h.next (.cells true 70 [J n2, J n3])
 let h7 := h6.bump 1
 (h7.ld (.n h.next) 0).bind fun w8 =>
 (AV.asI .i64 w8).bind fun n9 =>
 (h7.ld (.n h.next) 1).bind fun w10 =>
 (AV.asI .i64 w10).bind fun n11 =>
 (h7.ld (.n h.next) 0).bind fun w12 =>
 (AV.asI .i64 w12).bind fun n13 =>
 (h7.ld (.n h.next) 1).bind fun w14 =>
 (AV.asI .i64 w14).bind fun n15 =>
 Option.bind p0 fun q16 =>
 (h7.ld q16.1 (q16.2 + 3)).bind fun w17 =>
 (AV.asI .i64 w17).bind fun n18 =>
 (k48 [(.agg [J n13, J n15]), J n18] h7).bind fun r19 =>
 (AV.asB r19.1).bind fun b20 =>
 (chkE (r19.2.ld (.n h.next) 0) (some (.i .i64 n9))).bind fun _ =>
 (chkE (r19.2.ld (.n h.next) 1) (some (.i .i64 n11))).bind fun _ =>
 let h21 := r19.2.put h6.next (.cells true 72 [J 0, J 0, J 0, J 0, (.b false)])
 (h21.st (.n h6.next) 0 [J n9, J n11, J n4, J 0, (.b b20)]).bind fun h22 =>
 (h22.ld (.n h6.next) 0).bind fun w23 =>
 (AV.asI .i64 w23).bind fun n24 =>
 (h22.ld (.n h6.next) 1).bind fun w25 =>
 (AV.asI .i64 w25).bind fun n26 =>
 (h22.ld (.n h6.next) 2).bind fun w27 =>
 (AV.asI .i64 w27).bind fun n28 =>
 (h22.ld (.n h6.next) 3).bind fun w29 =>
 (AV.asI .i64 w29).bind fun n30 =>
 (h22.ld (.n h6.next) 4).bind fun w31 =>
 (AV.asB w31).bind fun b32 =>
 (k135 [(.agg [J n24, J n26, J n28, J n30, (.b b32)])] h22).bind fun r33 =>
 (AV.asTup 2 r33.1).bind fun c34 =>
 (AV.asI .u64 (c34.getD 0 .u)).bind fun n35 =>
 I6 c34 1 fun n36 => (bif ((n36 : Int) != 0) then
 none
 else (r33.2.ld (.n h6.next) 4).bind fun w37 =>
 (AV.asB w37).bind fun b38 =>
 (bif b38 then
 none
 else Option.bind p0 fun q39 =>
 (r33.2.ld q39.1 (q39.2 + 1)).bind fun w40 =>
 (AV.asP w40).bind fun p41 =>
 (r33.2.ld (.n h6.next) 0).bind fun w42 =>
 (AV.asI .i64 w42).bind fun n43 =>
 (r33.2.ld (.n h6.next) 1).bind fun w44 =>
 (AV.asI .i64 w44).bind fun n45 =>
 (r33.2.ld (.n h6.next) 2).bind fun w46 =>
 (AV.asI .i64 w46).bind fun n47 =>
 (r33.2.ld (.n h6.next) 3).bind fun w48 =>
 (AV.asI .i64 w48).bind fun n49 =>
 (r33.2.ld (.n h6.next) 4).bind fun w50 =>
 (AV.asB w50).bind fun b51 =>
 (k73 [(.agg [J n43, J n45, J n47, J n49, (.b b51)])] r33.2).bind fun r52 =>
 (AV.asI .i64 r52.1).bind fun n53 =>
 (chkE (r52.2.ld q39.1 (q39.2 + 1)) (some (.p p41))).bind fun _ =>
 (k273 [(.p p41), J n53] r52.2).bind fun r54 =>
 (AV.asTup 2 r54.1).bind fun c55 =>
 I6 c55 0 fun n56 => I6 c55 1 fun n57 => (bif ((n57 : Int) != 0) then
 none
 else Option.bind p0 fun q58 =>
 (r54.2.ld q58.1 (q58.2 + 1)).bind fun w59 =>
 (AV.asP w59).bind fun p60 =>
 (k274 [(.p p60), J n56, (.i .u64 n35)] r54.2).bind fun r61 =>
 (AV.asI .i64 r61.1).bind fun n62 =>
 (k275 [J n56] r61.2).bind fun r63 =>
 (AV.asTup 2 r63.1).bind fun c64 =>
 (AV.asI .u64 (c64.getD 0 .u)).bind fun n65 =>
 I6 c64 1 fun n66 => some ((.tup [(.i .u64 n65), J n66]), r63.2))))
 else none
def store_Store__Make : Sm O := store_Store__Make_c shape_Large header_Pack header_Words semi_Semi__Take semi_Semi__Write ref_ToSmall
theorem store_Store__Make_ent : Entered Tryz.prog 213 := Tryz.call213
theorem store_Store__Make_run (k48 k135 k73 k273 k274 k275 : Sm O) : run (O := O) Tryz.prog [(48, k48), (135, k135), (73, k73), (273, k273), (274, k274), (275, k275)] Tryz.f213 (.n .z (.n (.d [] [0, 1, 2, 3, 4, 5, 6, 7, 8, 9, 10] [0, 0, 0, 0, 8, 24, 56, 124, 255, 0, 1023]) (.n .z (.n (.n .z (.n .x .z)) (.n (.n .z (.n .x .z)) (.n (.d [] [0, 1, 2, 3, 4, 5, 6, 7, 8, 9, 10, 11, 12] [0, 1, 3, 7, 15, 0, 32, 127, 255, 511, 511, 1023, 4095]) (.n (.n .z (.n .x .z)) (.n .z .z)))))))) = store_Store__Make_c k48 k135 k73 k273 k274 k275 := by kernel_rfl
theorem store_Store__Make_sound : FSound RO Tryz.prog 213 store_Store__Make := sdf (store_Store__Make_run _ _ _ _ _ _) (gcons shape_Large_ent shape_Large_sound <| gcons header_Pack_ent header_Pack_sound <| gcons header_Words_ent header_Words_sound <| gcons semi_Semi__Take_ent semi_Semi__Take_sound <| gcons semi_Semi__Write_ent semi_Semi__Write_sound <| gcons ref_ToSmall_ent ref_ToSmall_sound <| gnil) Tryz.func213 (by kernel_rfl)
def sites_Sites__Add_c (k212 : Sm O) : Sm O := fun xs h =>
 bif Nat.beq xs.length 3 then
 (AV.asP (xs.getD 0 .u)).bind fun p0 =>
 (AV.asI .i64 (xs.getD 1 .u)).bind fun n1 =>
 (AV.asI .i64 (xs.getD 2 .u)).bind fun n2 =>
 (k212 [(.p p0), J n1] h).bind fun r3 =>
 (AV.asB r3.1).bind fun b4 =>
 (bif (!b4) then
 none
 else (bif (decide (n2 < 1)) then
 none
 else Option.bind p0 fun q5 =>
 (bif ((decide ((0 : Int) ≤ n1)) && (decide (n1 < 32))) then
 (r3.2.ld q5.1 ((q5.2 + 1) + (n1.toNat * 2))).bind fun w6 =>
 (AV.asI .i64 w6).bind fun n7 =>
 Option.bind p0 fun q8 =>
 (bif ((decide ((0 : Int) ≤ n1)) && (decide (n1 < 32))) then
 (r3.2.st q8.1 ((q8.2 + 1) + (n1.toNat * 2)) [(.i .i64 (IntKind.i64.wrap (n7 + 1)))]).bind fun h9 =>
 Option.bind p0 fun q10 =>
 (bif ((decide ((0 : Int) ≤ n1)) && (decide (n1 < 32))) then
 (h9.ld q10.1 (((q10.2 + 1) + (n1.toNat * 2)) + 1)).bind fun w11 =>
 (AV.asI .i64 w11).bind fun n12 =>
 Option.bind p0 fun q13 =>
 (bif ((decide ((0 : Int) ≤ n1)) && (decide (n1 < 32))) then
 (h9.st q13.1 (((q13.2 + 1) + (n1.toNat * 2)) + 1) [(.i .i64 (IntKind.i64.wrap (n12 + n2)))]).bind fun h14 =>
 some (J 0, h14)
 else none)
 else none)
 else none)
 else none)))
 else none
def sites_Sites__Add : Sm O := sites_Sites__Add_c sites_Sites__Is
theorem sites_Sites__Add_ent : Entered Tryz.prog 214 := Tryz.call214
theorem sites_Sites__Add_run (k212 : Sm O) : run (O := O) Tryz.prog [(212, k212)] Tryz.f214 (.n .z (.n (.n (.n .z (.n .x (.n .z (.n .x .z)))) .z) (.n (.d [] [0, 1, 2, 3, 4, 5, 6, 7, 8, 9, 10, 11, 12] [0, 0, 1, 5, 15, 31, 63, 127, 1, 257, 1023, 2047, 4095]) (.n (.d [] [0, 1, 2, 3, 4, 5, 6, 7, 8, 9, 10, 11, 12, 13] [0, 0, 1, 5, 15, 31, 63, 0, 255, 1, 513, 2047, 4095, 8191]) .z)))) = sites_Sites__Add_c k212 := by kernel_rfl
theorem sites_Sites__Add_sound : FSound RO Tryz.prog 214 sites_Sites__Add := sdf (sites_Sites__Add_run _) (gcons sites_Sites__Is_ent sites_Sites__Is_sound <| gnil) Tryz.func214 (by kernel_rfl)
def survive_is_c : Sm O := fun xs h =>
 bif Nat.beq xs.length 2 then
 (AV.asI .i64 (xs.getD 0 .u)).bind fun n0 =>
 (AV.asI .i64 (xs.getD 1 .u)).bind fun n1 =>
 ((bif ((decide (n0 ≥ 0)) == true) then
 some ([(.b (decide (n0 < 32)))], h)
 else some ([(.b false)], h)) : Option (List AV × AH O)).bind fun r2 =>
 (AV.asB (r2.1.getD 0 .u)).bind fun b3 =>
 ((bif (b3 == true) then
 some ([(.b (decide (n1 ≥ 0)))], r2.2)
 else some ([(.b false)], r2.2)) : Option (List AV × AH O)).bind fun r4 =>
 (AV.asB (r4.1.getD 0 .u)).bind fun b5 =>
 ((bif (b5 == true) then
 some ([(.b (decide (n1 < 7)))], r4.2)
 else some ([(.b false)], r4.2)) : Option (List AV × AH O)).bind fun r6 =>
 (AV.asB (r6.1.getD 0 .u)).bind fun b7 =>
 some ((.b b7), r6.2)
 else none
def survive_is : Sm O := survive_is_c
theorem survive_is_ent : Entered Tryz.prog 253 := Tryz.call253
theorem survive_is_run : run (O := O) Tryz.prog [] Tryz.f253 (.n .z (.n (.g [(2, 2, [(10, .one .b)]), (6, 2, [(14, .one .b)]), (10, 2, [(18, .one .b)])]) .z)) = survive_is_c  := by kernel_rfl
theorem survive_is_sound : FSound RO Tryz.prog 253 survive_is := sdf survive_is_run (gnil) Tryz.func253 (by kernel_rfl)
def survive_Survive__Ask_c (k253 : Sm O) : Sm O := fun xs h =>
 bif Nat.beq xs.length 2 then
 (AV.asP (xs.getD 0 .u)).bind fun p0 =>
 (AV.asI .i64 (xs.getD 1 .u)).bind fun n1 =>
 (k253 [J n1, J 0] h).bind fun r2 =>
 (AV.asB r2.1).bind fun b3 =>
 (bif (!b3) then
 none
 else Option.bind p0 fun q4 =>
 (bif ((decide ((0 : Int) ≤ n1)) && (decide (n1 < 32))) then
 (r2.2.ld q4.1 (q4.2 + (n1.toNat * 7))).bind fun w5 =>
 (AV.asI .i64 w5).bind fun n6 =>
 Option.bind p0 fun q7 =>
 (bif ((decide ((0 : Int) ≤ n1)) && (decide (n1 < 32))) then
 (r2.2.st q7.1 (q7.2 + (n1.toNat * 7)) [(.i .i64 (IntKind.i64.wrap (n6 + 1)))]).bind fun h8 =>
 some (J 0, h8)
 else none)
 else none))
 else none
def survive_Survive__Ask : Sm O := survive_Survive__Ask_c survive_is
theorem survive_Survive__Ask_ent : Entered Tryz.prog 215 := Tryz.call215
theorem survive_Survive__Ask_run (k253 : Sm O) : run (O := O) Tryz.prog [(253, k253)] Tryz.f215 (.n .z (.n (.n .z (.n .x .z)) (.n (.d [] [0, 1, 2, 3, 4, 5, 6, 7, 8, 9, 10, 11, 12] [0, 0, 1, 5, 15, 31, 63, 127, 1, 257, 771, 2047, 4095]) .z))) = survive_Survive__Ask_c k253 := by kernel_rfl
theorem survive_Survive__Ask_sound : FSound RO Tryz.prog 215 survive_Survive__Ask := sdf (survive_Survive__Ask_run _) (gcons survive_is_ent survive_is_sound <| gnil) Tryz.func215 (by kernel_rfl)
def pool_Pool__Set_c (k205 k206 k123 : Sm O) : Sm O := fun xs h =>
 bif Nat.beq xs.length 4 then
 (AV.asP (xs.getD 0 .u)).bind fun p0 =>
 (AV.asI .i64 (xs.getD 1 .u)).bind fun n1 =>
 (AV.asI .i64 (xs.getD 2 .u)).bind fun n2 =>
 (AV.asI .u64 (xs.getD 3 .u)).bind fun n3 =>
 (k205 [(.p p0), J n1, J n2] h).bind fun r4 =>
 (AV.asI .i64 r4.1).bind fun n5 =>
 (bif ((n5 : Int) != 0) then
 none
 else Option.bind p0 fun q6 =>
 (r4.2.ld q6.1 q6.2).bind fun w7 =>
 (AV.asP w7).bind fun p8 =>
 Option.bind p0 fun q9 =>
 (r4.2.ld q9.1 (q9.2 + 1)).bind fun w10 =>
 (AV.asI .i64 w10).bind fun n11 =>
 (k206 [(.p p0), J n1, J n2] r4.2).bind fun r12 =>
 (AV.asI .i64 r12.1).bind fun n13 =>
 (chkE (r12.2.ld q6.1 q6.2) (some (.p p8))).bind fun _ =>
 (chkE (r12.2.ld q9.1 (q9.2 + 1)) (some (.i .i64 n11))).bind fun _ =>
 (k123 [(.p p8), J n11, J n13, (.i .u64 n3)] r12.2).bind fun r14 =>
 (AV.asI .i64 r14.1).bind fun n15 =>
 some (J n15, r14.2))
 else none
def pool_Pool__Set : Sm O := pool_Pool__Set_c pool_Pool__check pool_Pool__at mem_Mem__Write
theorem pool_Pool__Set_ent : Entered Tryz.prog 128 := Tryz.call128
theorem pool_Pool__Set_run (k205 k206 k123 : Sm O) : run (O := O) Tryz.prog [(205, k205), (206, k206), (123, k123)] Tryz.f128 (.n .z (.n (.n .z (.n .z (.n .x .z))) (.n (.d [] [0, 1, 2, 3, 4, 5, 6, 7, 8, 9, 10, 12, 11, 13, 14] [0, 1, 3, 7, 0, 16, 48, 112, 0, 0, 0, 1792, 0, 8191, 16383]) .z))) = pool_Pool__Set_c k205 k206 k123 := by kernel_rfl
theorem pool_Pool__Set_sound : FSound RO Tryz.prog 128 pool_Pool__Set := sdf (pool_Pool__Set_run _ _ _) (gcons pool_Pool__check_ent pool_Pool__check_sound <| gcons pool_Pool__at_ent pool_Pool__at_sound <| gcons mem_Mem__Write_ent mem_Mem__Write_sound <| gnil) Tryz.func128 (by kernel_rfl)
def handles_Handles__Set_c (k285 k128 : Sm O) : Sm O := fun xs h =>
 bif Nat.beq xs.length 3 then
 (AV.asP (xs.getD 0 .u)).bind fun p0 =>
 (AV.asI .i64 (xs.getD 1 .u)).bind fun n1 =>
 (AV.asI .u64 (xs.getD 2 .u)).bind fun n2 =>
 (k285 [(.p p0), J n1] h).bind fun r3 =>
 (AV.asTup 2 r3.1).bind fun c4 =>
 I6 c4 0 fun n5 => I6 c4 1 fun n6 => (bif ((n6 : Int) != 0) then
 none
 else Option.bind p0 fun q7 =>
 (r3.2.ld q7.1 q7.2).bind fun w8 =>
 (AV.asP w8).bind fun p9 =>
 (k128 [(.p p9), J n5, J 0, (.i .u64 n2)] r3.2).bind fun r10 =>
 (AV.asI .i64 r10.1).bind fun n11 =>
 some (J n11, r10.2))
 else none
def handles_Handles__Set : Sm O := handles_Handles__Set_c handles_Handles__id pool_Pool__Set
theorem handles_Handles__Set_ent : Entered Tryz.prog 230 := Tryz.call230
theorem handles_Handles__Set_run (k285 k128 : Sm O) : run (O := O) Tryz.prog [(285, k285), (128, k128)] Tryz.f230 (.n .z (.n .z (.n (.n .z (.n .x .z)) .z))) = handles_Handles__Set_c k285 k128 := by kernel_rfl
theorem handles_Handles__Set_sound : FSound RO Tryz.prog 230 handles_Handles__Set := sdf (handles_Handles__Set_run _ _) (gcons handles_Handles__id_ent handles_Handles__id_sound <| gcons pool_Pool__Set_ent pool_Pool__Set_sound <| gnil) Tryz.func230 (by kernel_rfl)
def roots_Roots__Set_c (k230 : Sm O) : Sm O := fun xs h =>
 bif Nat.beq xs.length 3 then
 (AV.asP (xs.getD 0 .u)).bind fun p0 =>
 (AV.asI .i64 (xs.getD 1 .u)).bind fun n1 =>
 (AV.asI .u64 (xs.getD 2 .u)).bind fun n2 =>
 (bif (decide (n1 ≥ 0)) then
 Option.bind p0 fun q3 =>
 (h.ld q3.1 (q3.2 + 1)).bind fun w4 =>
 (AV.asP w4).bind fun p5 =>
 (k230 [(.p p5), J n1, (.i .u64 n2)] h).bind fun r6 =>
 (AV.asI .i64 r6.1).bind fun n7 =>
 some (J n7, r6.2)
 else none)
 else none
def roots_Roots__Set : Sm O := roots_Roots__Set_c handles_Handles__Set
theorem roots_Roots__Set_ent : Entered Tryz.prog 168 := Tryz.call168
theorem roots_Roots__Set_run (k230 : Sm O) : run (O := O) Tryz.prog [(230, k230)] Tryz.f168 (.n .z (.n (.n .z (.n .z .x)) (.n (.d [] [0, 1, 2, 3, 4, 6, 5, 7, 8] [0, 1, 3, 7, 0, 16, 0, 127, 255]) .z))) = roots_Roots__Set_c k230 := by kernel_rfl
theorem roots_Roots__Set_sound : FSound RO Tryz.prog 168 roots_Roots__Set := sdf (roots_Roots__Set_run _) (gcons handles_Handles__Set_ent handles_Handles__Set_sound <| gnil) Tryz.func168 (by kernel_rfl)
def heap_Heap__make_c (k212 k72 k156 k28 k146 k213 k47 k214 k215 k168 : Sm O) : Sm O := fun xs h =>
 bif Nat.beq xs.length 4 then
 (AV.asP (xs.getD 0 .u)).bind fun p0 =>
 (AV.asI .i64 (xs.getD 1 .u)).bind fun n1 =>
 (AV.asAgg 2 (xs.getD 2 .u)).bind fun c2 =>
 I6 c2 0 fun n3 => I6 c2 1 fun n4 => (AV.asI .i64 (xs.getD 3 .u)).bind fun n5 =>
 let h6 := h.bump 1
 let h7 := h6.put h.next (.cells true 70 [J n3, J n4])
 Option.bind p0 fun q8 =>
 (h7.ld q8.1 (q8.2 + 19)).bind fun w9 =>
 (AV.asP w9).bind fun p10 =>
 (k212 [(.p p10), J n5] h7).bind fun r11 =>
 (AV.asB r11.1).bind fun b12 =>
 (bif (!b12) then
 none
 else (r11.2.ld (.n h.next) 0).bind fun w13 =>
 (AV.asI .i64 w13).bind fun n14 =>
 (r11.2.ld (.n h.next) 1).bind fun w15 =>
 (AV.asI .i64 w15).bind fun n16 =>
 (k72 [(.agg [J n14, J n16])] r11.2).bind fun r17 =>
 (AV.asB r17.1).bind fun b18 =>
 (bif (!b18) then
 none
 else Option.bind p0 fun q19 =>
 (r17.2.ld q19.1 (q19.2 + 6)).bind fun w20 =>
 (AV.asP w20).bind fun p21 =>
 (k156 [(.p p21), J n1] r17.2).bind fun r22 =>
 (AV.asTup 2 r22.1).bind fun c23 =>
 (AV.asI .u64 (c23.getD 0 .u)).bind fun n24 =>
 I6 c23 1 fun n25 => (bif ((n25 : Int) != 0) then
 none
 else (r22.2.ld (.n h.next) 0).bind fun w26 =>
 (AV.asI .i64 w26).bind fun n27 =>
 (r22.2.ld (.n h.next) 1).bind fun w28 =>
 (AV.asI .i64 w28).bind fun n29 =>
 Option.bind p0 fun q30 =>
 (r22.2.ld q30.1 (q30.2 + 2)).bind fun w31 =>
 (AV.asI .i64 w31).bind fun n32 =>
 (k28 [(.agg [J n27, J n29]), J n32] r22.2).bind fun r33 =>
 (AV.asI .i64 r33.1).bind fun n34 =>
 (k146 [(.p p0), J n34] r33.2).bind fun r35 =>
 (AV.asI .i64 r35.1).bind fun n36 =>
 (bif ((n36 : Int) != 0) then
 none
 else Option.bind p0 fun q37 =>
 (r35.2.ld q37.1 (q37.2 + 5)).bind fun w38 =>
 (AV.asP w38).bind fun p39 =>
 (r35.2.ld (.n h.next) 0).bind fun w40 =>
 (AV.asI .i64 w40).bind fun n41 =>
 (r35.2.ld (.n h.next) 1).bind fun w42 =>
 (AV.asI .i64 w42).bind fun n43 =>
 (k213 [(.p p39), (.agg [J n41, J n43]), J n5] r35.2).bind fun r44 =>
 (AV.asTup 2 r44.1).bind fun c45 =>
 (AV.asI .u64 (c45.getD 0 .u)).bind fun n46 =>
 I6 c45 1 fun n47 => (bif ((n47 : Int) != 0) then
 none
 else Option.bind p0 fun q48 =>
 (r44.2.ld q48.1 (q48.2 + 31)).bind fun w49 =>
 (AV.asI .i64 w49).bind fun n50 =>
 Option.bind p0 fun q51 =>
 (r44.2.st q51.1 (q51.2 + 31) [(.i .i64 (IntKind.i64.wrap (n50 + n34)))]).bind fun h52 =>
 Option.bind p0 fun q53 =>
 (h52.ld q53.1 (q53.2 + 19)).bind fun w54 =>
 (AV.asP w54).bind fun p55 =>
 (h52.ld (.n h.next) 0).bind fun w56 =>
 (AV.asI .i64 w56).bind fun n57 =>
 (h52.ld (.n h.next) 1).bind fun w58 =>
 (AV.asI .i64 w58).bind fun n59 =>
 (k47 [(.agg [J n57, J n59])] h52).bind fun r60 =>
 (AV.asI .i64 r60.1).bind fun n61 =>
 (chkE (r60.2.ld q53.1 (q53.2 + 19)) (some (.p p55))).bind fun _ =>
 (k214 [(.p p55), J n5, J n61] r60.2).bind fun r62 =>
 (AV.asI .i64 r62.1).bind fun n63 =>
 Option.bind p0 fun q64 =>
 (r62.2.ld q64.1 (q64.2 + 20)).bind fun w65 =>
 (AV.asP w65).bind fun p66 =>
 (k215 [(.p p66), J n5] r62.2).bind fun r67 =>
 (AV.asI .i64 r67.1).bind fun n68 =>
 Option.bind p0 fun q69 =>
 (r67.2.ld q69.1 (q69.2 + 6)).bind fun w70 =>
 (AV.asP w70).bind fun p71 =>
 (k168 [(.p p71), J n1, (.i .u64 n46)] r67.2).bind fun r72 =>
 (AV.asI .i64 r72.1).bind fun n73 =>
 some (J n73, r72.2))))))
 else none
def heap_Heap__make : Sm O := heap_Heap__make_c sites_Sites__Is shape_Right roots_Roots__Get shape_Charge heap_Heap__request store_Store__Make shape_Words sites_Sites__Add survive_Survive__Ask roots_Roots__Set
theorem heap_Heap__make_ent : Entered Tryz.prog 140 := Tryz.call140
theorem heap_Heap__make_run (k212 k72 k156 k28 k146 k213 k47 k214 k215 k168 : Sm O) : run (O := O) Tryz.prog [(212, k212), (72, k72), (156, k156), (28, k28), (146, k146), (213, k213), (47, k47), (214, k214), (215, k215), (168, k168)] Tryz.f140 (.n .z (.n (.n (.n .z (.n .x (.n .z (.n .x .z)))) .z) (.n (.n .z (.n .z (.n .x .z))) (.n (.d [] [0, 1, 2, 3, 4, 5, 6, 7] [0, 0, 2, 6, 14, 30, 63, 127]) (.n (.n .z (.n .z (.n .x .z))) (.n (.d [] [0, 1, 2, 3, 4, 5, 6, 7, 8, 9, 10, 11] [0, 1, 3, 7, 0, 0, 63, 127, 255, 255, 511, 2047]) (.n (.n .z (.n .x .z)) (.n .z (.n (.d [] [0, 1, 2, 3, 4, 5, 6, 7] [0, 1, 3, 7, 0, 0, 32, 127]) (.n .z .z)))))))))) = heap_Heap__make_c k212 k72 k156 k28 k146 k213 k47 k214 k215 k168 := by kernel_rfl
theorem heap_Heap__make_sound : FSound RO Tryz.prog 140 heap_Heap__make := sdf (heap_Heap__make_run _ _ _ _ _ _ _ _ _ _) (gcons sites_Sites__Is_ent sites_Sites__Is_sound <| gcons shape_Right_ent shape_Right_sound <| gcons roots_Roots__Get_ent roots_Roots__Get_sound <| gcons shape_Charge_ent shape_Charge_sound <| gcons heap_Heap__request_ent heap_Heap__request_sound <| gcons store_Store__Make_ent store_Store__Make_sound <| gcons shape_Words_ent shape_Words_sound <| gcons sites_Sites__Add_ent sites_Sites__Add_sound <| gcons survive_Survive__Ask_ent survive_Survive__Ask_sound <| gcons roots_Roots__Set_ent roots_Roots__Set_sound <| gnil) Tryz.func140 (by kernel_rfl)
def heap_Heap__Alloc_1_c (k140 : Sm O) : Sm O := fun xs h =>
 bif Nat.beq xs.length 4 then
 (AV.asPS (xs.getD 0 .u)).bind fun q0 =>
 (h.ld q0.1 q0.2).bind fun w1 =>
 (AV.asP w1).bind fun p2 =>
 (AV.asPS (xs.getD 1 .u)).bind fun q3 =>
 (h.ld q3.1 q3.2).bind fun w4 =>
 (AV.asI .i64 w4).bind fun n5 =>
 (AV.asPS (xs.getD 2 .u)).bind fun q6 =>
 (h.ld q6.1 q6.2).bind fun w7 =>
 (AV.asI .i64 w7).bind fun n8 =>
 (h.ld q6.1 (q6.2 + 1)).bind fun w9 =>
 (AV.asI .i64 w9).bind fun n10 =>
 (AV.asPS (xs.getD 3 .u)).bind fun q11 =>
 (h.ld q11.1 q11.2).bind fun w12 =>
 (AV.asI .i64 w12).bind fun n13 =>
 (k140 [(.p p2), J n5, (.agg [J n8, J n10]), J n13] h).bind fun r14 =>
 (AV.asI .i64 r14.1).bind fun n15 =>
 some (J n15, r14.2)
 else none
def heap_Heap__Alloc_1 : Sm O := heap_Heap__Alloc_1_c heap_Heap__make
theorem heap_Heap__Alloc_1_ent : Entered Tryz.prog 139 := Tryz.call139
theorem heap_Heap__Alloc_1_run (k140 : Sm O) : run (O := O) Tryz.prog [(140, k140)] Tryz.f139 (.n .z .z) = heap_Heap__Alloc_1_c k140 := by kernel_rfl
theorem heap_Heap__Alloc_1_sound : FSound RO Tryz.prog 139 heap_Heap__Alloc_1 := sdf (heap_Heap__Alloc_1_run _) (gcons heap_Heap__make_ent heap_Heap__make_sound <| gnil) Tryz.func139 (by kernel_rfl)
def mem_Mem__Grow_c (k260 k211 : Sm O) : Sm O := fun xs h =>
 bif Nat.beq xs.length 3 then
 (AV.asP (xs.getD 0 .u)).bind fun p0 =>
 (AV.asI .i64 (xs.getD 1 .u)).bind fun n1 =>
 (AV.asI .i64 (xs.getD 2 .u)).bind fun n2 =>
 (k260 [(.p p0), J n1] h).bind fun r3 =>
 (AV.asP r3.1).bind fun p4 =>
 (bif (Option.isNone p4) then
 none
 else Option.bind p4 fun q5 =>
 (r3.2.ld q5.1 q5.2).bind fun w6 =>
 (AV.asSl w6).bind fun l7 =>
 (bif (decide (n2 < (l7.2 : Int))) then
 none
 else (bif (decide (n2 > 4194304)) then
 none
 else Option.bind p0 fun q8 =>
 (r3.2.ld q8.1 q8.2).bind fun w9 =>
 (AV.asP w9).bind fun p10 =>
 Option.bind p4 fun q11 =>
 (r3.2.ld q11.1 q11.2).bind fun w12 =>
 (AV.asSl w12).bind fun l13 =>
 (k211 [(.p p10), (.i .i64 (IntKind.i64.wrap (n2 - (l13.2 : Int))))] r3.2).bind fun r14 =>
 (AV.asI .i64 r14.1).bind fun n15 =>
 let h16 := r14.2.bump 1
 (bif ((((decide ((0 : Int) ≤ n2)) && (decide (n2 ≤ n2))) && (decide ((n2 * 8) ≤ 140737488355328))) && (decide (n2 ≤ 140737488355328))) then
 let h17 := h16.put r14.2.next (.cells true 90 ((List.replicate n2.toNat [(.i .u64 0)]).flatten))
 Option.bind p4 fun q18 =>
 (h17.ld q18.1 q18.2).bind fun w19 =>
 (AV.asSl w19).bind fun l20 =>
 (bif Nat.beq (min l20.2 n2.toNat) 0 then
 Option.bind p4 fun q24 =>
 (h17.st q24.1 q24.2 [(.sl (.loc (.n r14.2.next) 0 1) n2.toNat)]).bind fun h25 =>
 some (J 0, h25)
 else
 (h17.rdSl l20.1 (min l20.2 n2.toNat) 1).bind fun c22 =>
 (h17.wrSl (.loc (.n r14.2.next) 0 1) c22).bind fun h23 =>
 Option.bind p4 fun q26 =>
 (h23.st q26.1 q26.2 [(.sl (.loc (.n r14.2.next) 0 1) n2.toNat)]).bind fun h27 =>
 some (J 0, h27))
 else none))))
 else none
def mem_Mem__Grow : Sm O := mem_Mem__Grow_c mem_Mem__at meter_Meter__Hold
theorem mem_Mem__Grow_ent : Entered Tryz.prog 240 := Tryz.call240
theorem mem_Mem__Grow_run (k260 k211 : Sm O) : run (O := O) Tryz.prog [(260, k260), (211, k211)] Tryz.f240 (.n .z (.n .z (.n (.n (.n .z (.n .x (.n .z (.n .x (.n .z (.n .x .z)))))) .z) (.n (.d [] [0, 1, 2, 3, 4, 5, 6, 7, 8, 9, 10, 11] [0, 1, 3, 7, 0, 0, 32, 96, 224, 480, 1008, 2047]) (.n .z (.n .z (.n .z .z))))))) = mem_Mem__Grow_c k260 k211 := by kernel_rfl
theorem mem_Mem__Grow_sound : FSound RO Tryz.prog 240 mem_Mem__Grow := sdf (mem_Mem__Grow_run _ _) (gcons mem_Mem__at_ent mem_Mem__at_sound <| gcons meter_Meter__Hold_ent meter_Meter__Hold_sound <| gnil) Tryz.func240 (by kernel_rfl)
def pool_Pool__grow_c (k262 k240 : Sm O) : Sm O := fun xs h =>
 bif Nat.beq xs.length 1 then
 (AV.asP (xs.getD 0 .u)).bind fun p0 =>
 Option.bind p0 fun q1 =>
 (h.ld q1.1 (q1.2 + 3)).bind fun w2 =>
 (AV.asI .i64 w2).bind fun n3 =>
 (bif (decide (n3 ≥ 1048576)) then
 none
 else Option.bind p0 fun q4 =>
 (h.ld q4.1 (q4.2 + 3)).bind fun w5 =>
 (AV.asI .i64 w5).bind fun n6 =>
 Option.bind p0 fun q7 =>
 (h.ld q7.1 (q7.2 + 4)).bind fun w8 =>
 (AV.asI .i64 w8).bind fun n9 =>
 (bif (decide (n6 < n9)) then
 none
 else Option.bind p0 fun q10 =>
 (h.ld q10.1 (q10.2 + 4)).bind fun w11 =>
 (AV.asI .i64 w11).bind fun n12 =>
 let v13 : Int := (if (IntKind.i64.wrap (2 * n12)) > 8 then (IntKind.i64.wrap (2 * n12)) else 8)
 Option.bind p0 fun q14 =>
 (h.ld q14.1 q14.2).bind fun w15 =>
 (AV.asP w15).bind fun p16 =>
 Option.bind p0 fun q17 =>
 (h.ld q17.1 (q17.2 + 1)).bind fun w18 =>
 (AV.asI .i64 w18).bind fun n19 =>
 (k262 [(.p p0)] h).bind fun r20 =>
 (AV.asI .i64 r20.1).bind fun n21 =>
 (chkE (r20.2.ld q14.1 q14.2) (some (.p p16))).bind fun _ =>
 (chkE (r20.2.ld q17.1 (q17.2 + 1)) (some (.i .i64 n19))).bind fun _ =>
 (k240 [(.p p16), J n19, (.i .i64 (IntKind.i64.wrap (v13 * n21)))] r20.2).bind fun r22 =>
 (AV.asI .i64 r22.1).bind fun n23 =>
 (bif ((n23 : Int) != 0) then
 none
 else Option.bind p0 fun q24 =>
 (r22.2.st q24.1 (q24.2 + 4) [J v13]).bind fun h25 =>
 some (J 0, h25))))
 else none
def pool_Pool__grow : Sm O := pool_Pool__grow_c pool_Pool__width mem_Mem__Grow
theorem pool_Pool__grow_ent : Entered Tryz.prog 331 := Tryz.call331
theorem pool_Pool__grow_run (k262 k240 : Sm O) : run (O := O) Tryz.prog [(262, k262), (240, k240)] Tryz.f331 (.n .z (.n (.n (.n .z (.n .x (.n (.d [] [0, 1, 2, 3, 4, 5, 6, 7, 8, 9] [0, 1, 3, 7, 0, 16, 48, 112, 255, 511]) (.n .x .z)))) .z) (.n .z (.n (.n (.d [] [0, 1, 2, 3, 4, 5, 6, 7, 8, 9, 10, 11, 12, 13] [0, 1, 3, 7, 0, 16, 48, 112, 0, 0, 512, 1792, 4095, 8191]) (.n .z (.n .x .z))) (.n .z .z))))) = pool_Pool__grow_c k262 k240 := by kernel_rfl
theorem pool_Pool__grow_sound : FSound RO Tryz.prog 331 pool_Pool__grow := sdf (pool_Pool__grow_run _ _) (gcons pool_Pool__width_ent pool_Pool__width_sound <| gcons mem_Mem__Grow_ent mem_Mem__Grow_sound <| gnil) Tryz.func331 (by kernel_rfl)
def pool_Pool__Take_c (k331 k206 k123 k122 : Sm O) : Sm O := fun xs h =>
 bif Nat.beq xs.length 1 then
 (AV.asP (xs.getD 0 .u)).bind fun p0 =>
 Option.bind p0 fun q1 =>
 (h.ld q1.1 (q1.2 + 5)).bind fun w2 =>
 (AV.asI .i64 w2).bind fun n3 =>
 (bif ((n3 : Int) == 0) then
 (k331 [(.p p0)] h).bind fun r4 =>
 (AV.asI .i64 r4.1).bind fun n5 =>
 (bif ((n5 : Int) != 0) then
 none
 else Option.bind p0 fun q6 =>
 (r4.2.ld q6.1 (q6.2 + 3)).bind fun w7 =>
 (AV.asI .i64 w7).bind fun n8 =>
 Option.bind p0 fun q9 =>
 (r4.2.st q9.1 (q9.2 + 3) [(.i .i64 (IntKind.i64.wrap (n8 + 1)))]).bind fun h10 =>
 Option.bind p0 fun q11 =>
 (h10.ld q11.1 (q11.2 + 3)).bind fun w12 =>
 (AV.asI .i64 w12).bind fun n13 =>
 Option.bind p0 fun q14 =>
 (h10.ld q14.1 q14.2).bind fun w15 =>
 (AV.asP w15).bind fun p16 =>
 Option.bind p0 fun q17 =>
 (h10.ld q17.1 (q17.2 + 1)).bind fun w18 =>
 (AV.asI .i64 w18).bind fun n19 =>
 (k206 [(.p p0), J n13, (.i .i64 (-1))] h10).bind fun r20 =>
 (AV.asI .i64 r20.1).bind fun n21 =>
 (chkE (r20.2.ld q14.1 q14.2) (some (.p p16))).bind fun _ =>
 (chkE (r20.2.ld q17.1 (q17.2 + 1)) (some (.i .i64 n19))).bind fun _ =>
 (k123 [(.p p16), J n19, J n21, (.i .u64 1)] r20.2).bind fun r22 =>
 (AV.asI .i64 r22.1).bind fun n23 =>
 Option.bind p0 fun q24 =>
 (r22.2.ld q24.1 (q24.2 + 6)).bind fun w25 =>
 (AV.asI .i64 w25).bind fun n26 =>
 Option.bind p0 fun q27 =>
 (r22.2.st q27.1 (q27.2 + 6) [(.i .i64 (IntKind.i64.wrap (n26 + 1)))]).bind fun h28 =>
 some ((.tup [J n13, J 0]), h28))
 else none)
 else none
def pool_Pool__Take : Sm O := pool_Pool__Take_c pool_Pool__grow pool_Pool__at mem_Mem__Write mem_Mem__Read
theorem pool_Pool__Take_ent : Entered Tryz.prog 280 := Tryz.call280
theorem pool_Pool__Take_run (k331 k206 k123 k122 : Sm O) : run (O := O) Tryz.prog [(331, k331), (206, k206), (123, k123), (122, k122)] Tryz.f280 (.n .z (.n .z (.n (.n .z (.n (.n (.n .z (.n .z (.n .x .z))) (.n .z (.n .z (.n (.d [] [0, 1, 2, 3, 4, 5, 6, 7, 8, 9, 10, 11] [0, 1, 3, 7, 0, 16, 48, 112, 0, 0, 768, 2047]) (.n .z .z))))) .x)) (.n (.d [] [0, 1, 2, 3, 4, 5, 6, 7, 8, 9, 10, 11, 12, 13, 14, 15, 16] [0, 1, 3, 7, 0, 16, 48, 112, 0, 0, 768, 2047, 4095, 8191, 8191, 16383, 65535]) (.n (.d [] [0, 1, 2, 3, 4, 5, 6, 7, 8, 9, 10, 11, 12, 13, 14, 15, 16] [0, 1, 3, 7, 0, 16, 48, 112, 0, 0, 768, 2047, 4095, 8191, 8191, 16383, 65535]) (.n (.d [] [0, 1, 2, 3, 4, 5, 6, 7, 8, 9, 11, 12, 10, 13] [0, 1, 3, 7, 0, 16, 48, 112, 0, 0, 768, 0, 2048, 8191]) (.n (.d [] [0, 1, 2, 3, 4, 5, 6, 7, 8, 9, 11, 12, 13, 14, 10, 15] [0, 1, 3, 7, 0, 16, 48, 112, 0, 0, 768, 0, 2048, 6144, 14336, 32767]) (.n .z (.n .z .z))))))))) = pool_Pool__Take_c k331 k206 k123 k122 := by kernel_rfl
theorem pool_Pool__Take_sound : FSound RO Tryz.prog 280 pool_Pool__Take := sdf (pool_Pool__Take_run _ _ _ _) (gcons pool_Pool__grow_ent pool_Pool__grow_sound <| gcons pool_Pool__at_ent pool_Pool__at_sound <| gcons mem_Mem__Write_ent mem_Mem__Write_sound <| gcons mem_Mem__Read_ent mem_Mem__Read_sound <| gnil) Tryz.func280 (by kernel_rfl)
def pool_Pool__Table_c (k262 : Sm O) : Sm O := fun xs h =>
 bif Nat.beq xs.length 3 then
 (AV.asP (xs.getD 0 .u)).bind fun p0 =>
 (AV.asI .i64 (xs.getD 1 .u)).bind fun n1 =>
 (AV.asI .i64 (xs.getD 2 .u)).bind fun n2 =>
 let h3 := h.bump 1
 let h4 := h3.put h.next (.cells true 235 [(.p none), J 0, J 0, J 0, J 0])
 Option.bind p0 fun q5 =>
 (h4.ld q5.1 q5.2).bind fun w6 =>
 (AV.asP w6).bind fun p7 =>
 Option.bind p0 fun q8 =>
 (h4.ld q8.1 (q8.2 + 1)).bind fun w9 =>
 (AV.asI .i64 w9).bind fun n10 =>
 (k262 [(.p p0)] h4).bind fun r11 =>
 (AV.asI .i64 r11.1).bind fun n12 =>
 (chkE (r11.2.ld q5.1 q5.2) (some (.p p7))).bind fun _ =>
 (chkE (r11.2.ld q8.1 (q8.2 + 1)) (some (.i .i64 n10))).bind fun _ =>
 (r11.2.st (.n h.next) 0 [(.p p7), J n10, J n12, (.i .i64 (IntKind.i64.wrap (n1 + 1))), (.i .i64 (IntKind.i64.wrap (n2 + 1)))]).bind fun h13 =>
 (h13.ld (.n h.next) 0).bind fun w14 =>
 (AV.asP w14).bind fun p15 =>
 (h13.ld (.n h.next) 1).bind fun w16 =>
 (AV.asI .i64 w16).bind fun n17 =>
 (h13.ld (.n h.next) 2).bind fun w18 =>
 (AV.asI .i64 w18).bind fun n19 =>
 (h13.ld (.n h.next) 3).bind fun w20 =>
 (AV.asI .i64 w20).bind fun n21 =>
 (h13.ld (.n h.next) 4).bind fun w22 =>
 (AV.asI .i64 w22).bind fun n23 =>
 some ((.agg [(.p p15), J n17, J n19, J n21, J n23]), h13)
 else none
def pool_Pool__Table : Sm O := pool_Pool__Table_c pool_Pool__width
theorem pool_Pool__Table_ent : Entered Tryz.prog 202 := Tryz.call202
theorem pool_Pool__Table_run (k262 : Sm O) : run (O := O) Tryz.prog [(262, k262)] Tryz.f202 (.n .z (.n (.d [] [0, 1, 2, 3, 4, 5, 6, 7, 8, 10, 11, 12, 13, 9, 14, 15] [0, 1, 3, 7, 0, 16, 48, 112, 0, 256, 0, 1024, 0, 4096, 16383, 32767]) .z)) = pool_Pool__Table_c k262 := by kernel_rfl
theorem pool_Pool__Table_sound : FSound RO Tryz.prog 202 pool_Pool__Table := sdf (pool_Pool__Table_run _) (gcons pool_Pool__width_ent pool_Pool__width_sound <| gnil) Tryz.func202 (by kernel_rfl)
def handles_Handles__table_c (k202 : Sm O) : Sm O := fun xs h =>
 bif Nat.beq xs.length 1 then
 (AV.asP (xs.getD 0 .u)).bind fun p0 =>
 let h1 := h.bump 1
 let h2 := h1.put h.next (.cells true 235 [(.p none), J 0, J 0, J 0, J 0])
 Option.bind p0 fun q3 =>
 (h2.ld q3.1 q3.2).bind fun w4 =>
 (AV.asP w4).bind fun p5 =>
 (k202 [(.p p5), J 1, J 2] h2).bind fun r6 =>
 (AV.asAgg 5 r6.1).bind fun c7 =>
 (AV.asP (c7.getD 0 .u)).bind fun p8 =>
 I6 c7 1 fun n9 => I6 c7 2 fun n10 => I6 c7 3 fun n11 => I6 c7 4 fun n12 => (r6.2.st (.n h.next) 0 [(.p p8), J n9, J n10, J n11, J n12]).bind fun h13 =>
 (h13.ld (.n h.next) 0).bind fun w14 =>
 (AV.asP w14).bind fun p15 =>
 (h13.ld (.n h.next) 1).bind fun w16 =>
 (AV.asI .i64 w16).bind fun n17 =>
 (h13.ld (.n h.next) 2).bind fun w18 =>
 (AV.asI .i64 w18).bind fun n19 =>
 (h13.ld (.n h.next) 3).bind fun w20 =>
 (AV.asI .i64 w20).bind fun n21 =>
 (h13.ld (.n h.next) 4).bind fun w22 =>
 (AV.asI .i64 w22).bind fun n23 =>
 some ((.agg [(.p p15), J n17, J n19, J n21, J n23]), h13)
 else none
def handles_Handles__table : Sm O := handles_Handles__table_c pool_Pool__Table
theorem handles_Handles__table_ent : Entered Tryz.prog 125 := Tryz.call125
theorem handles_Handles__table_run (k202 : Sm O) : run (O := O) Tryz.prog [(202, k202)] Tryz.f125 (.n .z .z) = handles_Handles__table_c k202 := by kernel_rfl
theorem handles_Handles__table_sound : FSound RO Tryz.prog 125 handles_Handles__table := sdf (handles_Handles__table_run _) (gcons pool_Pool__Table_ent pool_Pool__Table_sound <| gnil) Tryz.func125 (by kernel_rfl)
def chain_Table__Right_1_c : Sm O := fun xs h =>
 bif Nat.beq xs.length 2 then
 (AV.asI .i64 (xs.getD 0 .u)).bind fun n0 =>
 ((bif ((decide (n0 ≥ 0)) == true) then
 (AV.asPS (xs.getD 1 .u)).bind fun q1 =>
 (h.ld q1.1 (q1.2 + 2)).bind fun w2 =>
 (AV.asI .i64 w2).bind fun n3 =>
 some ([(.b (decide (n0 < n3)))], h)
 else some ([(.b false)], h)) : Option (List AV × AH O)).bind fun r4 =>
 (AV.asB (r4.1.getD 0 .u)).bind fun b5 =>
 some ((.b b5), r4.2)
 else none
def chain_Table__Right_1 : Sm O := chain_Table__Right_1_c
theorem chain_Table__Right_1_ent : Entered Tryz.prog 353 := Tryz.call353
theorem chain_Table__Right_1_run : run (O := O) Tryz.prog [] Tryz.f353 (.n .z (.n (.g [(2, 4, [(11, .one .b)])]) .z)) = chain_Table__Right_1_c  := by kernel_rfl
theorem chain_Table__Right_1_sound : FSound RO Tryz.prog 353 chain_Table__Right_1 := sdf chain_Table__Right_1_run (gnil) Tryz.func353 (by kernel_rfl)
def chain_Table__Right_c (k353 : Sm O) : Sm O := fun xs h =>
 bif Nat.beq xs.length 1 then
 (AV.asAgg 5 (xs.getD 0 .u)).bind fun c0 =>
 (AV.asP (c0.getD 0 .u)).bind fun p1 =>
 I6 c0 1 fun n2 => I6 c0 2 fun n3 => I6 c0 3 fun n4 => I6 c0 4 fun n5 => let h6 := h.bump 1
 let h7 := h6.put h.next (.cells true 235 [(.p p1), J n2, J n3, J n4, J n5])
 (h7.ld (.n h.next) 0).bind fun w8 =>
 (AV.asP w8).bind fun p9 =>
 ((bif ((!(Option.isNone p9)) == true) then
 (h7.ld (.n h.next) 2).bind fun w10 =>
 (AV.asI .i64 w10).bind fun n11 =>
 some ([(.b (decide (n11 ≥ 2)))], h7)
 else some ([(.b false)], h7)) : Option (List AV × AH O)).bind fun r12 =>
 (AV.asB (r12.1.getD 0 .u)).bind fun b13 =>
 ((bif (b13 == true) then
 (r12.2.ld (.n h.next) 2).bind fun w14 =>
 (AV.asI .i64 w14).bind fun n15 =>
 some ([(.b (decide (n15 ≤ 64)))], r12.2)
 else some ([(.b false)], r12.2)) : Option (List AV × AH O)).bind fun r16 =>
 (AV.asB (r16.1.getD 0 .u)).bind fun b17 =>
 ((bif (b17 == true) then
 (r16.2.ld (.n h.next) 3).bind fun w18 =>
 (AV.asI .i64 w18).bind fun n19 =>
 (k353 [J n19, (.p (some ((.n h.next), 0)))] r16.2).bind fun r20 =>
 (AV.asB r20.1).bind fun b21 =>
 some ([(.b b21)], r20.2)
 else some ([(.b false)], r16.2)) : Option (List AV × AH O)).bind fun r22 =>
 (AV.asB (r22.1.getD 0 .u)).bind fun b23 =>
 ((bif (b23 == true) then
 (r22.2.ld (.n h.next) 4).bind fun w24 =>
 (AV.asI .i64 w24).bind fun n25 =>
 (k353 [J n25, (.p (some ((.n h.next), 0)))] r22.2).bind fun r26 =>
 (AV.asB r26.1).bind fun b27 =>
 some ([(.b b27)], r26.2)
 else some ([(.b false)], r22.2)) : Option (List AV × AH O)).bind fun r28 =>
 (AV.asB (r28.1.getD 0 .u)).bind fun b29 =>
 ((bif (b29 == true) then
 (r28.2.ld (.n h.next) 3).bind fun w30 =>
 (AV.asI .i64 w30).bind fun n31 =>
 (r28.2.ld (.n h.next) 4).bind fun w32 =>
 (AV.asI .i64 w32).bind fun n33 =>
 some ([(.b ((n31 : Int) != n33))], r28.2)
 else some ([(.b false)], r28.2)) : Option (List AV × AH O)).bind fun r34 =>
 (AV.asB (r34.1.getD 0 .u)).bind fun b35 =>
 some ((.b b35), r34.2)
 else none
def chain_Table__Right : Sm O := chain_Table__Right_c chain_Table__Right_1
theorem chain_Table__Right_ent : Entered Tryz.prog 323 := Tryz.call323
theorem chain_Table__Right_run (k353 : Sm O) : run (O := O) Tryz.prog [(353, k353)] Tryz.f323 (.n .z (.n .z (.n (.g [(3, 3, [(12, .one .b)]), (8, 3, [(17, .one .b)]), (13, 4, [(23, .one .b)]), (19, 4, [(29, .one .b)]), (25, 5, [(36, .one .b)])]) .z))) = chain_Table__Right_c k353 := by kernel_rfl
theorem chain_Table__Right_sound : FSound RO Tryz.prog 323 chain_Table__Right := sdf (chain_Table__Right_run _) (gcons chain_Table__Right_1_ent chain_Table__Right_1_sound <| gnil) Tryz.func323 (by kernel_rfl)
def chain_Table__Entries_c (k323 k298 : Sm O) : Sm O := fun xs h =>
 bif Nat.beq xs.length 1 then
 (AV.asAgg 5 (xs.getD 0 .u)).bind fun c0 =>
 (AV.asP (c0.getD 0 .u)).bind fun p1 =>
 I6 c0 1 fun n2 => I6 c0 2 fun n3 => I6 c0 3 fun n4 => I6 c0 4 fun n5 => let h6 := h.bump 1
 let h7 := h6.put h.next (.cells true 235 [(.p p1), J n2, J n3, J n4, J n5])
 (h7.ld (.n h.next) 0).bind fun w8 =>
 (AV.asP w8).bind fun p9 =>
 (h7.ld (.n h.next) 1).bind fun w10 =>
 (AV.asI .i64 w10).bind fun n11 =>
 (h7.ld (.n h.next) 2).bind fun w12 =>
 (AV.asI .i64 w12).bind fun n13 =>
 (h7.ld (.n h.next) 3).bind fun w14 =>
 (AV.asI .i64 w14).bind fun n15 =>
 (h7.ld (.n h.next) 4).bind fun w16 =>
 (AV.asI .i64 w16).bind fun n17 =>
 (k323 [(.agg [(.p p9), J n11, J n13, J n15, J n17])] h7).bind fun r18 =>
 (AV.asB r18.1).bind fun b19 =>
 (bif (!b19) then
 none
 else (r18.2.ld (.n h.next) 0).bind fun w20 =>
 (AV.asP w20).bind fun p21 =>
 (r18.2.ld (.n h.next) 1).bind fun w22 =>
 (AV.asI .i64 w22).bind fun n23 =>
 (k298 [(.p p21), J n23] r18.2).bind fun r24 =>
 (AV.asTup 2 r24.1).bind fun c25 =>
 I6 c25 0 fun n26 => I6 c25 1 fun n27 => (r24.2.ld (.n h.next) 2).bind fun w28 =>
 (AV.asI .i64 w28).bind fun n29 =>
 (bif (n29 == 0) then
 none
 else some ((.i .i64 (IntKind.i64.wrap (Int.tdiv n26 n29))), r24.2)))
 else none
def chain_Table__Entries : Sm O := chain_Table__Entries_c chain_Table__Right mem_Mem__Size
theorem chain_Table__Entries_ent : Entered Tryz.prog 324 := Tryz.call324
theorem chain_Table__Entries_run (k323 k298 : Sm O) : run (O := O) Tryz.prog [(323, k323), (298, k298)] Tryz.f324 (.n .z (.n (.n .z (.n .x .z)) (.n .z .z))) = chain_Table__Entries_c k323 k298 := by kernel_rfl
theorem chain_Table__Entries_sound : FSound RO Tryz.prog 324 chain_Table__Entries := sdf (chain_Table__Entries_run _ _) (gcons chain_Table__Right_ent chain_Table__Right_sound <| gcons mem_Mem__Size_ent mem_Mem__Size_sound <| gnil) Tryz.func324 (by kernel_rfl)
def chain_Table__check_c (k323 k324 : Sm O) : Sm O := fun xs h =>
 bif Nat.beq xs.length 2 then
 (AV.asAgg 5 (xs.getD 0 .u)).bind fun c0 =>
 (AV.asP (c0.getD 0 .u)).bind fun p1 =>
 I6 c0 1 fun n2 => I6 c0 2 fun n3 => I6 c0 3 fun n4 => I6 c0 4 fun n5 => (AV.asI .i64 (xs.getD 1 .u)).bind fun n6 =>
 let h7 := h.bump 1
 let h8 := h7.put h.next (.cells true 235 [(.p p1), J n2, J n3, J n4, J n5])
 (h8.ld (.n h.next) 0).bind fun w9 =>
 (AV.asP w9).bind fun p10 =>
 (h8.ld (.n h.next) 1).bind fun w11 =>
 (AV.asI .i64 w11).bind fun n12 =>
 (h8.ld (.n h.next) 2).bind fun w13 =>
 (AV.asI .i64 w13).bind fun n14 =>
 (h8.ld (.n h.next) 3).bind fun w15 =>
 (AV.asI .i64 w15).bind fun n16 =>
 (h8.ld (.n h.next) 4).bind fun w17 =>
 (AV.asI .i64 w17).bind fun n18 =>
 (k323 [(.agg [(.p p10), J n12, J n14, J n16, J n18])] h8).bind fun r19 =>
 (AV.asB r19.1).bind fun b20 =>
 (bif (!b20) then
 none
 else ((bif ((decide (n6 < 1)) == false) then
 (r19.2.ld (.n h.next) 0).bind fun w21 =>
 (AV.asP w21).bind fun p22 =>
 (r19.2.ld (.n h.next) 1).bind fun w23 =>
 (AV.asI .i64 w23).bind fun n24 =>
 (r19.2.ld (.n h.next) 2).bind fun w25 =>
 (AV.asI .i64 w25).bind fun n26 =>
 (r19.2.ld (.n h.next) 3).bind fun w27 =>
 (AV.asI .i64 w27).bind fun n28 =>
 (r19.2.ld (.n h.next) 4).bind fun w29 =>
 (AV.asI .i64 w29).bind fun n30 =>
 (k324 [(.agg [(.p p22), J n24, J n26, J n28, J n30])] r19.2).bind fun r31 =>
 (AV.asI .i64 r31.1).bind fun n32 =>
 some ([(.b (decide (n6 > n32)))], r31.2)
 else some ([(.b true)], r19.2)) : Option (List AV × AH O)).bind fun r33 =>
 (AV.asB (r33.1.getD 0 .u)).bind fun b34 =>
 (bif b34 then
 none
 else some (J 0, r33.2)))
 else none
def chain_Table__check : Sm O := chain_Table__check_c chain_Table__Right chain_Table__Entries
theorem chain_Table__check_ent : Entered Tryz.prog 263 := Tryz.call263
theorem chain_Table__check_run (k323 k324 : Sm O) : run (O := O) Tryz.prog [(323, k323), (324, k324)] Tryz.f263 (.n .z (.n (.n (.n .z (.n .x (.n (.g [(2, 4, [(17, .one .b)])]) (.n .x .z)))) .z) .z)) = chain_Table__check_c k323 k324 := by kernel_rfl
theorem chain_Table__check_sound : FSound RO Tryz.prog 263 chain_Table__check := sdf (chain_Table__check_run _ _) (gcons chain_Table__Right_ent chain_Table__Right_sound <| gcons chain_Table__Entries_ent chain_Table__Entries_sound <| gnil) Tryz.func263 (by kernel_rfl)
def chain_Table__at_c : Sm O := fun xs h =>
 bif Nat.beq xs.length 3 then
 (AV.asAgg 5 (xs.getD 0 .u)).bind fun c0 =>
 (AV.asP (c0.getD 0 .u)).bind fun p1 =>
 I6 c0 1 fun n2 => I6 c0 2 fun n3 => I6 c0 3 fun n4 => I6 c0 4 fun n5 => (AV.asI .i64 (xs.getD 1 .u)).bind fun n6 =>
 (AV.asI .i64 (xs.getD 2 .u)).bind fun n7 =>
 let h8 := h.bump 1
 let h9 := h8.put h.next (.cells true 235 [(.p p1), J n2, J n3, J n4, J n5])
 (h9.ld (.n h.next) 2).bind fun w10 =>
 (AV.asI .i64 w10).bind fun n11 =>
 let v12 : Int := (IntKind.i64.wrap ((IntKind.i64.wrap (n6 - 1)) * n11))
 some ((.i .i64 (IntKind.i64.wrap (v12 + n7))), h9)
 else none
def chain_Table__at : Sm O := chain_Table__at_c
theorem chain_Table__at_ent : Entered Tryz.prog 325 := Tryz.call325
theorem chain_Table__at_run : run (O := O) Tryz.prog [] Tryz.f325 (.n .z .z) = chain_Table__at_c  := by kernel_rfl
theorem chain_Table__at_sound : FSound RO Tryz.prog 325 chain_Table__at := sdf chain_Table__at_run (gnil) Tryz.func325 (by kernel_rfl)
def chain_Table__set_c (k325 k123 : Sm O) : Sm O := fun xs h =>
 bif Nat.beq xs.length 4 then
 (AV.asAgg 5 (xs.getD 0 .u)).bind fun c0 =>
 (AV.asP (c0.getD 0 .u)).bind fun p1 =>
 I6 c0 1 fun n2 => I6 c0 2 fun n3 => I6 c0 3 fun n4 => I6 c0 4 fun n5 => (AV.asI .i64 (xs.getD 1 .u)).bind fun n6 =>
 (AV.asI .i64 (xs.getD 2 .u)).bind fun n7 =>
 (AV.asI .i64 (xs.getD 3 .u)).bind fun n8 =>
 let h9 := h.bump 1
 let h10 := h9.put h.next (.cells true 235 [(.p p1), J n2, J n3, J n4, J n5])
 (h10.ld (.n h.next) 0).bind fun w11 =>
 (AV.asP w11).bind fun p12 =>
 (h10.ld (.n h.next) 1).bind fun w13 =>
 (AV.asI .i64 w13).bind fun n14 =>
 (h10.ld (.n h.next) 0).bind fun w15 =>
 (AV.asP w15).bind fun p16 =>
 (h10.ld (.n h.next) 1).bind fun w17 =>
 (AV.asI .i64 w17).bind fun n18 =>
 (h10.ld (.n h.next) 2).bind fun w19 =>
 (AV.asI .i64 w19).bind fun n20 =>
 (h10.ld (.n h.next) 3).bind fun w21 =>
 (AV.asI .i64 w21).bind fun n22 =>
 (h10.ld (.n h.next) 4).bind fun w23 =>
 (AV.asI .i64 w23).bind fun n24 =>
 (k325 [(.agg [(.p p16), J n18, J n20, J n22, J n24]), J n6, J n7] h10).bind fun r25 =>
 (AV.asI .i64 r25.1).bind fun n26 =>
 (chkE (r25.2.ld (.n h.next) 0) (some (.p p12))).bind fun _ =>
 (chkE (r25.2.ld (.n h.next) 1) (some (.i .i64 n14))).bind fun _ =>
 (k123 [(.p p12), J n14, J n26, (.i .u64 (IntKind.u64.wrap n8))] r25.2).bind fun r27 =>
 (AV.asI .i64 r27.1).bind fun n28 =>
 some ((.tup []), r27.2)
 else none
def chain_Table__set : Sm O := chain_Table__set_c chain_Table__at mem_Mem__Write
theorem chain_Table__set_ent : Entered Tryz.prog 332 := Tryz.call332
theorem chain_Table__set_run (k325 k123 : Sm O) : run (O := O) Tryz.prog [(325, k325), (123, k123)] Tryz.f332 (.n .z (.d [] [0, 1, 2, 3, 4, 5, 6, 8, 9, 7, 10] [0, 1, 0, 4, 0, 0, 0, 112, 0, 256, 1023])) = chain_Table__set_c k325 k123 := by kernel_rfl
theorem chain_Table__set_sound : FSound RO Tryz.prog 332 chain_Table__set := sdf (chain_Table__set_run _ _) (gcons chain_Table__at_ent chain_Table__at_sound <| gcons mem_Mem__Write_ent mem_Mem__Write_sound <| gnil) Tryz.func332 (by kernel_rfl)
def chain_Table__Push_c (k263 k332 : Sm O) : Sm O := fun xs h =>
 bif Nat.beq xs.length 3 then
 (AV.asAgg 5 (xs.getD 0 .u)).bind fun c0 =>
 (AV.asP (c0.getD 0 .u)).bind fun p1 =>
 I6 c0 1 fun n2 => I6 c0 2 fun n3 => I6 c0 3 fun n4 => I6 c0 4 fun n5 => (AV.asAgg 3 (xs.getD 1 .u)).bind fun c6 =>
 I6 c6 0 fun n7 => I6 c6 1 fun n8 => I6 c6 2 fun n9 => (AV.asI .i64 (xs.getD 2 .u)).bind fun n10 =>
 let h11 := h.bump 3
 let h12 := h11.put h.next (.cells true 235 [(.p p1), J n2, J n3, J n4, J n5])
 let h13 := h12.put (h.next + 1) (.cells true 240 [J n7, J n8, J n9])
 let h14 := h13.put ((h.next + 1) + 1) (.cells true 240 [J 0, J 0, J 0])
 (h14.ld (.n h.next) 0).bind fun w15 =>
 (AV.asP w15).bind fun p16 =>
 (h14.ld (.n h.next) 1).bind fun w17 =>
 (AV.asI .i64 w17).bind fun n18 =>
 (h14.ld (.n h.next) 2).bind fun w19 =>
 (AV.asI .i64 w19).bind fun n20 =>
 (h14.ld (.n h.next) 3).bind fun w21 =>
 (AV.asI .i64 w21).bind fun n22 =>
 (h14.ld (.n h.next) 4).bind fun w23 =>
 (AV.asI .i64 w23).bind fun n24 =>
 (k263 [(.agg [(.p p16), J n18, J n20, J n22, J n24]), J n10] h14).bind fun r25 =>
 (AV.asI .i64 r25.1).bind fun n26 =>
 (bif ((n26 : Int) != 0) then
 none
 else (r25.2.ld (.n h.next) 0).bind fun w27 =>
 (AV.asP w27).bind fun p28 =>
 (r25.2.ld (.n h.next) 1).bind fun w29 =>
 (AV.asI .i64 w29).bind fun n30 =>
 (r25.2.ld (.n h.next) 2).bind fun w31 =>
 (AV.asI .i64 w31).bind fun n32 =>
 (r25.2.ld (.n h.next) 3).bind fun w33 =>
 (AV.asI .i64 w33).bind fun n34 =>
 (r25.2.ld (.n h.next) 4).bind fun w35 =>
 (AV.asI .i64 w35).bind fun n36 =>
 (r25.2.ld (.n h.next) 4).bind fun w37 =>
 (AV.asI .i64 w37).bind fun n38 =>
 (r25.2.ld (.n (h.next + 1)) 1).bind fun w39 =>
 (AV.asI .i64 w39).bind fun n40 =>
 (k332 [(.agg [(.p p28), J n30, J n32, J n34, J n36]), J n10, J n38, J n40] r25.2).bind fun r41 =>
 (AV.asTup 0 r41.1).bind fun c42 =>
 (r41.2.ld (.n h.next) 0).bind fun w43 =>
 (AV.asP w43).bind fun p44 =>
 (r41.2.ld (.n h.next) 1).bind fun w45 =>
 (AV.asI .i64 w45).bind fun n46 =>
 (r41.2.ld (.n h.next) 2).bind fun w47 =>
 (AV.asI .i64 w47).bind fun n48 =>
 (r41.2.ld (.n h.next) 3).bind fun w49 =>
 (AV.asI .i64 w49).bind fun n50 =>
 (r41.2.ld (.n h.next) 4).bind fun w51 =>
 (AV.asI .i64 w51).bind fun n52 =>
 (r41.2.ld (.n h.next) 3).bind fun w53 =>
 (AV.asI .i64 w53).bind fun n54 =>
 (k332 [(.agg [(.p p44), J n46, J n48, J n50, J n52]), J n10, J n54, J 0] r41.2).bind fun r55 =>
 (AV.asTup 0 r55.1).bind fun c56 =>
 (r55.2.ld (.n (h.next + 1)) 2).bind fun w57 =>
 (AV.asI .i64 w57).bind fun n58 =>
 (bif ((n58 : Int) == 0) then
 (r55.2.st (.n ((h.next + 1) + 1)) 0 [J n10, J n10, J 1]).bind fun h59 =>
 (h59.ld (.n ((h.next + 1) + 1)) 0).bind fun w60 =>
 (AV.asI .i64 w60).bind fun n61 =>
 (h59.ld (.n ((h.next + 1) + 1)) 1).bind fun w62 =>
 (AV.asI .i64 w62).bind fun n63 =>
 (h59.ld (.n ((h.next + 1) + 1)) 2).bind fun w64 =>
 (AV.asI .i64 w64).bind fun n65 =>
 some ((.tup [(.agg [J n61, J n63, J n65]), J 0]), h59)
 else none))
 else none
def chain_Table__Push : Sm O := chain_Table__Push_c chain_Table__check chain_Table__set
theorem chain_Table__Push_ent : Entered Tryz.prog 281 := Tryz.call281
theorem chain_Table__Push_run (k263 k332 : Sm O) : run (O := O) Tryz.prog [(263, k263), (332, k332)] Tryz.f281 (.n .z (.n (.n .z (.n .z (.n .x .z))) (.n .z (.n .z (.n (.n .z (.n .z .x)) (.n .z .z)))))) = chain_Table__Push_c k263 k332 := by kernel_rfl
theorem chain_Table__Push_sound : FSound RO Tryz.prog 281 chain_Table__Push := sdf (chain_Table__Push_run _ _) (gcons chain_Table__check_ent chain_Table__check_sound <| gcons chain_Table__set_ent chain_Table__set_sound <| gnil) Tryz.func281 (by kernel_rfl)
def handles_token_c : Sm O := fun xs h =>
 bif Nat.beq xs.length 2 then
 (AV.asI .i64 (xs.getD 0 .u)).bind fun n0 =>
 (AV.asI .i64 (xs.getD 1 .u)).bind fun n1 =>
 let v2 : Int := (ibits .or .i64 (IntKind.i64.wrap (n1 * 2 ^ 20)) (IntKind.i64.wrap (n0 - 1)))
 some (J v2, h)
 else none
def handles_token : Sm O := handles_token_c
theorem handles_token_ent : Entered Tryz.prog 282 := Tryz.call282
theorem handles_token_run : run (O := O) Tryz.prog [] Tryz.f282 (.n .z .z) = handles_token_c  := by kernel_rfl
theorem handles_token_sound : FSound RO Tryz.prog 282 handles_token := sdf handles_token_run (gnil) Tryz.func282 (by kernel_rfl)
def handles_Handles__Add_c (k280 k128 k125 k281 k283 k282 : Sm O) : Sm O := fun xs h =>
 bif Nat.beq xs.length 2 then
 (AV.asP (xs.getD 0 .u)).bind fun p0 =>
 (AV.asI .u64 (xs.getD 1 .u)).bind fun n1 =>
 Option.bind p0 fun q2 =>
 (h.ld q2.1 q2.2).bind fun w3 =>
 (AV.asP w3).bind fun p4 =>
 (k280 [(.p p4)] h).bind fun r5 =>
 (AV.asTup 2 r5.1).bind fun c6 =>
 I6 c6 0 fun n7 => I6 c6 1 fun n8 => (bif ((n8 : Int) != 0) then
 none
 else Option.bind p0 fun q9 =>
 (r5.2.ld q9.1 q9.2).bind fun w10 =>
 (AV.asP w10).bind fun p11 =>
 (k128 [(.p p11), J n7, J 0, (.i .u64 n1)] r5.2).bind fun r12 =>
 (AV.asI .i64 r12.1).bind fun n13 =>
 Option.bind p0 fun q14 =>
 (r12.2.ld q14.1 (q14.2 + 1)).bind fun w15 =>
 (AV.asI .i64 w15).bind fun n16 =>
 (r12.2.ld q14.1 ((q14.2 + 1) + 1)).bind fun w17 =>
 (AV.asI .i64 w17).bind fun n18 =>
 (r12.2.ld q14.1 (((q14.2 + 1) + 1) + 1)).bind fun w19 =>
 (AV.asI .i64 w19).bind fun n20 =>
 (k125 [(.p p0)] r12.2).bind fun r21 =>
 (AV.asAgg 5 r21.1).bind fun c22 =>
 (AV.asP (c22.getD 0 .u)).bind fun p23 =>
 I6 c22 1 fun n24 => I6 c22 2 fun n25 => I6 c22 3 fun n26 => I6 c22 4 fun n27 => (chkE (r21.2.ld q14.1 (q14.2 + 1)) (some (.i .i64 n16))).bind fun _ =>
 (chkE (r21.2.ld q14.1 ((q14.2 + 1) + 1)) (some (.i .i64 n18))).bind fun _ =>
 (chkE (r21.2.ld q14.1 (((q14.2 + 1) + 1) + 1)) (some (.i .i64 n20))).bind fun _ =>
 (k281 [(.agg [(.p p23), J n24, J n25, J n26, J n27]), (.agg [J n16, J n18, J n20]), J n7] r21.2).bind fun r28 =>
 (AV.asTup 2 r28.1).bind fun c29 =>
 (AV.asAgg 3 (c29.getD 0 .u)).bind fun c30 =>
 I6 c30 0 fun n31 => I6 c30 1 fun n32 => I6 c30 2 fun n33 => I6 c29 1 fun n34 => Option.bind p0 fun q35 =>
 (r28.2.st q35.1 (q35.2 + 1) [J n31, J n32, J n33]).bind fun h36 =>
 Option.bind p0 fun q37 =>
 (h36.ld q37.1 q37.2).bind fun w38 =>
 (AV.asP w38).bind fun p39 =>
 (k283 [(.p p39), J n7] h36).bind fun r40 =>
 (AV.asI .i64 r40.1).bind fun n41 =>
 (k282 [J n7, J n41] r40.2).bind fun r42 =>
 (AV.asI .i64 r42.1).bind fun n43 =>
 some ((.tup [J n43, J 0]), r42.2))
 else none
def handles_Handles__Add : Sm O := handles_Handles__Add_c pool_Pool__Take pool_Pool__Set handles_Handles__table chain_Table__Push pool_Pool__Gen handles_token
theorem handles_Handles__Add_ent : Entered Tryz.prog 221 := Tryz.call221
theorem handles_Handles__Add_run (k280 k128 k125 k281 k283 k282 : Sm O) : run (O := O) Tryz.prog [(280, k280), (128, k128), (125, k125), (281, k281), (283, k283), (282, k282)] Tryz.f221 (.n .z (.n .z (.n (.n .z (.n .x .z)) (.n .z (.n (.d [] [0, 1, 3, 4, 5, 6, 7, 2, 8, 9, 10, 11, 12, 13, 14] [0, 0, 2, 0, 8, 24, 56, 0, 254, 510, 1022, 1022, 2047, 6143, 14335]) .z))))) = handles_Handles__Add_c k280 k128 k125 k281 k283 k282 := by kernel_rfl
theorem handles_Handles__Add_sound : FSound RO Tryz.prog 221 handles_Handles__Add := sdf (handles_Handles__Add_run _ _ _ _ _ _) (gcons pool_Pool__Take_ent pool_Pool__Take_sound <| gcons pool_Pool__Set_ent pool_Pool__Set_sound <| gcons handles_Handles__table_ent handles_Handles__table_sound <| gcons chain_Table__Push_ent chain_Table__Push_sound <| gcons pool_Pool__Gen_ent pool_Pool__Gen_sound <| gcons handles_token_ent handles_token_sound <| gnil) Tryz.func221 (by kernel_rfl)
def roots_Roots__Add_c (k221 : Sm O) : Sm O := fun xs h =>
 bif Nat.beq xs.length 1 then
 (AV.asP (xs.getD 0 .u)).bind fun p0 =>
 Option.bind p0 fun q1 =>
 (h.ld q1.1 (q1.2 + 1)).bind fun w2 =>
 (AV.asP w2).bind fun p3 =>
 (k221 [(.p p3), (.i .u64 0)] h).bind fun r4 =>
 (AV.asTup 2 r4.1).bind fun c5 =>
 I6 c5 0 fun n6 => I6 c5 1 fun n7 => some ((.tup [J n6, J n7]), r4.2)
 else none
def roots_Roots__Add : Sm O := roots_Roots__Add_c handles_Handles__Add
theorem roots_Roots__Add_ent : Entered Tryz.prog 147 := Tryz.call147
theorem roots_Roots__Add_run (k221 : Sm O) : run (O := O) Tryz.prog [(221, k221)] Tryz.f147 (.n .z .z) = roots_Roots__Add_c k221 := by kernel_rfl
theorem roots_Roots__Add_sound : FSound RO Tryz.prog 147 roots_Roots__Add := sdf (roots_Roots__Add_run _) (gcons handles_Handles__Add_ent handles_Handles__Add_sound <| gnil) Tryz.func147 (by kernel_rfl)
def heap_Heap__Global_1_c (k146 k147 : Sm O) : Sm O := fun xs h =>
 bif Nat.beq xs.length 2 then
 (AV.asPS (xs.getD 0 .u)).bind fun q0 =>
 (h.ld q0.1 q0.2).bind fun w1 =>
 (AV.asP w1).bind fun p2 =>
 (k146 [(.p p2), J 4] h).bind fun r3 =>
 (AV.asI .i64 r3.1).bind fun n4 =>
 (bif ((n4 : Int) != 0) then
 none
 else (AV.asPS (xs.getD 0 .u)).bind fun q5 =>
 (r3.2.ld q5.1 q5.2).bind fun w6 =>
 (AV.asP w6).bind fun p7 =>
 Option.bind p7 fun q8 =>
 (r3.2.ld q8.1 (q8.2 + 6)).bind fun w9 =>
 (AV.asP w9).bind fun p10 =>
 (k147 [(.p p10)] r3.2).bind fun r11 =>
 (AV.asTup 2 r11.1).bind fun c12 =>
 I6 c12 0 fun n13 => I6 c12 1 fun n14 => (AV.asPS (xs.getD 1 .u)).bind fun q15 =>
 (r11.2.st q15.1 q15.2 [J n13]).bind fun h16 =>
 some (J n14, h16))
 else none
def heap_Heap__Global_1 : Sm O := heap_Heap__Global_1_c heap_Heap__request roots_Roots__Add
theorem heap_Heap__Global_1_ent : Entered Tryz.prog 145 := Tryz.call145
theorem heap_Heap__Global_1_run (k146 k147 : Sm O) : run (O := O) Tryz.prog [(146, k146), (147, k147)] Tryz.f145 (.n .z (.n (.n .z (.n .z (.n .x .z))) (.n .z (.n .z .z)))) = heap_Heap__Global_1_c k146 k147 := by kernel_rfl
theorem heap_Heap__Global_1_sound : FSound RO Tryz.prog 145 heap_Heap__Global_1 := sdf (heap_Heap__Global_1_run _ _) (gcons heap_Heap__request_ent heap_Heap__request_sound <| gcons roots_Roots__Add_ent roots_Roots__Add_sound <| gnil) Tryz.func145 (by kernel_rfl)
def heap_Heap__object_c (k156 : Sm O) : Sm O := fun xs h =>
 bif Nat.beq xs.length 2 then
 (AV.asP (xs.getD 0 .u)).bind fun p0 =>
 (AV.asI .i64 (xs.getD 1 .u)).bind fun n1 =>
 Option.bind p0 fun q2 =>
 (h.ld q2.1 (q2.2 + 6)).bind fun w3 =>
 (AV.asP w3).bind fun p4 =>
 (k156 [(.p p4), J n1] h).bind fun r5 =>
 (AV.asTup 2 r5.1).bind fun c6 =>
 (AV.asI .u64 (c6.getD 0 .u)).bind fun n7 =>
 I6 c6 1 fun n8 => ((bif (((n8 : Int) == 0) == true) then
 some ([(.b ((n7 : Int) == 0))], r5.2)
 else some ([(.b false)], r5.2)) : Option (List AV × AH O)).bind fun r9 =>
 (AV.asB (r9.1.getD 0 .u)).bind fun b10 =>
 (bif b10 then
 none
 else some ((.tup [(.i .u64 n7), J n8]), r9.2))
 else none
def heap_Heap__object : Sm O := heap_Heap__object_c roots_Roots__Get
theorem heap_Heap__object_ent : Entered Tryz.prog 155 := Tryz.call155
theorem heap_Heap__object_run (k156 : Sm O) : run (O := O) Tryz.prog [(156, k156)] Tryz.f155 (.n .z (.n .z (.n (.n (.g [(2, 2, [(22, .one .b)])]) (.n .x .z)) .z))) = heap_Heap__object_c k156 := by kernel_rfl
theorem heap_Heap__object_sound : FSound RO Tryz.prog 155 heap_Heap__object := sdf (heap_Heap__object_run _) (gcons roots_Roots__Get_ent roots_Roots__Get_sound <| gnil) Tryz.func155 (by kernel_rfl)
def ref_Ref__Kind_c : Sm O := fun xs h =>
 bif Nat.beq xs.length 1 then
 (AV.asI .u64 (xs.getD 0 .u)).bind fun n0 =>
 (bif ((n0 : Int) == 0) then
 none
 else ((bif ((((ibits .and .u64 n0 1) : Int) == 1) == true) then
 some ([(.b (decide ((Int.fdiv n0 (2 ^ 1)) < 4194304)))], h)
 else some ([(.b false)], h)) : Option (List AV × AH O)).bind fun r1 =>
 (AV.asB (r1.1.getD 0 .u)).bind fun b2 =>
 (bif b2 then
 some (J 1, r1.2)
 else none))
 else none
def ref_Ref__Kind : Sm O := ref_Ref__Kind_c
theorem ref_Ref__Kind_ent : Entered Tryz.prog 129 := Tryz.call129
theorem ref_Ref__Kind_run : run (O := O) Tryz.prog [] Tryz.f129 (.n .z (.n .z (.n (.n (.n .z (.n .x (.n (.g [(3, 2, [(16, .one .b)])]) (.n .z .x)))) .z) .z))) = ref_Ref__Kind_c  := by kernel_rfl
theorem ref_Ref__Kind_sound : FSound RO Tryz.prog 129 ref_Ref__Kind := sdf ref_Ref__Kind_run (gnil) Tryz.func129 (by kernel_rfl)
def ref_Ref__At_c (k129 : Sm O) : Sm O := fun xs h =>
 bif Nat.beq xs.length 1 then
 (AV.asI .u64 (xs.getD 0 .u)).bind fun n0 =>
 (k129 [(.i .u64 n0)] h).bind fun r1 =>
 (AV.asI .i64 r1.1).bind fun n2 =>
 (bif ((n2 : Int) == 1) then
 (bif ((n2 : Int) == 1) then
 some ((.i .i64 (IntKind.i64.wrap (Int.fdiv n0 (2 ^ 1)))), r1.2)
 else none)
 else none)
 else none
def ref_Ref__At : Sm O := ref_Ref__At_c ref_Ref__Kind
theorem ref_Ref__At_ent : Entered Tryz.prog 131 := Tryz.call131
theorem ref_Ref__At_run (k129 : Sm O) : run (O := O) Tryz.prog [(129, k129)] Tryz.f131 (.n .z (.n (.n .z (.n (.n (.n .z (.n .z .x)) (.n .z .x)) .z)) .z)) = ref_Ref__At_c k129 := by kernel_rfl
theorem ref_Ref__At_sound : FSound RO Tryz.prog 131 ref_Ref__At := sdf (ref_Ref__At_run _) (gcons ref_Ref__Kind_ent ref_Ref__Kind_sound <| gnil) Tryz.func131 (by kernel_rfl)
def semi_Semi__Read_c (k207 k122 : Sm O) : Sm O := fun xs h =>
 bif Nat.beq xs.length 2 then
 (AV.asP (xs.getD 0 .u)).bind fun p0 =>
 (AV.asI .i64 (xs.getD 1 .u)).bind fun n1 =>
 Option.bind p0 fun q2 =>
 (h.ld q2.1 (q2.2 + 1)).bind fun w3 =>
 (AV.asI .i64 w3).bind fun n4 =>
 (h.ld q2.1 ((q2.2 + 1) + 1)).bind fun w5 =>
 (AV.asI .i64 w5).bind fun n6 =>
 (k207 [(.agg [J n4, J n6]), J n1, J 1] h).bind fun r7 =>
 (AV.asB r7.1).bind fun b8 =>
 (bif (!b8) then
 none
 else Option.bind p0 fun q9 =>
 (r7.2.ld q9.1 q9.2).bind fun w10 =>
 (AV.asP w10).bind fun p11 =>
 Option.bind p0 fun q12 =>
 (r7.2.ld q12.1 (q12.2 + 1)).bind fun w13 =>
 (AV.asI .i64 w13).bind fun n14 =>
 (k122 [(.p p11), J n14, J n1] r7.2).bind fun r15 =>
 (AV.asTup 2 r15.1).bind fun c16 =>
 (AV.asI .u64 (c16.getD 0 .u)).bind fun n17 =>
 I6 c16 1 fun n18 => some ((.tup [(.i .u64 n17), J n18]), r15.2))
 else none
def semi_Semi__Read : Sm O := semi_Semi__Read_c semi_side__within mem_Mem__Read
theorem semi_Semi__Read_ent : Entered Tryz.prog 130 := Tryz.call130
theorem semi_Semi__Read_run (k207 k122 : Sm O) : run (O := O) Tryz.prog [(207, k207), (122, k122)] Tryz.f130 (.n .z (.n (.n .z (.n .x .z)) (.n (.d [] [0, 1, 2, 3, 4, 5, 6, 7, 8, 9, 10, 11, 12, 13, 14] [0, 1, 3, 7, 0, 16, 48, 112, 240, 0, 1023, 2047, 2047, 8191, 16383]) .z))) = semi_Semi__Read_c k207 k122 := by kernel_rfl
theorem semi_Semi__Read_sound : FSound RO Tryz.prog 130 semi_Semi__Read := sdf (semi_Semi__Read_run _ _) (gcons semi_side__within_ent semi_side__within_sound <| gcons mem_Mem__Read_ent mem_Mem__Read_sound <| gnil) Tryz.func130 (by kernel_rfl)
def store_Store__Word_c (k129 k131 k130 : Sm O) : Sm O := fun xs h =>
 bif Nat.beq xs.length 3 then
 (AV.asP (xs.getD 0 .u)).bind fun p0 =>
 (AV.asI .u64 (xs.getD 1 .u)).bind fun n1 =>
 (AV.asI .i64 (xs.getD 2 .u)).bind fun n2 =>
 (k129 [(.i .u64 n1)] h).bind fun r3 =>
 (AV.asI .i64 r3.1).bind fun n4 =>
 (bif ((n4 : Int) == 0) then
 none
 else (bif ((n4 : Int) == 1) then
 Option.bind p0 fun q5 =>
 (r3.2.ld q5.1 (q5.2 + 1)).bind fun w6 =>
 (AV.asP w6).bind fun p7 =>
 (k131 [(.i .u64 n1)] r3.2).bind fun r8 =>
 (AV.asI .i64 r8.1).bind fun n9 =>
 (chkE (r8.2.ld q5.1 (q5.2 + 1)) (some (.p p7))).bind fun _ =>
 (k130 [(.p p7), (.i .i64 (IntKind.i64.wrap (n9 + n2)))] r8.2).bind fun r10 =>
 (AV.asTup 2 r10.1).bind fun c11 =>
 (AV.asI .u64 (c11.getD 0 .u)).bind fun n12 =>
 I6 c11 1 fun n13 => some ((.tup [(.i .u64 n12), J n13]), r10.2)
 else none))
 else none
def store_Store__Word : Sm O := store_Store__Word_c ref_Ref__Kind ref_Ref__At semi_Semi__Read
theorem store_Store__Word_ent : Entered Tryz.prog 67 := Tryz.call67
theorem store_Store__Word_run (k129 k131 k130 : Sm O) : run (O := O) Tryz.prog [(129, k129), (131, k131), (130, k130)] Tryz.f67 (.n .z (.n (.n .z (.n (.n .z (.n .x (.n .z (.n (.n (.d [] [0, 1, 2, 3, 4, 5, 7, 6, 8, 9, 10, 11, 12, 13] [0, 1, 3, 7, 15, 0, 32, 0, 224, 511, 1023, 1023, 4095, 8191]) .z) .x)))) .z)) .z)) = store_Store__Word_c k129 k131 k130 := by kernel_rfl
theorem store_Store__Word_sound : FSound RO Tryz.prog 67 store_Store__Word := sdf (store_Store__Word_run _ _ _) (gcons ref_Ref__Kind_ent ref_Ref__Kind_sound <| gcons ref_Ref__At_ent ref_Ref__At_sound <| gcons semi_Semi__Read_ent semi_Semi__Read_sound <| gnil) Tryz.func67 (by kernel_rfl)
def field_Get_c (k208 k209 : Sm O) : Sm O := fun xs h =>
 bif Nat.beq xs.length 2 then
 (AV.asI .u64 (xs.getD 0 .u)).bind fun n0 =>
 (AV.asAgg 2 (xs.getD 1 .u)).bind fun c1 =>
 I6 c1 0 fun n2 => I6 c1 1 fun n3 => let h4 := h.bump 1
 let h5 := h4.put h.next (.cells true 249 [J n2, J n3])
 (h5.ld (.n h.next) 0).bind fun w6 =>
 (AV.asI .i64 w6).bind fun n7 =>
 (h5.ld (.n h.next) 1).bind fun w8 =>
 (AV.asI .i64 w8).bind fun n9 =>
 (k208 [(.agg [J n7, J n9])] h5).bind fun r10 =>
 (AV.asB r10.1).bind fun b11 =>
 (bif (!b11) then
 none
 else (r10.2.ld (.n h.next) 0).bind fun w12 =>
 (AV.asI .i64 w12).bind fun n13 =>
 (r10.2.ld (.n h.next) 1).bind fun w14 =>
 (AV.asI .i64 w14).bind fun n15 =>
 (r10.2.ld (.n h.next) 0).bind fun w16 =>
 (AV.asI .i64 w16).bind fun n17 =>
 (k209 [(.agg [J n13, J n15])] r10.2).bind fun r18 =>
 (AV.asI .u64 r18.1).bind fun n19 =>
 (chkE (r18.2.ld (.n h.next) 0) (some (.i .i64 n17))).bind fun _ =>
 (bif (decide (n17 < 0)) then
 none
 else let v20 : Int := (Int.fdiv (ibits .and .u64 n0 n19) (2 ^ min n17.toNat 64))
 some ((.i .u64 v20), r18.2)))
 else none
def field_Get : Sm O := field_Get_c field_Right field_Mask
theorem field_Get_ent : Entered Tryz.prog 134 := Tryz.call134
theorem field_Get_run (k208 k209 : Sm O) : run (O := O) Tryz.prog [(208, k208), (209, k209)] Tryz.f134 (.n .z (.n (.n .z (.n .x .z)) (.n (.d [] [0, 1, 4, 5, 2, 3, 6, 7] [0, 0, 2, 7, 0, 16, 63, 127]) .z))) = field_Get_c k208 k209 := by kernel_rfl
theorem field_Get_sound : FSound RO Tryz.prog 134 field_Get := sdf (field_Get_run _ _) (gcons field_Right_ent field_Right_sound <| gcons field_Mask_ent field_Mask_sound <| gnil) Tryz.func134 (by kernel_rfl)
def header_Unpack_L1 (l4 : SA × Nat) (k134 : Sm O) (n0 : Int) : List AV × AH O → Option ((List AV × AH O) ⊕ (List AV × AH O)) := (fun r5 =>
 (AV.asSl (r5.1.getD 0 .u)).bind fun l6 =>
 (AV.asI .i64 (r5.1.getD 1 .u)).bind fun n7 =>
 (bif (decide (n7 < (l4.2 : Int))) then
 let h8 := r5.2.bump 1
 (bif ((decide ((0 : Int) ≤ n7)) && (decide (n7 < (l4.2 : Int)))) then
 (SA.ref l4.1).bind fun q9 =>
 (h8.ld q9.1 (q9.2 + (n7.toNat * 2))).bind fun w10 =>
 (AV.asI .i64 w10).bind fun n11 =>
 (h8.ld q9.1 ((q9.2 + (n7.toNat * 2)) + 1)).bind fun w12 =>
 (AV.asI .i64 w12).bind fun n13 =>
 let h14 := h8.put r5.2.next (.cells true 249 [J 0, J 0])
 (h14.st (.n r5.2.next) 0 [J n11, J n13]).bind fun h15 =>
 let h16 := h15.bump 2
 (h16.ld (.n r5.2.next) 0).bind fun w17 =>
 (AV.asI .i64 w17).bind fun n18 =>
 (h16.ld (.n r5.2.next) 1).bind fun w19 =>
 (AV.asI .i64 w19).bind fun n20 =>
 (k134 [(.i .u64 n0), (.agg [J n18, J n20])] h16).bind fun r21 =>
 (AV.asI .u64 r21.1).bind fun n22 =>
 let h23 := r21.2.put h15.next (.cells true 3 [(.i .i64 (IntKind.i64.wrap n22))])
 (h23.rdSl (.loc (.n h15.next) 0 1) 1 1).bind fun new24 =>
 (bif (Nat.ble ((l6.2 + 1) * 9) 35184372088832) then
 (h23.appSl (h15.next + 1) 3 1 l6.1 l6.2 1 new24).bind fun r25 =>
 (AV.asSl r25.1).bind fun l26 =>
 some (Sum.inl ([L l26, (.i .i64 (IntKind.i64.wrap (n7 + 1)))], r25.2))
 else none)
 else none)
 else some (Sum.inr ([L l6], r5.2))))
def header_Unpack_c (k133 k134 k135 : Sm O) : Sm O := fun xs h =>
 bif Nat.beq xs.length 1 then
 (AV.asI .u64 (xs.getD 0 .u)).bind fun n0 =>
 let h1 := h.bump 1
 let h2 := h1.put h.next (.cells true 72 [J 0, J 0, J 0, J 0, (.b false)])
 (k133 [] h2).bind fun r3 =>
 (AV.asSl r3.1).bind fun l4 =>
 (loopF (S := List AV × AH O) (T := List AV × AH O) (header_Unpack_L1 l4 k134 n0) ([N, J 0], r3.2)).bind fun r27 =>
 (AV.asSl (r27.1.getD 0 .u)).bind fun l28 =>
 let h29 := r27.2.bump 1
 (bif (decide ((0 : Int) < (l28.2 : Int))) then
 (SA.ref l28.1).bind fun q30 =>
 (h29.ld q30.1 q30.2).bind fun w31 =>
 (AV.asI .i64 w31).bind fun n32 =>
 (bif (decide ((1 : Int) < (l28.2 : Int))) then
 (SA.ref l28.1).bind fun q33 =>
 (h29.ld q33.1 (q33.2 + 1)).bind fun w34 =>
 (AV.asI .i64 w34).bind fun n35 =>
 (bif (decide ((2 : Int) < (l28.2 : Int))) then
 (SA.ref l28.1).bind fun q36 =>
 (h29.ld q36.1 (q36.2 + 2)).bind fun w37 =>
 (AV.asI .i64 w37).bind fun n38 =>
 (bif (decide ((3 : Int) < (l28.2 : Int))) then
 (SA.ref l28.1).bind fun q39 =>
 (h29.ld q39.1 (q39.2 + 3)).bind fun w40 =>
 (AV.asI .i64 w40).bind fun n41 =>
 (bif (decide ((4 : Int) < (l28.2 : Int))) then
 (SA.ref l28.1).bind fun q42 =>
 (h29.ld q42.1 (q42.2 + 4)).bind fun w43 =>
 (AV.asI .i64 w43).bind fun n44 =>
 let h45 := h29.put r27.2.next (.cells true 72 [J 0, J 0, J 0, J 0, (.b false)])
 (h45.st (.n r27.2.next) 0 [J n32, J n35, J n38, J n41, (.b ((n44 : Int) == 1))]).bind fun h46 =>
 (h46.ld (.n r27.2.next) 0).bind fun w47 =>
 (AV.asI .i64 w47).bind fun n48 =>
 (h46.ld (.n r27.2.next) 1).bind fun w49 =>
 (AV.asI .i64 w49).bind fun n50 =>
 (h46.ld (.n r27.2.next) 2).bind fun w51 =>
 (AV.asI .i64 w51).bind fun n52 =>
 (h46.ld (.n r27.2.next) 3).bind fun w53 =>
 (AV.asI .i64 w53).bind fun n54 =>
 (h46.ld (.n r27.2.next) 4).bind fun w55 =>
 (AV.asB w55).bind fun b56 =>
 (k135 [(.agg [J n48, J n50, J n52, J n54, (.b b56)])] h46).bind fun r57 =>
 (AV.asTup 2 r57.1).bind fun c58 =>
 (AV.asI .u64 (c58.getD 0 .u)).bind fun n59 =>
 I6 c58 1 fun n60 => ((bif (((n60 : Int) != 0) == false) then
 some ([(.b ((n59 : Int) != n0))], r57.2)
 else some ([(.b true)], r57.2)) : Option (List AV × AH O)).bind fun r61 =>
 (AV.asB (r61.1.getD 0 .u)).bind fun b62 =>
 (bif b62 then
 none
 else (r61.2.ld (.n r27.2.next) 0).bind fun w63 =>
 (AV.asI .i64 w63).bind fun n64 =>
 (r61.2.ld (.n r27.2.next) 1).bind fun w65 =>
 (AV.asI .i64 w65).bind fun n66 =>
 (r61.2.ld (.n r27.2.next) 2).bind fun w67 =>
 (AV.asI .i64 w67).bind fun n68 =>
 (r61.2.ld (.n r27.2.next) 3).bind fun w69 =>
 (AV.asI .i64 w69).bind fun n70 =>
 (r61.2.ld (.n r27.2.next) 4).bind fun w71 =>
 (AV.asB w71).bind fun b72 =>
 (r61.2.st (.n h.next) 0 [J n64, J n66, J n68, J n70, (.b b72)]).bind fun h73 =>
 (h73.ld (.n h.next) 0).bind fun w74 =>
 (AV.asI .i64 w74).bind fun n75 =>
 (h73.ld (.n h.next) 1).bind fun w76 =>
 (AV.asI .i64 w76).bind fun n77 =>
 (h73.ld (.n h.next) 2).bind fun w78 =>
 (AV.asI .i64 w78).bind fun n79 =>
 (h73.ld (.n h.next) 3).bind fun w80 =>
 (AV.asI .i64 w80).bind fun n81 =>
 (h73.ld (.n h.next) 4).bind fun w82 =>
 (AV.asB w82).bind fun b83 =>
 some ((.tup [(.agg [J n75, J n77, J n79, J n81, (.b b83)]), J 0]), h73))
 else none)
 else none)
 else none)
 else none)
 else none)
 else none
def header_Unpack : Sm O := header_Unpack_c header_fields field_Get header_Pack
theorem header_Unpack_ent : Entered Tryz.prog 68 := Tryz.call68
theorem header_Unpack_run (k133 k134 k135 : Sm O) : run (O := O) Tryz.prog [(133, k133), (134, k134), (135, k135)] Tryz.f68 (.n .z (.n .z (.n (.n .z (.n (.lp false 0 [(4, .one .sl), (12, .one (.i .i64))] [(4, .one .sl)] (.n .z (.n .z (.n (.n .z .z) .z)))) .z)) (.n (.d [] [0, 1, 2, 3, 4, 5, 6, 7, 8, 9, 10, 11, 12, 13, 14, 15, 16, 17, 18, 19] [0, 1, 3, 0, 8, 24, 63, 0, 128, 384, 0, 1024, 3072, 0, 8192, 24576, 57344, 131071, 0, 524287]) (.n (.n .z (.n (.g [(2, 3, [(53, .one .b)])]) (.n .x .z))) .z))))) = header_Unpack_c k133 k134 k135 := by kernel_rfl
theorem header_Unpack_sound : FSound RO Tryz.prog 68 header_Unpack := sdf (header_Unpack_run _ _ _) (gcons header_fields_ent header_fields_sound <| gcons field_Get_ent field_Get_sound <| gcons header_Pack_ent header_Pack_sound <| gnil) Tryz.func68 (by kernel_rfl)
def store_Store__Header_c (k67 k68 : Sm O) : Sm O := fun xs h =>
 bif Nat.beq xs.length 2 then
 (AV.asP (xs.getD 0 .u)).bind fun p0 =>
 (AV.asI .u64 (xs.getD 1 .u)).bind fun n1 =>
 let h2 := h.bump 1
 let h3 := h2.put h.next (.cells true 72 [J 0, J 0, J 0, J 0, (.b false)])
 (k67 [(.p p0), (.i .u64 n1), J 0] h3).bind fun r4 =>
 (AV.asTup 2 r4.1).bind fun c5 =>
 (AV.asI .u64 (c5.getD 0 .u)).bind fun n6 =>
 I6 c5 1 fun n7 => (bif ((n7 : Int) != 0) then
 none
 else (k68 [(.i .u64 n6)] r4.2).bind fun r8 =>
 (AV.asTup 2 r8.1).bind fun c9 =>
 (AV.asAgg 5 (c9.getD 0 .u)).bind fun c10 =>
 I6 c10 0 fun n11 => I6 c10 1 fun n12 => I6 c10 2 fun n13 => I6 c10 3 fun n14 => (AV.asB (c10.getD 4 .u)).bind fun b15 =>
 I6 c9 1 fun n16 => (r8.2.st (.n h.next) 0 [J n11, J n12, J n13, J n14, (.b b15)]).bind fun h17 =>
 (h17.ld (.n h.next) 0).bind fun w18 =>
 (AV.asI .i64 w18).bind fun n19 =>
 (h17.ld (.n h.next) 1).bind fun w20 =>
 (AV.asI .i64 w20).bind fun n21 =>
 (h17.ld (.n h.next) 2).bind fun w22 =>
 (AV.asI .i64 w22).bind fun n23 =>
 (h17.ld (.n h.next) 3).bind fun w24 =>
 (AV.asI .i64 w24).bind fun n25 =>
 (h17.ld (.n h.next) 4).bind fun w26 =>
 (AV.asB w26).bind fun b27 =>
 some ((.tup [(.agg [J n19, J n21, J n23, J n25, (.b b27)]), J n16]), h17))
 else none
def store_Store__Header : Sm O := store_Store__Header_c store_Store__Word header_Unpack
theorem store_Store__Header_ent : Entered Tryz.prog 38 := Tryz.call38
theorem store_Store__Header_run (k67 k68 : Sm O) : run (O := O) Tryz.prog [(67, k67), (68, k68)] Tryz.f38 (.n .z (.n .z (.n (.n .z (.n .x .z)) .z))) = store_Store__Header_c k67 k68 := by kernel_rfl
theorem store_Store__Header_sound : FSound RO Tryz.prog 38 store_Store__Header := sdf (store_Store__Header_run _ _) (gcons store_Store__Word_ent store_Store__Word_sound <| gcons header_Unpack_ent header_Unpack_sound <| gnil) Tryz.func38 (by kernel_rfl)
def shape_Slot_c (k72 : Sm O) : Sm O := fun xs h =>
 bif Nat.beq xs.length 2 then
 (AV.asAgg 2 (xs.getD 0 .u)).bind fun c0 =>
 I6 c0 0 fun n1 => I6 c0 1 fun n2 => (AV.asI .i64 (xs.getD 1 .u)).bind fun n3 =>
 let h4 := h.bump 1
 let h5 := h4.put h.next (.cells true 70 [J n1, J n2])
 (h5.ld (.n h.next) 0).bind fun w6 =>
 (AV.asI .i64 w6).bind fun n7 =>
 (h5.ld (.n h.next) 1).bind fun w8 =>
 (AV.asI .i64 w8).bind fun n9 =>
 (k72 [(.agg [J n7, J n9])] h5).bind fun r10 =>
 (AV.asB r10.1).bind fun b11 =>
 ((bif ((!b11) == false) then
 some ([(.b (decide (n3 < 0)))], r10.2)
 else some ([(.b true)], r10.2)) : Option (List AV × AH O)).bind fun r12 =>
 (AV.asB (r12.1.getD 0 .u)).bind fun b13 =>
 ((bif (b13 == false) then
 (r12.2.ld (.n h.next) 0).bind fun w14 =>
 (AV.asI .i64 w14).bind fun n15 =>
 some ([(.b (decide (n3 ≥ n15)))], r12.2)
 else some ([(.b true)], r12.2)) : Option (List AV × AH O)).bind fun r16 =>
 (AV.asB (r16.1.getD 0 .u)).bind fun b17 =>
 (bif b17 then
 none
 else some ((.tup [(.i .i64 (IntKind.i64.wrap (1 + n3))), J 0]), r16.2))
 else none
def shape_Slot : Sm O := shape_Slot_c shape_Right
theorem shape_Slot_ent : Entered Tryz.prog 69 := Tryz.call69
theorem shape_Slot_run (k72 : Sm O) : run (O := O) Tryz.prog [(72, k72)] Tryz.f69 (.n .z (.n (.n (.g [(3, 2, [(12, .one .b)]), (7, 4, [(18, .one .b)])]) (.n .x .z)) .z)) = shape_Slot_c k72 := by kernel_rfl
theorem shape_Slot_sound : FSound RO Tryz.prog 69 shape_Slot := sdf (shape_Slot_run _) (gcons shape_Right_ent shape_Right_sound <| gnil) Tryz.func69 (by kernel_rfl)
def store_Store__Pointer_c (k38 k69 k67 : Sm O) : Sm O := fun xs h =>
 bif Nat.beq xs.length 3 then
 (AV.asP (xs.getD 0 .u)).bind fun p0 =>
 (AV.asI .u64 (xs.getD 1 .u)).bind fun n1 =>
 (AV.asI .i64 (xs.getD 2 .u)).bind fun n2 =>
 let h3 := h.bump 1
 (k38 [(.p p0), (.i .u64 n1)] h3).bind fun r4 =>
 (AV.asTup 2 r4.1).bind fun c5 =>
 (AV.asAgg 5 (c5.getD 0 .u)).bind fun c6 =>
 I6 c6 0 fun n7 => I6 c6 1 fun n8 => I6 c6 2 fun n9 => I6 c6 3 fun n10 => (AV.asB (c6.getD 4 .u)).bind fun b11 =>
 I6 c5 1 fun n12 => let h13 := r4.2.put h.next (.cells true 72 [J 0, J 0, J 0, J 0, (.b false)])
 (h13.st (.n h.next) 0 [J n7, J n8, J n9, J n10, (.b b11)]).bind fun h14 =>
 (bif ((n12 : Int) != 0) then
 none
 else (h14.ld (.n h.next) 0).bind fun w15 =>
 (AV.asI .i64 w15).bind fun n16 =>
 (h14.ld (.n h.next) 1).bind fun w17 =>
 (AV.asI .i64 w17).bind fun n18 =>
 (k69 [(.agg [J n16, J n18]), J n2] h14).bind fun r19 =>
 (AV.asTup 2 r19.1).bind fun c20 =>
 I6 c20 0 fun n21 => I6 c20 1 fun n22 => (bif ((n22 : Int) != 0) then
 none
 else (k67 [(.p p0), (.i .u64 n1), J n21] r19.2).bind fun r23 =>
 (AV.asTup 2 r23.1).bind fun c24 =>
 (AV.asI .u64 (c24.getD 0 .u)).bind fun n25 =>
 I6 c24 1 fun n26 => some ((.tup [(.i .u64 n25), J n26]), r23.2)))
 else none
def store_Store__Pointer : Sm O := store_Store__Pointer_c store_Store__Header shape_Slot store_Store__Word
theorem store_Store__Pointer_ent : Entered Tryz.prog 39 := Tryz.call39
theorem store_Store__Pointer_run (k38 k69 k67 : Sm O) : run (O := O) Tryz.prog [(38, k38), (69, k69), (67, k67)] Tryz.f39 (.n .z (.n .z (.n (.n .z (.n .x .z)) (.n .z (.n (.n .z (.n .x .z)) (.n .z .z)))))) = store_Store__Pointer_c k38 k69 k67 := by kernel_rfl
theorem store_Store__Pointer_sound : FSound RO Tryz.prog 39 store_Store__Pointer := sdf (store_Store__Pointer_run _ _ _) (gcons store_Store__Header_ent store_Store__Header_sound <| gcons shape_Slot_ent shape_Slot_sound <| gcons store_Store__Word_ent store_Store__Word_sound <| gnil) Tryz.func39 (by kernel_rfl)
def store_Store__SetWord_c (k129 k131 k274 : Sm O) : Sm O := fun xs h =>
 bif Nat.beq xs.length 4 then
 (AV.asP (xs.getD 0 .u)).bind fun p0 =>
 (AV.asI .u64 (xs.getD 1 .u)).bind fun n1 =>
 (AV.asI .i64 (xs.getD 2 .u)).bind fun n2 =>
 (AV.asI .u64 (xs.getD 3 .u)).bind fun n3 =>
 (k129 [(.i .u64 n1)] h).bind fun r4 =>
 (AV.asI .i64 r4.1).bind fun n5 =>
 (bif ((n5 : Int) == 0) then
 none
 else (bif ((n5 : Int) == 1) then
 Option.bind p0 fun q6 =>
 (r4.2.ld q6.1 (q6.2 + 1)).bind fun w7 =>
 (AV.asP w7).bind fun p8 =>
 (k131 [(.i .u64 n1)] r4.2).bind fun r9 =>
 (AV.asI .i64 r9.1).bind fun n10 =>
 (chkE (r9.2.ld q6.1 (q6.2 + 1)) (some (.p p8))).bind fun _ =>
 (k274 [(.p p8), (.i .i64 (IntKind.i64.wrap (n10 + n2))), (.i .u64 n3)] r9.2).bind fun r11 =>
 (AV.asI .i64 r11.1).bind fun n12 =>
 some (J n12, r11.2)
 else none))
 else none
def store_Store__SetWord : Sm O := store_Store__SetWord_c ref_Ref__Kind ref_Ref__At semi_Semi__Write
theorem store_Store__SetWord_ent : Entered Tryz.prog 232 := Tryz.call232
theorem store_Store__SetWord_run (k129 k131 k274 : Sm O) : run (O := O) Tryz.prog [(129, k129), (131, k131), (274, k274)] Tryz.f232 (.n .z (.n (.n .z (.n (.n .z (.n .x (.n .z (.n (.n (.d [] [0, 1, 2, 3, 4, 5, 7, 9, 6, 8, 10, 11] [0, 1, 3, 7, 15, 0, 32, 0, 224, 0, 1023, 2047]) .z) .x)))) .z)) .z)) = store_Store__SetWord_c k129 k131 k274 := by kernel_rfl
theorem store_Store__SetWord_sound : FSound RO Tryz.prog 232 store_Store__SetWord := sdf (store_Store__SetWord_run _ _ _) (gcons ref_Ref__Kind_ent ref_Ref__Kind_sound <| gcons ref_Ref__At_ent ref_Ref__At_sound <| gcons semi_Semi__Write_ent semi_Semi__Write_sound <| gnil) Tryz.func232 (by kernel_rfl)
def store_Store__SetPointer_c (k38 k69 k129 k232 : Sm O) : Sm O := fun xs h =>
 bif Nat.beq xs.length 4 then
 (AV.asP (xs.getD 0 .u)).bind fun p0 =>
 (AV.asI .u64 (xs.getD 1 .u)).bind fun n1 =>
 (AV.asI .i64 (xs.getD 2 .u)).bind fun n2 =>
 (AV.asI .u64 (xs.getD 3 .u)).bind fun n3 =>
 let h4 := h.bump 1
 (k38 [(.p p0), (.i .u64 n1)] h4).bind fun r5 =>
 (AV.asTup 2 r5.1).bind fun c6 =>
 (AV.asAgg 5 (c6.getD 0 .u)).bind fun c7 =>
 I6 c7 0 fun n8 => I6 c7 1 fun n9 => I6 c7 2 fun n10 => I6 c7 3 fun n11 => (AV.asB (c7.getD 4 .u)).bind fun b12 =>
 I6 c6 1 fun n13 => let h14 := r5.2.put h.next (.cells true 72 [J 0, J 0, J 0, J 0, (.b false)])
 (h14.st (.n h.next) 0 [J n8, J n9, J n10, J n11, (.b b12)]).bind fun h15 =>
 (bif ((n13 : Int) != 0) then
 none
 else (h15.ld (.n h.next) 0).bind fun w16 =>
 (AV.asI .i64 w16).bind fun n17 =>
 (h15.ld (.n h.next) 1).bind fun w18 =>
 (AV.asI .i64 w18).bind fun n19 =>
 (k69 [(.agg [J n17, J n19]), J n2] h15).bind fun r20 =>
 (AV.asTup 2 r20.1).bind fun c21 =>
 I6 c21 0 fun n22 => I6 c21 1 fun n23 => (bif ((n23 : Int) != 0) then
 none
 else (k129 [(.i .u64 n3)] r20.2).bind fun r24 =>
 (AV.asI .i64 r24.1).bind fun n25 =>
 (bif ((n25 : Int) == 3) then
 none
 else (k232 [(.p p0), (.i .u64 n1), J n22, (.i .u64 n3)] r24.2).bind fun r26 =>
 (AV.asI .i64 r26.1).bind fun n27 =>
 some (J n27, r26.2))))
 else none
def store_Store__SetPointer : Sm O := store_Store__SetPointer_c store_Store__Header shape_Slot ref_Ref__Kind store_Store__SetWord
theorem store_Store__SetPointer_ent : Entered Tryz.prog 175 := Tryz.call175
theorem store_Store__SetPointer_run (k38 k69 k129 k232 : Sm O) : run (O := O) Tryz.prog [(38, k38), (69, k69), (129, k129), (232, k232)] Tryz.f175 (.n .z (.n .z (.n (.n .z (.n .x .z)) (.n .z (.n (.n (.n .z (.n .x (.n .z (.n .x .z)))) .z) .z))))) = store_Store__SetPointer_c k38 k69 k129 k232 := by kernel_rfl
theorem store_Store__SetPointer_sound : FSound RO Tryz.prog 175 store_Store__SetPointer := sdf (store_Store__SetPointer_run _ _ _ _) (gcons store_Store__Header_ent store_Store__Header_sound <| gcons shape_Slot_ent shape_Slot_sound <| gcons ref_Ref__Kind_ent ref_Ref__Kind_sound <| gcons store_Store__SetWord_ent store_Store__SetWord_sound <| gnil) Tryz.func175 (by kernel_rfl)
def heap_Heap__Store_1_c (k155 k39 k156 k175 : Sm O) : Sm O := fun xs h =>
 bif Nat.beq xs.length 4 then
 (AV.asPS (xs.getD 0 .u)).bind fun q0 =>
 (h.ld q0.1 q0.2).bind fun w1 =>
 (AV.asP w1).bind fun p2 =>
 (AV.asPS (xs.getD 1 .u)).bind fun q3 =>
 (h.ld q3.1 q3.2).bind fun w4 =>
 (AV.asI .i64 w4).bind fun n5 =>
 (k155 [(.p p2), J n5] h).bind fun r6 =>
 (AV.asTup 2 r6.1).bind fun c7 =>
 (AV.asI .u64 (c7.getD 0 .u)).bind fun n8 =>
 I6 c7 1 fun n9 => (bif ((n9 : Int) != 0) then
 none
 else (AV.asPS (xs.getD 0 .u)).bind fun q10 =>
 (r6.2.ld q10.1 q10.2).bind fun w11 =>
 (AV.asP w11).bind fun p12 =>
 (AV.asPS (xs.getD 0 .u)).bind fun q13 =>
 Option.bind p12 fun q14 =>
 (r6.2.ld q14.1 (q14.2 + 5)).bind fun w15 =>
 (AV.asP w15).bind fun p16 =>
 (AV.asPS (xs.getD 2 .u)).bind fun q17 =>
 (r6.2.ld q17.1 q17.2).bind fun w18 =>
 (AV.asI .i64 w18).bind fun n19 =>
 (AV.asPS (xs.getD 2 .u)).bind fun q20 =>
 (k39 [(.p p16), (.i .u64 n8), J n19] r6.2).bind fun r21 =>
 (AV.asTup 2 r21.1).bind fun c22 =>
 (AV.asI .u64 (c22.getD 0 .u)).bind fun n23 =>
 I6 c22 1 fun n24 => (bif ((n24 : Int) != 0) then
 none
 else (AV.asPS (xs.getD 0 .u)).bind fun q25 =>
 (r21.2.ld q25.1 q25.2).bind fun w26 =>
 (AV.asP w26).bind fun p27 =>
 (AV.asPS (xs.getD 0 .u)).bind fun q28 =>
 Option.bind p27 fun q29 =>
 (r21.2.ld q29.1 (q29.2 + 6)).bind fun w30 =>
 (AV.asP w30).bind fun p31 =>
 (AV.asPS (xs.getD 3 .u)).bind fun q32 =>
 (r21.2.ld q32.1 q32.2).bind fun w33 =>
 (AV.asI .i64 w33).bind fun n34 =>
 (AV.asPS (xs.getD 3 .u)).bind fun q35 =>
 (k156 [(.p p31), J n34] r21.2).bind fun r36 =>
 (AV.asTup 2 r36.1).bind fun c37 =>
 (AV.asI .u64 (c37.getD 0 .u)).bind fun n38 =>
 I6 c37 1 fun n39 => (bif ((n39 : Int) != 0) then
 none
 else (AV.asPS (xs.getD 0 .u)).bind fun q40 =>
 (r36.2.ld q40.1 q40.2).bind fun w41 =>
 (AV.asP w41).bind fun p42 =>
 (AV.asPS (xs.getD 0 .u)).bind fun q43 =>
 Option.bind p42 fun q44 =>
 (r36.2.ld q44.1 (q44.2 + 5)).bind fun w45 =>
 (AV.asP w45).bind fun p46 =>
 (AV.asPS (xs.getD 2 .u)).bind fun q47 =>
 (r36.2.ld q47.1 q47.2).bind fun w48 =>
 (AV.asI .i64 w48).bind fun n49 =>
 (AV.asPS (xs.getD 2 .u)).bind fun q50 =>
 (k175 [(.p p46), (.i .u64 n8), J n49, (.i .u64 n38)] r36.2).bind fun r51 =>
 (AV.asI .i64 r51.1).bind fun n52 =>
 some (J n52, r51.2))))
 else none
def heap_Heap__Store_1 : Sm O := heap_Heap__Store_1_c heap_Heap__object store_Store__Pointer roots_Roots__Get store_Store__SetPointer
theorem heap_Heap__Store_1_ent : Entered Tryz.prog 174 := Tryz.call174
theorem heap_Heap__Store_1_run (k155 k39 k156 k175 : Sm O) : run (O := O) Tryz.prog [(155, k155), (39, k39), (156, k156), (175, k175)] Tryz.f174 (.n .z (.n .z (.n (.n .z (.n .x .z)) (.n (.n (.d [] [0, 1, 2, 3, 4, 5, 6, 7, 8, 9, 10, 11] [0, 1, 3, 7, 0, 0, 63, 127, 255, 255, 511, 2047]) (.n .z (.n .x .z))) (.n (.d [] [0, 1, 2, 3, 4, 5, 6, 7, 8, 9, 10] [0, 1, 3, 7, 0, 31, 63, 127, 127, 255, 1023]) (.n (.n .z (.n .x .z)) (.n (.d [] [0, 1, 2, 3, 4, 5, 6, 7, 8] [0, 1, 3, 7, 0, 0, 0, 127, 255]) .z))))))) = heap_Heap__Store_1_c k155 k39 k156 k175 := by kernel_rfl
theorem heap_Heap__Store_1_sound : FSound RO Tryz.prog 174 heap_Heap__Store_1 := sdf (heap_Heap__Store_1_run _ _ _ _) (gcons heap_Heap__object_ent heap_Heap__object_sound <| gcons store_Store__Pointer_ent store_Store__Pointer_sound <| gcons roots_Roots__Get_ent roots_Roots__Get_sound <| gcons store_Store__SetPointer_ent store_Store__SetPointer_sound <| gnil) Tryz.func174 (by kernel_rfl)
def ledger_Ledger__Sides_c : Sm O := fun xs h =>
 bif Nat.beq xs.length 1 then
 (AV.asAgg 4 (xs.getD 0 .u)).bind fun c0 =>
 (AV.asI .u64 (c0.getD 0 .u)).bind fun n1 =>
 (AV.asI .u64 (c0.getD 1 .u)).bind fun n2 =>
 (AV.asI .u64 (c0.getD 2 .u)).bind fun n3 =>
 (AV.asI .u64 (c0.getD 3 .u)).bind fun n4 =>
 let h5 := h.bump 3
 let h6 := h5.put h.next (.cells true 144 [(.i .u64 n1), (.i .u64 n2), (.i .u64 n3), (.i .u64 n4)])
 let h7 := h6.put (h.next + 1) (.cells true 140 [(.i .u64 0), (.i .u64 0)])
 let h8 := h7.put ((h.next + 1) + 1) (.cells true 140 [(.i .u64 0), (.i .u64 0)])
 (h8.ld (.n h.next) 0).bind fun w9 =>
 (AV.asI .u64 w9).bind fun n10 =>
 (h8.ld (.n h.next) 1).bind fun w11 =>
 (AV.asI .u64 w11).bind fun n12 =>
 (h8.ld (.n h.next) 2).bind fun w13 =>
 (AV.asI .u64 w13).bind fun n14 =>
 (h8.ld (.n h.next) 3).bind fun w15 =>
 (AV.asI .u64 w15).bind fun n16 =>
 (h8.st (.n (h.next + 1)) 0 [(.i .u64 n10), (.i .u64 n12)]).bind fun h17 =>
 (chkE (h17.ld (.n h.next) 2) (some (.i .u64 n14))).bind fun _ =>
 (chkE (h17.ld (.n h.next) 3) (some (.i .u64 n16))).bind fun _ =>
 (h17.st (.n ((h.next + 1) + 1)) 0 [(.i .u64 n14), (.i .u64 n16)]).bind fun h18 =>
 (h18.ld (.n (h.next + 1)) 0).bind fun w19 =>
 (AV.asI .u64 w19).bind fun n20 =>
 (h18.ld (.n (h.next + 1)) 1).bind fun w21 =>
 (AV.asI .u64 w21).bind fun n22 =>
 (h18.ld (.n ((h.next + 1) + 1)) 0).bind fun w23 =>
 (AV.asI .u64 w23).bind fun n24 =>
 (h18.ld (.n ((h.next + 1) + 1)) 1).bind fun w25 =>
 (AV.asI .u64 w25).bind fun n26 =>
 some ((.tup [(.agg [(.i .u64 n20), (.i .u64 n22)]), (.agg [(.i .u64 n24), (.i .u64 n26)])]), h18)
 else none
def ledger_Ledger__Sides : Sm O := ledger_Ledger__Sides_c
theorem ledger_Ledger__Sides_ent : Entered Tryz.prog 182 := Tryz.call182
theorem ledger_Ledger__Sides_run : run (O := O) Tryz.prog [] Tryz.f182 (.n .z (.n (.d [] [0, 1, 2, 3, 4, 5, 6, 7] [0, 1, 3, 0, 8, 24, 7, 127]) .z)) = ledger_Ledger__Sides_c  := by kernel_rfl
theorem ledger_Ledger__Sides_sound : FSound RO Tryz.prog 182 ledger_Ledger__Sides := sdf ledger_Ledger__Sides_run (gnil) Tryz.func182 (by kernel_rfl)
def meter_Meter__Of_c : Sm O := fun xs h =>
 bif Nat.beq xs.length 2 then
 (AV.asP (xs.getD 0 .u)).bind fun p0 =>
 (AV.asI .i64 (xs.getD 1 .u)).bind fun n1 =>
 let h2 := h.bump 1
 let h3 := h2.put h.next (.cells true 140 [(.i .u64 0), (.i .u64 0)])
 ((bif ((Option.isNone p0) == false) then
 some ([(.b (decide (n1 < 0)))], h3)
 else some ([(.b true)], h3)) : Option (List AV × AH O)).bind fun r4 =>
 (AV.asB (r4.1.getD 0 .u)).bind fun b5 =>
 ((bif (b5 == false) then
 some ([(.b (decide (n1 ≥ 2)))], r4.2)
 else some ([(.b true)], r4.2)) : Option (List AV × AH O)).bind fun r6 =>
 (AV.asB (r6.1.getD 0 .u)).bind fun b7 =>
 (bif b7 then
 none
 else Option.bind p0 fun q8 =>
 (bif ((decide ((0 : Int) ≤ n1)) && (decide (n1 < 2))) then
 (r6.2.ld q8.1 (q8.2 + (n1.toNat * 2))).bind fun w9 =>
 (AV.asI .u64 w9).bind fun n10 =>
 (r6.2.ld q8.1 ((q8.2 + (n1.toNat * 2)) + 1)).bind fun w11 =>
 (AV.asI .u64 w11).bind fun n12 =>
 (r6.2.st (.n h.next) 0 [(.i .u64 n10), (.i .u64 n12)]).bind fun h13 =>
 (h13.ld (.n h.next) 0).bind fun w14 =>
 (AV.asI .u64 w14).bind fun n15 =>
 (h13.ld (.n h.next) 1).bind fun w16 =>
 (AV.asI .u64 w16).bind fun n17 =>
 some ((.agg [(.i .u64 n15), (.i .u64 n17)]), h13)
 else none))
 else none
def meter_Meter__Of : Sm O := meter_Meter__Of_c
theorem meter_Meter__Of_ent : Entered Tryz.prog 296 := Tryz.call296
theorem meter_Meter__Of_run : run (O := O) Tryz.prog [] Tryz.f296 (.n .z (.n (.n (.g [(2, 2, [(10, .one .b)]), (6, 2, [(14, .one .b)])]) (.n .x .z)) .z)) = meter_Meter__Of_c  := by kernel_rfl
theorem meter_Meter__Of_sound : FSound RO Tryz.prog 296 meter_Meter__Of := sdf meter_Meter__Of_run (gnil) Tryz.func296 (by kernel_rfl)
def meter_Meter__Steps_c (k296 k235 : Sm O) : Sm O := fun xs h =>
 bif Nat.beq xs.length 1 then
 (AV.asP (xs.getD 0 .u)).bind fun p0 =>
 let h1 := h.bump 1
 let h2 := h1.put h.next (.cells true 140 [(.i .u64 0), (.i .u64 0)])
 let h3 := h2.bump 1
 (k296 [(.p p0), J 0] h3).bind fun r4 =>
 (AV.asAgg 2 r4.1).bind fun c5 =>
 (AV.asI .u64 (c5.getD 0 .u)).bind fun n6 =>
 (AV.asI .u64 (c5.getD 1 .u)).bind fun n7 =>
 (k296 [(.p p0), J 1] r4.2).bind fun r8 =>
 (AV.asAgg 2 r8.1).bind fun c9 =>
 (AV.asI .u64 (c9.getD 0 .u)).bind fun n10 =>
 (AV.asI .u64 (c9.getD 1 .u)).bind fun n11 =>
 (k235 [(.agg [(.i .u64 n6), (.i .u64 n7)]), (.agg [(.i .u64 n10), (.i .u64 n11)])] r8.2).bind fun r12 =>
 (AV.asTup 2 r12.1).bind fun c13 =>
 (AV.asAgg 2 (c13.getD 0 .u)).bind fun c14 =>
 (AV.asI .u64 (c14.getD 0 .u)).bind fun n15 =>
 (AV.asI .u64 (c14.getD 1 .u)).bind fun n16 =>
 (AV.asB (c13.getD 1 .u)).bind fun b17 =>
 let h18 := r12.2.put h2.next (.cells true 140 [(.i .u64 0), (.i .u64 0)])
 (h18.st (.n h2.next) 0 [(.i .u64 n15), (.i .u64 n16)]).bind fun h19 =>
 (h19.ld (.n h2.next) 0).bind fun w20 =>
 (AV.asI .u64 w20).bind fun n21 =>
 (h19.ld (.n h2.next) 1).bind fun w22 =>
 (AV.asI .u64 w22).bind fun n23 =>
 (h19.st (.n h.next) 0 [(.i .u64 n21), (.i .u64 n23)]).bind fun h24 =>
 (h24.ld (.n h.next) 0).bind fun w25 =>
 (AV.asI .u64 w25).bind fun n26 =>
 (h24.ld (.n h.next) 1).bind fun w27 =>
 (AV.asI .u64 w27).bind fun n28 =>
 some ((.agg [(.i .u64 n26), (.i .u64 n28)]), h24)
 else none
def meter_Meter__Steps : Sm O := meter_Meter__Steps_c meter_Meter__Of wide_Add
theorem meter_Meter__Steps_ent : Entered Tryz.prog 237 := Tryz.call237
theorem meter_Meter__Steps_run (k296 k235 : Sm O) : run (O := O) Tryz.prog [(296, k296), (235, k235)] Tryz.f237 (.n .z (.n .z .z)) = meter_Meter__Steps_c k296 k235 := by kernel_rfl
theorem meter_Meter__Steps_sound : FSound RO Tryz.prog 237 meter_Meter__Steps := sdf (meter_Meter__Steps_run _ _) (gcons meter_Meter__Of_ent meter_Meter__Of_sound <| gcons wide_Add_ent wide_Add_sound <| gnil) Tryz.func237 (by kernel_rfl)
def wide_Cmp_c : Sm O := fun xs h =>
 bif Nat.beq xs.length 2 then
 (AV.asAgg 2 (xs.getD 0 .u)).bind fun c0 =>
 (AV.asI .u64 (c0.getD 0 .u)).bind fun n1 =>
 (AV.asI .u64 (c0.getD 1 .u)).bind fun n2 =>
 (AV.asAgg 2 (xs.getD 1 .u)).bind fun c3 =>
 (AV.asI .u64 (c3.getD 0 .u)).bind fun n4 =>
 (AV.asI .u64 (c3.getD 1 .u)).bind fun n5 =>
 let h6 := h.bump 2
 let h7 := h6.put h.next (.cells true 140 [(.i .u64 n1), (.i .u64 n2)])
 let h8 := h7.put (h.next + 1) (.cells true 140 [(.i .u64 n4), (.i .u64 n5)])
 (h8.ld (.n h.next) 0).bind fun w9 =>
 (AV.asI .u64 w9).bind fun n10 =>
 (h8.ld (.n h.next) 1).bind fun w11 =>
 (AV.asI .u64 w11).bind fun n12 =>
 (h8.ld (.n (h.next + 1)) 0).bind fun w13 =>
 (AV.asI .u64 w13).bind fun n14 =>
 (h8.ld (.n (h.next + 1)) 1).bind fun w15 =>
 (AV.asI .u64 w15).bind fun n16 =>
 (bif (((n10 : Int) == n14) && (((n12 : Int) == n16) && true)) then
 none
 else (h8.ld (.n h.next) 0).bind fun w17 =>
 (AV.asI .u64 w17).bind fun n18 =>
 (h8.ld (.n (h.next + 1)) 0).bind fun w19 =>
 (AV.asI .u64 w19).bind fun n20 =>
 ((bif ((decide (n18 < n20)) == false) then
 (h8.ld (.n h.next) 0).bind fun w21 =>
 (AV.asI .u64 w21).bind fun n22 =>
 (h8.ld (.n (h.next + 1)) 0).bind fun w23 =>
 (AV.asI .u64 w23).bind fun n24 =>
 ((bif (((n22 : Int) == n24) == true) then
 (h8.ld (.n h.next) 1).bind fun w25 =>
 (AV.asI .u64 w25).bind fun n26 =>
 (h8.ld (.n (h.next + 1)) 1).bind fun w27 =>
 (AV.asI .u64 w27).bind fun n28 =>
 some ([(.b (decide (n26 < n28)))], h8)
 else some ([(.b false)], h8)) : Option (List AV × AH O)).bind fun r29 =>
 (AV.asB (r29.1.getD 0 .u)).bind fun b30 =>
 some ([(.b b30)], r29.2)
 else some ([(.b true)], h8)) : Option (List AV × AH O)).bind fun r31 =>
 (AV.asB (r31.1.getD 0 .u)).bind fun b32 =>
 (bif b32 then
 none
 else some (J 1, r31.2)))
 else none
def wide_Cmp : Sm O := wide_Cmp_c
theorem wide_Cmp_ent : Entered Tryz.prog 334 := Tryz.call334
theorem wide_Cmp_run : run (O := O) Tryz.prog [] Tryz.f334 (.n .z (.n (.n (.n .z (.n .x (.n (.g [(5, 12, [(28, .one .b)]), (11, 5, [(27, .one .b)])]) (.n .x .z)))) .z) .z)) = wide_Cmp_c  := by kernel_rfl
theorem wide_Cmp_sound : FSound RO Tryz.prog 334 wide_Cmp := sdf wide_Cmp_run (gnil) Tryz.func334 (by kernel_rfl)
def wide_Less_c (k334 : Sm O) : Sm O := fun xs h =>
 bif Nat.beq xs.length 2 then
 (AV.asAgg 2 (xs.getD 0 .u)).bind fun c0 =>
 (AV.asI .u64 (c0.getD 0 .u)).bind fun n1 =>
 (AV.asI .u64 (c0.getD 1 .u)).bind fun n2 =>
 (AV.asAgg 2 (xs.getD 1 .u)).bind fun c3 =>
 (AV.asI .u64 (c3.getD 0 .u)).bind fun n4 =>
 (AV.asI .u64 (c3.getD 1 .u)).bind fun n5 =>
 let h6 := h.bump 2
 let h7 := h6.put h.next (.cells true 140 [(.i .u64 n1), (.i .u64 n2)])
 let h8 := h7.put (h.next + 1) (.cells true 140 [(.i .u64 n4), (.i .u64 n5)])
 (h8.ld (.n h.next) 0).bind fun w9 =>
 (AV.asI .u64 w9).bind fun n10 =>
 (h8.ld (.n h.next) 1).bind fun w11 =>
 (AV.asI .u64 w11).bind fun n12 =>
 (h8.ld (.n (h.next + 1)) 0).bind fun w13 =>
 (AV.asI .u64 w13).bind fun n14 =>
 (h8.ld (.n (h.next + 1)) 1).bind fun w15 =>
 (AV.asI .u64 w15).bind fun n16 =>
 (k334 [(.agg [(.i .u64 n10), (.i .u64 n12)]), (.agg [(.i .u64 n14), (.i .u64 n16)])] h8).bind fun r17 =>
 (AV.asI .i64 r17.1).bind fun n18 =>
 some ((.b (decide (n18 < 0))), r17.2)
 else none
def wide_Less : Sm O := wide_Less_c wide_Cmp
theorem wide_Less_ent : Entered Tryz.prog 294 := Tryz.call294
theorem wide_Less_run (k334 : Sm O) : run (O := O) Tryz.prog [(334, k334)] Tryz.f294 (.n .z .z) = wide_Less_c k334 := by kernel_rfl
theorem wide_Less_sound : FSound RO Tryz.prog 294 wide_Less := sdf (wide_Less_run _) (gcons wide_Cmp_ent wide_Cmp_sound <| gnil) Tryz.func294 (by kernel_rfl)
def wide_Sub_c (k294 k295 : Sm O) : Sm O := fun xs h =>
 bif Nat.beq xs.length 2 then
 (AV.asAgg 2 (xs.getD 0 .u)).bind fun c0 =>
 (AV.asI .u64 (c0.getD 0 .u)).bind fun n1 =>
 (AV.asI .u64 (c0.getD 1 .u)).bind fun n2 =>
 (AV.asAgg 2 (xs.getD 1 .u)).bind fun c3 =>
 (AV.asI .u64 (c3.getD 0 .u)).bind fun n4 =>
 (AV.asI .u64 (c3.getD 1 .u)).bind fun n5 =>
 let h6 := h.bump 3
 let h7 := h6.put h.next (.cells true 140 [(.i .u64 n1), (.i .u64 n2)])
 let h8 := h7.put (h.next + 1) (.cells true 140 [(.i .u64 n4), (.i .u64 n5)])
 let h9 := h8.put ((h.next + 1) + 1) (.cells true 140 [(.i .u64 0), (.i .u64 0)])
 (h9.ld (.n h.next) 0).bind fun w10 =>
 (AV.asI .u64 w10).bind fun n11 =>
 (h9.ld (.n h.next) 1).bind fun w12 =>
 (AV.asI .u64 w12).bind fun n13 =>
 (h9.ld (.n (h.next + 1)) 0).bind fun w14 =>
 (AV.asI .u64 w14).bind fun n15 =>
 (h9.ld (.n (h.next + 1)) 1).bind fun w16 =>
 (AV.asI .u64 w16).bind fun n17 =>
 (k294 [(.agg [(.i .u64 n11), (.i .u64 n13)]), (.agg [(.i .u64 n15), (.i .u64 n17)])] h9).bind fun r18 =>
 (AV.asB r18.1).bind fun b19 =>
 (bif b19 then
 none
 else (r18.2.ld (.n h.next) 1).bind fun w20 =>
 (AV.asI .u64 w20).bind fun n21 =>
 (r18.2.ld (.n (h.next + 1)) 1).bind fun w22 =>
 (AV.asI .u64 w22).bind fun n23 =>
 (k295 [(.i .u64 n21), (.i .u64 n23), (.i .u64 0)] r18.2).bind fun r24 =>
 (AV.asTup 2 r24.1).bind fun c25 =>
 (AV.asI .u64 (c25.getD 0 .u)).bind fun n26 =>
 (AV.asI .u64 (c25.getD 1 .u)).bind fun n27 =>
 (r24.2.ld (.n h.next) 0).bind fun w28 =>
 (AV.asI .u64 w28).bind fun n29 =>
 (r24.2.ld (.n (h.next + 1)) 0).bind fun w30 =>
 (AV.asI .u64 w30).bind fun n31 =>
 (k295 [(.i .u64 n29), (.i .u64 n31), (.i .u64 n27)] r24.2).bind fun r32 =>
 (AV.asTup 2 r32.1).bind fun c33 =>
 (AV.asI .u64 (c33.getD 0 .u)).bind fun n34 =>
 (AV.asI .u64 (c33.getD 1 .u)).bind fun n35 =>
 (r32.2.st (.n ((h.next + 1) + 1)) 0 [(.i .u64 n34), (.i .u64 n26)]).bind fun h36 =>
 (h36.ld (.n ((h.next + 1) + 1)) 0).bind fun w37 =>
 (AV.asI .u64 w37).bind fun n38 =>
 (h36.ld (.n ((h.next + 1) + 1)) 1).bind fun w39 =>
 (AV.asI .u64 w39).bind fun n40 =>
 some ((.tup [(.agg [(.i .u64 n38), (.i .u64 n40)]), (.b true)]), h36))
 else none
def wide_Sub : Sm O := wide_Sub_c wide_Less bits_Sub64
theorem wide_Sub_ent : Entered Tryz.prog 236 := Tryz.call236
theorem wide_Sub_run (k294 k295 : Sm O) : run (O := O) Tryz.prog [(294, k294), (295, k295)] Tryz.f236 (.n .z (.n (.n .z (.n .x .z)) (.n .z (.n .z .z)))) = wide_Sub_c k294 k295 := by kernel_rfl
theorem wide_Sub_sound : FSound RO Tryz.prog 236 wide_Sub := sdf (wide_Sub_run _ _) (gcons wide_Less_ent wide_Less_sound <| gext bits_Sub64_ext <| gnil) Tryz.func236 (by kernel_rfl)
def meter_Meter__Since_c (k237 k236 : Sm O) : Sm O := fun xs h =>
 bif Nat.beq xs.length 2 then
 (AV.asP (xs.getD 0 .u)).bind fun p0 =>
 (AV.asAgg 2 (xs.getD 1 .u)).bind fun c1 =>
 (AV.asI .u64 (c1.getD 0 .u)).bind fun n2 =>
 (AV.asI .u64 (c1.getD 1 .u)).bind fun n3 =>
 let h4 := h.bump 2
 let h5 := h4.put h.next (.cells true 140 [(.i .u64 n2), (.i .u64 n3)])
 let h6 := h5.put (h.next + 1) (.cells true 140 [(.i .u64 0), (.i .u64 0)])
 let h7 := h6.bump 1
 (h7.ld (.n h.next) 0).bind fun w8 =>
 (AV.asI .u64 w8).bind fun n9 =>
 (h7.ld (.n h.next) 1).bind fun w10 =>
 (AV.asI .u64 w10).bind fun n11 =>
 (k237 [(.p p0)] h7).bind fun r12 =>
 (AV.asAgg 2 r12.1).bind fun c13 =>
 (AV.asI .u64 (c13.getD 0 .u)).bind fun n14 =>
 (AV.asI .u64 (c13.getD 1 .u)).bind fun n15 =>
 (chkE (r12.2.ld (.n h.next) 0) (some (.i .u64 n9))).bind fun _ =>
 (chkE (r12.2.ld (.n h.next) 1) (some (.i .u64 n11))).bind fun _ =>
 (k236 [(.agg [(.i .u64 n14), (.i .u64 n15)]), (.agg [(.i .u64 n9), (.i .u64 n11)])] r12.2).bind fun r16 =>
 (AV.asTup 2 r16.1).bind fun c17 =>
 (AV.asAgg 2 (c17.getD 0 .u)).bind fun c18 =>
 (AV.asI .u64 (c18.getD 0 .u)).bind fun n19 =>
 (AV.asI .u64 (c18.getD 1 .u)).bind fun n20 =>
 (AV.asB (c17.getD 1 .u)).bind fun b21 =>
 let h22 := r16.2.put h6.next (.cells true 140 [(.i .u64 0), (.i .u64 0)])
 (h22.st (.n h6.next) 0 [(.i .u64 n19), (.i .u64 n20)]).bind fun h23 =>
 (h23.ld (.n h6.next) 0).bind fun w24 =>
 (AV.asI .u64 w24).bind fun n25 =>
 (h23.ld (.n h6.next) 1).bind fun w26 =>
 (AV.asI .u64 w26).bind fun n27 =>
 (h23.st (.n (h.next + 1)) 0 [(.i .u64 n25), (.i .u64 n27)]).bind fun h28 =>
 (h28.ld (.n (h.next + 1)) 0).bind fun w29 =>
 (AV.asI .u64 w29).bind fun n30 =>
 (h28.ld (.n (h.next + 1)) 1).bind fun w31 =>
 (AV.asI .u64 w31).bind fun n32 =>
 some ((.agg [(.i .u64 n30), (.i .u64 n32)]), h28)
 else none
def meter_Meter__Since : Sm O := meter_Meter__Since_c meter_Meter__Steps wide_Sub
theorem meter_Meter__Since_ent : Entered Tryz.prog 184 := Tryz.call184
theorem meter_Meter__Since_run (k237 k236 : Sm O) : run (O := O) Tryz.prog [(237, k237), (236, k236)] Tryz.f184 (.n .z (.n (.d [] [0, 2, 1, 3, 4, 5, 6, 7, 8, 9] [0, 1, 0, 7, 15, 31, 31, 0, 191, 511]) .z)) = meter_Meter__Since_c k237 k236 := by kernel_rfl
theorem meter_Meter__Since_sound : FSound RO Tryz.prog 184 meter_Meter__Since := sdf (meter_Meter__Since_run _ _) (gcons meter_Meter__Steps_ent meter_Meter__Steps_sound <| gcons wide_Sub_ent wide_Sub_sound <| gnil) Tryz.func184 (by kernel_rfl)
def ledger_Ledger__Pay_c (k235 : Sm O) : Sm O := fun xs h =>
 bif Nat.beq xs.length 2 then
 (AV.asAgg 4 (xs.getD 0 .u)).bind fun c0 =>
 (AV.asI .u64 (c0.getD 0 .u)).bind fun n1 =>
 (AV.asI .u64 (c0.getD 1 .u)).bind fun n2 =>
 (AV.asI .u64 (c0.getD 2 .u)).bind fun n3 =>
 (AV.asI .u64 (c0.getD 3 .u)).bind fun n4 =>
 (AV.asAgg 2 (xs.getD 1 .u)).bind fun c5 =>
 (AV.asI .u64 (c5.getD 0 .u)).bind fun n6 =>
 (AV.asI .u64 (c5.getD 1 .u)).bind fun n7 =>
 let h8 := h.bump 3
 let h9 := h8.put h.next (.cells true 144 [(.i .u64 n1), (.i .u64 n2), (.i .u64 n3), (.i .u64 n4)])
 let h10 := h9.put (h.next + 1) (.cells true 140 [(.i .u64 n6), (.i .u64 n7)])
 let h11 := h10.put ((h.next + 1) + 1) (.cells true 144 [(.i .u64 0), (.i .u64 0), (.i .u64 0), (.i .u64 0)])
 (h11.ld (.n h.next) 2).bind fun w12 =>
 (AV.asI .u64 w12).bind fun n13 =>
 (h11.ld (.n h.next) 3).bind fun w14 =>
 (AV.asI .u64 w14).bind fun n15 =>
 (h11.ld (.n (h.next + 1)) 0).bind fun w16 =>
 (AV.asI .u64 w16).bind fun n17 =>
 (h11.ld (.n (h.next + 1)) 1).bind fun w18 =>
 (AV.asI .u64 w18).bind fun n19 =>
 (k235 [(.agg [(.i .u64 n13), (.i .u64 n15)]), (.agg [(.i .u64 n17), (.i .u64 n19)])] h11).bind fun r20 =>
 (AV.asTup 2 r20.1).bind fun c21 =>
 (AV.asAgg 2 (c21.getD 0 .u)).bind fun c22 =>
 (AV.asI .u64 (c22.getD 0 .u)).bind fun n23 =>
 (AV.asI .u64 (c22.getD 1 .u)).bind fun n24 =>
 (AV.asB (c21.getD 1 .u)).bind fun b25 =>
 (r20.2.st (.n h.next) 2 [(.i .u64 n23), (.i .u64 n24)]).bind fun h26 =>
 (h26.ld (.n h.next) 0).bind fun w27 =>
 (AV.asI .u64 w27).bind fun n28 =>
 (h26.ld (.n h.next) 1).bind fun w29 =>
 (AV.asI .u64 w29).bind fun n30 =>
 (h26.ld (.n h.next) 2).bind fun w31 =>
 (AV.asI .u64 w31).bind fun n32 =>
 (h26.ld (.n h.next) 3).bind fun w33 =>
 (AV.asI .u64 w33).bind fun n34 =>
 (h26.st (.n ((h.next + 1) + 1)) 0 [(.i .u64 n28), (.i .u64 n30), (.i .u64 n32), (.i .u64 n34)]).bind fun h35 =>
 (h35.ld (.n ((h.next + 1) + 1)) 0).bind fun w36 =>
 (AV.asI .u64 w36).bind fun n37 =>
 (h35.ld (.n ((h.next + 1) + 1)) 1).bind fun w38 =>
 (AV.asI .u64 w38).bind fun n39 =>
 (h35.ld (.n ((h.next + 1) + 1)) 2).bind fun w40 =>
 (AV.asI .u64 w40).bind fun n41 =>
 (h35.ld (.n ((h.next + 1) + 1)) 3).bind fun w42 =>
 (AV.asI .u64 w42).bind fun n43 =>
 some ((.agg [(.i .u64 n37), (.i .u64 n39), (.i .u64 n41), (.i .u64 n43)]), h35)
 else none
def ledger_Ledger__Pay : Sm O := ledger_Ledger__Pay_c wide_Add
theorem ledger_Ledger__Pay_ent : Entered Tryz.prog 183 := Tryz.call183
theorem ledger_Ledger__Pay_run (k235 : Sm O) : run (O := O) Tryz.prog [(235, k235)] Tryz.f183 (.n .z (.n .z .z)) = ledger_Ledger__Pay_c k235 := by kernel_rfl
theorem ledger_Ledger__Pay_sound : FSound RO Tryz.prog 183 ledger_Ledger__Pay := sdf (ledger_Ledger__Pay_run _) (gcons wide_Add_ent wide_Add_sound <| gnil) Tryz.func183 (by kernel_rfl)
def heap_Heap__call_c (k181 k182 k53 k184 k183 k139 k145 k174 : Sm O) : Sm O := fun xs h =>
 bif Nat.beq xs.length 2 then
 (AV.asP (xs.getD 0 .u)).bind fun p0 =>
 (AV.asF (xs.getD 1 .u)).bind fun f1 =>
 Option.bind p0 fun q2 =>
 (h.ld q2.1 (q2.2 + 15)).bind fun w3 =>
 (AV.asI .u64 w3).bind fun n4 =>
 (h.ld q2.1 ((q2.2 + 15) + 1)).bind fun w5 =>
 (AV.asI .u64 w5).bind fun n6 =>
 (h.ld q2.1 (((q2.2 + 15) + 1) + 1)).bind fun w7 =>
 (AV.asI .u64 w7).bind fun n8 =>
 (h.ld q2.1 ((((q2.2 + 15) + 1) + 1) + 1)).bind fun w9 =>
 (AV.asI .u64 w9).bind fun n10 =>
 (k181 [(.agg [(.i .u64 n4), (.i .u64 n6), (.i .u64 n8), (.i .u64 n10)]), J 0, J 1] h).bind fun r11 =>
 (AV.asAgg 4 r11.1).bind fun c12 =>
 (AV.asI .u64 (c12.getD 0 .u)).bind fun n13 =>
 (AV.asI .u64 (c12.getD 1 .u)).bind fun n14 =>
 (AV.asI .u64 (c12.getD 2 .u)).bind fun n15 =>
 (AV.asI .u64 (c12.getD 3 .u)).bind fun n16 =>
 Option.bind p0 fun q17 =>
 (r11.2.st q17.1 (q17.2 + 15) [(.i .u64 n13), (.i .u64 n14), (.i .u64 n15), (.i .u64 n16)]).bind fun h18 =>
 (callV [(181, k181), (182, k182), (53, k53), (184, k184), (183, k183), (139, k139), (145, k145), (174, k174)] f1 [] h18).bind fun r19 =>
 (AV.asI .i64 r19.1).bind fun n20 =>
 let h21 := r19.2.bump 2
 Option.bind p0 fun q22 =>
 (h21.ld q22.1 (q22.2 + 15)).bind fun w23 =>
 (AV.asI .u64 w23).bind fun n24 =>
 (h21.ld q22.1 ((q22.2 + 15) + 1)).bind fun w25 =>
 (AV.asI .u64 w25).bind fun n26 =>
 (h21.ld q22.1 (((q22.2 + 15) + 1) + 1)).bind fun w27 =>
 (AV.asI .u64 w27).bind fun n28 =>
 (h21.ld q22.1 ((((q22.2 + 15) + 1) + 1) + 1)).bind fun w29 =>
 (AV.asI .u64 w29).bind fun n30 =>
 (k182 [(.agg [(.i .u64 n24), (.i .u64 n26), (.i .u64 n28), (.i .u64 n30)])] h21).bind fun r31 =>
 (AV.asTup 2 r31.1).bind fun c32 =>
 (AV.asAgg 2 (c32.getD 0 .u)).bind fun c33 =>
 (AV.asI .u64 (c33.getD 0 .u)).bind fun n34 =>
 (AV.asI .u64 (c33.getD 1 .u)).bind fun n35 =>
 (AV.asAgg 2 (c32.getD 1 .u)).bind fun c36 =>
 (AV.asI .u64 (c36.getD 0 .u)).bind fun n37 =>
 (AV.asI .u64 (c36.getD 1 .u)).bind fun n38 =>
 let h39 := r31.2.put r19.2.next (.cells true 140 [(.i .u64 0), (.i .u64 0)])
 let h40 := h39.put (r19.2.next + 1) (.cells true 140 [(.i .u64 0), (.i .u64 0)])
 (h40.st (.n r19.2.next) 0 [(.i .u64 n34), (.i .u64 n35)]).bind fun h41 =>
 (h41.st (.n (r19.2.next + 1)) 0 [(.i .u64 n37), (.i .u64 n38)]).bind fun h42 =>
 Option.bind p0 fun q43 =>
 (h42.ld q43.1 (q43.2 + 15)).bind fun w44 =>
 (AV.asI .u64 w44).bind fun n45 =>
 (h42.ld q43.1 ((q43.2 + 15) + 1)).bind fun w46 =>
 (AV.asI .u64 w46).bind fun n47 =>
 (h42.ld q43.1 (((q43.2 + 15) + 1) + 1)).bind fun w48 =>
 (AV.asI .u64 w48).bind fun n49 =>
 (h42.ld q43.1 ((((q43.2 + 15) + 1) + 1) + 1)).bind fun w50 =>
 (AV.asI .u64 w50).bind fun n51 =>
 Option.bind p0 fun q52 =>
 (h42.ld q52.1 (q52.2 + 5)).bind fun w53 =>
 (AV.asP w53).bind fun p54 =>
 (h42.ld (.n (r19.2.next + 1)) 0).bind fun w55 =>
 (AV.asI .u64 w55).bind fun n56 =>
 (h42.ld (.n (r19.2.next + 1)) 1).bind fun w57 =>
 (AV.asI .u64 w57).bind fun n58 =>
 (k53 [(.p p54)] h42).bind fun r59 =>
 (AV.asP r59.1).bind fun p60 =>
 (chkE (r59.2.ld q43.1 (q43.2 + 15)) (some (.i .u64 n45))).bind fun _ =>
 (chkE (r59.2.ld q43.1 ((q43.2 + 15) + 1)) (some (.i .u64 n47))).bind fun _ =>
 (chkE (r59.2.ld q43.1 (((q43.2 + 15) + 1) + 1)) (some (.i .u64 n49))).bind fun _ =>
 (chkE (r59.2.ld q43.1 ((((q43.2 + 15) + 1) + 1) + 1)) (some (.i .u64 n51))).bind fun _ =>
 (chkE (r59.2.ld (.n (r19.2.next + 1)) 0) (some (.i .u64 n56))).bind fun _ =>
 (chkE (r59.2.ld (.n (r19.2.next + 1)) 1) (some (.i .u64 n58))).bind fun _ =>
 Option.bind p60 fun q61 =>
 (r59.2.ld q61.1 q61.2).bind fun w62 =>
 (AV.asP w62).bind fun p63 =>
 (k184 [(.p p63), (.agg [(.i .u64 n56), (.i .u64 n58)])] r59.2).bind fun r64 =>
 (AV.asAgg 2 r64.1).bind fun c65 =>
 (AV.asI .u64 (c65.getD 0 .u)).bind fun n66 =>
 (AV.asI .u64 (c65.getD 1 .u)).bind fun n67 =>
 (chkE (r64.2.ld q43.1 (q43.2 + 15)) (some (.i .u64 n45))).bind fun _ =>
 (chkE (r64.2.ld q43.1 ((q43.2 + 15) + 1)) (some (.i .u64 n47))).bind fun _ =>
 (chkE (r64.2.ld q43.1 (((q43.2 + 15) + 1) + 1)) (some (.i .u64 n49))).bind fun _ =>
 (chkE (r64.2.ld q43.1 ((((q43.2 + 15) + 1) + 1) + 1)) (some (.i .u64 n51))).bind fun _ =>
 (k183 [(.agg [(.i .u64 n45), (.i .u64 n47), (.i .u64 n49), (.i .u64 n51)]), (.agg [(.i .u64 n66), (.i .u64 n67)])] r64.2).bind fun r68 =>
 (AV.asAgg 4 r68.1).bind fun c69 =>
 (AV.asI .u64 (c69.getD 0 .u)).bind fun n70 =>
 (AV.asI .u64 (c69.getD 1 .u)).bind fun n71 =>
 (AV.asI .u64 (c69.getD 2 .u)).bind fun n72 =>
 (AV.asI .u64 (c69.getD 3 .u)).bind fun n73 =>
 Option.bind p0 fun q74 =>
 (r68.2.st q74.1 (q74.2 + 15) [(.i .u64 n70), (.i .u64 n71), (.i .u64 n72), (.i .u64 n73)]).bind fun h75 =>
 some (J n20, h75)
 else none
def heap_Heap__call : Sm O := heap_Heap__call_c ledger_Ledger__Deposit ledger_Ledger__Sides store_Store__Mem meter_Meter__Since ledger_Ledger__Pay heap_Heap__Alloc_1 heap_Heap__Global_1 heap_Heap__Store_1
theorem heap_Heap__call_ent : Entered Tryz.prog 115 := Tryz.call115
theorem heap_Heap__call_run (k181 k182 k53 k184 k183 k139 k145 k174 : Sm O) : run (O := O) Tryz.prog [(181, k181), (182, k182), (53, k53), (184, k184), (183, k183), (139, k139), (145, k145), (174, k174)] Tryz.f115 (.n .z (.n .z (.n .z (.n .z (.n (.d [] [0, 1, 2, 3, 4, 5, 6, 7, 8, 13, 9, 10, 11, 12, 14, 15, 16, 17, 18] [0, 0, 2, 6, 14, 0, 32, 96, 224, 480, 992, 2016, 4064, 0, 16352, 32766, 65535, 131071, 262143]) .z))))) = heap_Heap__call_c k181 k182 k53 k184 k183 k139 k145 k174 := by kernel_rfl
theorem heap_Heap__call_sound : FSound RO Tryz.prog 115 heap_Heap__call := sdf (heap_Heap__call_run _ _ _ _ _ _ _ _) (gcons ledger_Ledger__Deposit_ent ledger_Ledger__Deposit_sound <| gcons ledger_Ledger__Sides_ent ledger_Ledger__Sides_sound <| gcons store_Store__Mem_ent store_Store__Mem_sound <| gcons meter_Meter__Since_ent meter_Meter__Since_sound <| gcons ledger_Ledger__Pay_ent ledger_Ledger__Pay_sound <| gcons heap_Heap__Alloc_1_ent heap_Heap__Alloc_1_sound <| gcons heap_Heap__Global_1_ent heap_Heap__Global_1_sound <| gcons heap_Heap__Store_1_ent heap_Heap__Store_1_sound <| gnil) Tryz.func115 (by kernel_rfl)
def heap_Heap__Alloc_c (k139 k115 : Sm O) : Sm O := fun xs h =>
 bif Nat.beq xs.length 4 then
 (AV.asP (xs.getD 0 .u)).bind fun p0 =>
 (AV.asI .i64 (xs.getD 1 .u)).bind fun n1 =>
 (AV.asAgg 2 (xs.getD 2 .u)).bind fun c2 =>
 I6 c2 0 fun n3 => I6 c2 1 fun n4 => (AV.asI .i64 (xs.getD 3 .u)).bind fun n5 =>
 let h6 := h.bump 4
 let h7 := h6.put h.next (.cells true 40 [(.p p0)])
 let h8 := h7.put (h.next + 1) (.cells true 3 [J n1])
 let h9 := h8.put ((h.next + 1) + 1) (.cells true 70 [J n3, J n4])
 let h10 := h9.put (((h.next + 1) + 1) + 1) (.cells true 3 [J n5])
 (h10.ld (.n h.next) 0).bind fun w11 =>
 (AV.asP w11).bind fun p12 =>
 (k115 [(.p p12), (.fn (some (.func 139, [], [(.p (some ((.n h.next), 0))), (.p (some ((.n (h.next + 1)), 0))), (.p (some ((.n ((h.next + 1) + 1)), 0))), (.p (some ((.n (((h.next + 1) + 1) + 1)), 0)))])))] h10).bind fun r13 =>
 (AV.asI .i64 r13.1).bind fun n14 =>
 some (J n14, r13.2)
 else none
def heap_Heap__Alloc : Sm O := heap_Heap__Alloc_c heap_Heap__Alloc_1 heap_Heap__call
theorem heap_Heap__Alloc_ent : Entered Tryz.prog 83 := Tryz.call83
theorem heap_Heap__Alloc_run (k139 k115 : Sm O) : run (O := O) Tryz.prog [(139, k139), (115, k115)] Tryz.f83 (.n .z .z) = heap_Heap__Alloc_c k139 k115 := by kernel_rfl
theorem heap_Heap__Alloc_sound : FSound RO Tryz.prog 83 heap_Heap__Alloc := sdf (heap_Heap__Alloc_run _ _) (gcons heap_Heap__Alloc_1_ent heap_Heap__Alloc_1_sound <| gcons heap_Heap__call_ent heap_Heap__call_sound <| gnil) Tryz.func83 (by kernel_rfl)
def haymowref18_At_L1 (h : AH O) (n6 : Int) : List AV × AH O → Option ((List AV × AH O) ⊕ ((List AV × AH O) ⊕ (AV × AH O))) := (fun r9 =>
 (AV.asI .i64 (r9.1.getD 0 .u)).bind fun n10 =>
 (r9.2.ld (.n h.next) 4).bind fun w11 =>
 (AV.asSl w11).bind fun l12 =>
 (bif (decide (n10 < (l12.2 : Int))) then
 (r9.2.ld (.n h.next) 4).bind fun w13 =>
 (AV.asSl w13).bind fun l14 =>
 (bif ((decide ((0 : Int) ≤ n10)) && (decide (n10 < (l14.2 : Int)))) then
 (SA.ref l14.1).bind fun q15 =>
 (r9.2.ld q15.1 (q15.2 + (n10.toNat * 2))).bind fun w16 =>
 (AV.asI .i64 w16).bind fun n17 =>
 (bif ((n17 : Int) == n6) then
 ((some (J n10, r9.2) : Option (AV × AH O)).map fun r => Sum.inr (Sum.inr r))
 else none)
 else none)
 else none))
def haymowref18_At_c : Sm O := fun xs h =>
 bif Nat.beq xs.length 2 then
 (AV.asAgg 5 (xs.getD 0 .u)).bind fun c0 =>
 I6 c0 0 fun n1 => Is c0 1 fun l2 => Is c0 2 fun l3 => I6 c0 3 fun n4 => Is c0 4 fun l5 => (AV.asI .i64 (xs.getD 1 .u)).bind fun n6 =>
 let h7 := h.bump 1
 let h8 := h7.put h.next (.cells true 50 [J n1, L l2, L l3, J n4, L l5])
 bindS (S := List AV × AH O) (R := (AV × AH O)) (loopF (S := List AV × AH O) (T := (List AV × AH O) ⊕ (AV × AH O)) (haymowref18_At_L1 h n6) ([J 0], h8)) fun r18 =>
 none
 else none
def haymowref18_At : Sm O := haymowref18_At_c
theorem haymowref18_At_ent : Entered Tryz.prog 169 := Tryz.call169
theorem haymowref18_At_run : run (O := O) Tryz.prog [] Tryz.f169 (.n .z (.n (.n .z (.n (.lp true 1000000 [(5, .one (.i .i64))] [] (.n (.n .z (.n .z .x)) (.n (.n (.n .z (.n .z .x)) .z) .z))) .z)) .z)) = haymowref18_At_c  := by kernel_rfl
theorem haymowref18_At_sound : FSound RO Tryz.prog 169 haymowref18_At := sdf haymowref18_At_run (gnil) Tryz.func169 (by kernel_rfl)
def haymowref19_Get_p (w : Words O) (k169 : Sm O) : Sm O := fun xs h =>
 bif Nat.beq xs.length 2 then
 (AV.asAgg 11 (xs.getD 0 .u)).bind fun c0 =>
 w.U1 c0 fun l1 n2 l3 l4 n5 l6 n7 l8 l9 n10 l11 =>
 (AV.asI .i64 (xs.getD 1 .u)).bind fun n12 =>
 let h13 := h.bump 1
 let h14 := h13.put h.next (.cells true 52 (P6 l1 n2 l3 l4 n5 l6 n7 l8 l9 n10 l11))
 (bif (decide (n12 ≥ 0)) then
 (h14.ld (.n h.next) 1).bind fun w15 =>
 (AV.asI .i64 w15).bind fun n16 =>
 (h14.ld (.n h.next) 2).bind fun w17 =>
 (AV.asSl w17).bind fun l18 =>
 (h14.ld (.n h.next) 3).bind fun w19 =>
 (AV.asSl w19).bind fun l20 =>
 (h14.ld (.n h.next) 4).bind fun w21 =>
 (AV.asI .i64 w21).bind fun n22 =>
 (h14.ld (.n h.next) 5).bind fun w23 =>
 (AV.asSl w23).bind fun l24 =>
 (k169 [(.agg [J n16, L l18, L l20, J n22, L l24]), J n12] h14).bind fun r25 =>
 (AV.asI .i64 r25.1).bind fun n26 =>
 (bif (decide (n26 < 0)) then
 none
 else (r25.2.ld (.n h.next) 5).bind fun w27 =>
 (AV.asSl w27).bind fun l28 =>
 (bif ((decide ((0 : Int) ≤ n26)) && (decide (n26 < (l28.2 : Int)))) then
 (SA.ref l28.1).bind fun q29 =>
 (r25.2.ld q29.1 ((q29.2 + (n26.toNat * 2)) + 1)).bind fun w30 =>
 (AV.asI .u64 w30).bind fun n31 =>
 some ((.tup [(.i .u64 n31), J 0]), r25.2)
 else none))
 else none)
 else none
def haymowref19_Get_c (k169 : Sm O) : Sm O := haymowref19_Get_p fastWords k169
def haymowref19_Get : Sm O := haymowref19_Get_c haymowref18_At
theorem haymowref19_Get_ent : Entered Tryz.prog 216 := Tryz.call216
theorem haymowref19_Get_run (k169 : Sm O) : run (O := O) Tryz.prog [(169, k169)] Tryz.f216 (.n .z (.n (.n .z (.n (.n .z (.n (.n .z (.n .x .z)) .z)) .x)) (.n .z (.n (.n .z (.n .z (.n .x .x))) .z)))) = haymowref19_Get_c k169 :=
 (show run (O := O) Tryz.prog [(169, k169)] Tryz.f216 (.n .z (.n (.n .z (.n (.n .z (.n (.n .z (.n .x .z)) .z)) .x)) (.n .z (.n (.n .z (.n .z (.n .x .x))) .z)))) = haymowref19_Get_p slowWords k169 by kernel_rfl).trans (congrArg (fun w => haymowref19_Get_p w k169) words_eq)
theorem haymowref19_Get_sound : FSound RO Tryz.prog 216 haymowref19_Get := sdf (haymowref19_Get_run _) (gcons haymowref18_At_ent haymowref18_At_sound <| gnil) Tryz.func216 (by kernel_rfl)
def haymowref33_node_c : Sm O := fun xs h =>
 bif Nat.beq xs.length 1 then
 (AV.asI .u64 (xs.getD 0 .u)).bind fun n0 =>
 some ((.i .i64 (IntKind.i64.wrap ((IntKind.i64.wrap n0) - 1))), h)
 else none
def haymowref33_node : Sm O := haymowref33_node_c
theorem haymowref33_node_ent : Entered Tryz.prog 170 := Tryz.call170
theorem haymowref33_node_run : run (O := O) Tryz.prog [] Tryz.f170 (.n .z .z) = haymowref33_node_c  := by kernel_rfl
theorem haymowref33_node_sound : FSound RO Tryz.prog 170 haymowref33_node := sdf haymowref33_node_run (gnil) Tryz.func170 (by kernel_rfl)
end
end Go.Abs.Tryz
