/-
  What the functions of the program do, each as a function of Lean, and that it does so. No conditions.
-/
import Derived.Test.YtlcfoijebdljjaaGreatAbsExtern
import Derived.Test.YtlcfoijebdljjaaGreatProg
import Derived.KernelRfl
set_option linter.unusedVariables false
set_option linter.unusedSimpArgs false
set_option linter.constructorNameAsVariable false
set_option maxRecDepth 100000
namespace Go.Abs.Tryz
open Go Go.Abs Go.Proofs

abbrev I6 {R : Type} (c : List AV) (i : Nat) (K : Int → Option R) : Option R := (AV.asI .i64 (c.getD i .u)).bind K
abbrev Is {R : Type} (c : List AV) (i : Nat) (K : SA × Nat → Option R) : Option R := (AV.asSl (c.getD i .u)).bind K
abbrev J (n : Int) : AV := .i .i64 n
abbrev L (l : SA × Nat) : AV := .sl l.1 l.2
abbrev N : AV := .sl .nil 0
/-- a way on that takes so many numbers (true) and slices (false) -/
def FunTy : List Bool → Type → Type
  | [], R => Option R
  | true :: ks, R => Int → FunTy ks R
  | false :: ks, R => SA × Nat → FunTy ks R
/-- the cells at the head of a list, handed on -/
def applyW {R : Type} : (ks : List Bool) → List AV → FunTy ks R → Option R
  | [], _, K => K
  | true :: ks, .i .i64 n :: cs, K => applyW ks cs (K n)
  | false :: ks, .sl a n :: cs, K => applyW ks cs (K (a, n))
  | _ :: _, _, _ => none
def slowU {R : Type} (c : List AV) : (ks : List Bool) → Nat → FunTy ks R → Option R
  | [], _, K => K
  | true :: ks, i, K => (AV.asI .i64 (c.getD i .u)).bind fun x => slowU c ks (i + 1) (K x)
  | false :: ks, i, K => (AV.asSl (c.getD i .u)).bind fun x => slowU c ks (i + 1) (K x)
theorem slowU_eq {R : Type} (c : List AV) : ∀ (ks : List Bool) (i : Nat) (K : FunTy ks R), slowU c ks i K = applyW ks (c.drop i) K
  | [], _, _ => rfl
  | k :: ks, i, K => by
    have hd : c.drop i = if h : i < c.length then c[i] :: c.drop (i + 1) else [] := by
      split
      · rw [List.drop_eq_getElem_cons]
      · exact List.drop_of_length_le (by omega)
    have hg : c.getD i .u = if h : i < c.length then c[i] else .u := by
      rw [List.getD_eq_getElem?_getD]
      split
      · rename_i h; rw [List.getElem?_eq_getElem h]; rfl
      · rw [List.getElem?_eq_none (by omega)]; rfl
    cases k <;> simp only [slowU, hd, hg] <;> split <;> try rfl
    all_goals
      generalize c[i] = v
      cases v <;> first | rfl | exact slowU_eq c ks (i + 1) _ | (rename_i kk _; cases kk <;> first | rfl | exact slowU_eq c ks (i + 1) _)
def AHall {O : Type} (σ : AH O) (b : Bid) : Option (List AV) :=
  match b with
  | .n b => match σ.blk b with
    | some (.cells _ _ cs) => some cs
    | _ => none
  | .f cs => some cs
theorem ld_all {O : Type} (σ : AH O) (b : Bid) (o : Nat) : σ.ld b o = (AHall σ b).bind fun cs => cs[o]? := by
  unfold AH.ld AHall
  cases b with
  | n b => simp only; cases σ.blk b with
    | none => rfl
    | some x => cases x <;> rfl
  | f cs => rfl
def slowW {O R : Type} (σ : AH O) (b : Bid) : (ks : List Bool) → Nat → FunTy ks R → Option R
  | [], _, K => K
  | true :: ks, o, K => (σ.ld b o).bind fun w => (AV.asI .i64 w).bind fun x => slowW σ b ks (o + 1) (K x)
  | false :: ks, o, K => (σ.ld b o).bind fun w => (AV.asSl w).bind fun x => slowW σ b ks (o + 1) (K x)
theorem slowW_cs {O R : Type} {σ : AH O} {b : Bid} {cs : List AV} (hc : AHall σ b = some cs) : ∀ (ks : List Bool) (o : Nat) (K : FunTy ks R), slowW σ b ks o K = applyW ks (cs.drop o) K
  | [], _, _ => rfl
  | k :: ks, o, K => by
    have hl : σ.ld b o = cs[o]? := by rw [ld_all, hc]; rfl
    by_cases h : o < cs.length
    · have hd : cs.drop o = cs[o] :: cs.drop (o + 1) := List.drop_eq_getElem_cons h
      rw [List.getElem?_eq_getElem h] at hl
      cases k <;> simp only [slowW, hd, hl, Option.bind_some]
      all_goals
        generalize cs[o] = v
        cases v <;> first | rfl | exact slowW_cs hc ks (o + 1) _ | (rename_i kk _; cases kk <;> first | rfl | exact slowW_cs hc ks (o + 1) _)
    · have hd : cs.drop o = [] := List.drop_of_length_le (by omega)
      rw [List.getElem?_eq_none (by omega)] at hl
      cases k <;> simp only [slowW, hd, hl, Option.bind_none] <;> rfl
theorem slowW_eq {O R : Type} (σ : AH O) (b : Bid) (k : Bool) (ks : List Bool) (o : Nat) (K : FunTy (k :: ks) R) : slowW σ b (k :: ks) o K = (AHall σ b).bind fun cs => applyW (k :: ks) (cs.drop o) K := by
  cases hc : AHall σ b with
  | some cs => rw [slowW_cs hc]; rfl
  | none =>
    have hl : σ.ld b o = none := by rw [ld_all, hc]; rfl
    cases k <;> simp only [slowW, hl, Option.bind_none]
abbrev kU0 : List Bool := [true, true, true, true, true, true, true, true]
abbrev kU1 : List Bool := [false, true, false, false, true, false, true, false, false, true, false]
abbrev kU2 : List Bool := [true, true, true, true, true, false, false, true, false, false, true, false, true, false, false, true, false, true, true, true, true, true, true, true, true, true, true, true, true, true, true, true, true, false, true, true, true, true, true, true, true, true, true, true, true, true, true, true, true, true, true, true, true, true, true, true, true, true, true, true, true, true, true, true, true, true, true, true, true, true, true, true, true, true, true, true, true, true, true, true, true, true, true, true, true, true, true, true, true, true, true, true, true, true, true, true, true, true, true, true, true, true, true, true, true, true, true, true, true, true, true, true, true, true, true, true, true, true, true, true, true, true, true, true, true, true, true, true, true, true, true, true, true, true, true, true, true, true, true, true, true, true, true, true, true, true, true, true, true, true, true, true, true, true, true, true, true, true, true, true, true, true, true, true, true, true, true, true, true, true, true, true, true, true, true, true, true, true, true, true, true, true, true, true, true, true, true, true, true, true, true, true, true, true, true, true, true, true, true, true, true, true, true, true, true, true, true, true, true, true, true, true, true, true, true, true, true, true, true, true, true, true, true, true, true, true, true, true, true, true, true, true, true, true, true, true, true, true, true, true, true, true, true, true, true, true, true, true, true, true, true, true, true, true, true, true, true, true, false, true, true, true, true, true]
abbrev kW0 : List Bool := [true, true, true, true, true, true, true, true]
abbrev kW1 : List Bool := [false, true, false, false, true, false, true, false, false, true, false]
abbrev kW2 : List Bool := [true, true, true, true, true, false, false, true, false, false, true, false, true, false, false, true, false, true, true, true, true, true, true, true, true, true, true, true, true, true, true, true, true, false, true, true, true, true, true, true, true, true, true, true, true, true, true, true, true, true, true, true, true, true, true, true, true, true, true, true, true, true, true, true, true, true, true, true, true, true, true, true, true, true, true, true, true, true, true, true, true, true, true, true, true, true, true, true, true, true, true, true, true, true, true, true, true, true, true, true, true, true, true, true, true, true, true, true, true, true, true, true, true, true, true, true, true, true, true, true, true, true, true, true, true, true, true, true, true, true, true, true, true, true, true, true, true, true, true, true, true, true, true, true, true, true, true, true, true, true, true, true, true, true, true, true, true, true, true, true, true, true, true, true, true, true, true, true, true, true, true, true, true, true, true, true, true, true, true, true, true, true, true, true, true, true, true, true, true, true, true, true, true, true, true, true, true, true, true, true, true, true, true, true, true, true, true, true, true, true, true, true, true, true, true, true, true, true, true, true, true, true, true, true, true, true, true, true, true, true, true, true, true, true, true, true, true, true, true, true, true, true, true, true, true, true, true, true, true, true, true, true, true, true, true, true, true, true, false, true, true, true, true, true]
structure Words (O : Type) where
  U0 : {R : Type} → List AV → (Int → Int → Int → Int → Int → Int → Int → Int → Option R) → Option R
  U1 : {R : Type} → List AV → (SA × Nat → Int → SA × Nat → SA × Nat → Int → SA × Nat → Int → SA × Nat → SA × Nat → Int → SA × Nat → Option R) → Option R
  U2 : {R : Type} → List AV → (Int → Int → Int → Int → Int → SA × Nat → SA × Nat → Int → SA × Nat → SA × Nat → Int → SA × Nat → Int → SA × Nat → SA × Nat → Int → SA × Nat → Int → Int → Int → Int → Int → Int → Int → Int → Int → Int → Int → Int → Int → Int → Int → Int → SA × Nat → Int → Int → Int → Int → Int → Int → Int → Int → Int → Int → Int → Int → Int → Int → Int → Int → Int → Int → Int → Int → Int → Int → Int → Int → Int → Int → Int → Int → Int → Int → Int → Int → Int → Int → Int → Int → Int → Int → Int → Int → Int → Int → Int → Int → Int → Int → Int → Int → Int → Int → Int → Int → Int → Int → Int → Int → Int → Int → Int → Int → Int → Int → Int → Int → Int → Int → Int → Int → Int → Int → Int → Int → Int → Int → Int → Int → Int → Int → Int → Int → Int → Int → Int → Int → Int → Int → Int → Int → Int → Int → Int → Int → Int → Int → Int → Int → Int → Int → Int → Int → Int → Int → Int → Int → Int → Int → Int → Int → Int → Int → Int → Int → Int → Int → Int → Int → Int → Int → Int → Int → Int → Int → Int → Int → Int → Int → Int → Int → Int → Int → Int → Int → Int → Int → Int → Int → Int → Int → Int → Int → Int → Int → Int → Int → Int → Int → Int → Int → Int → Int → Int → Int → Int → Int → Int → Int → Int → Int → Int → Int → Int → Int → Int → Int → Int → Int → Int → Int → Int → Int → Int → Int → Int → Int → Int → Int → Int → Int → Int → Int → Int → Int → Int → Int → Int → Int → Int → Int → Int → Int → Int → Int → Int → Int → Int → Int → Int → Int → Int → Int → Int → Int → Int → Int → Int → Int → Int → Int → Int → Int → Int → Int → Int → Int → Int → Int → Int → Int → Int → Int → Int → Int → Int → Int → SA × Nat → Int → Int → Int → Int → Int → Option R) → Option R
  W0 : {R : Type} → AH O → Bid → Nat → (Int → Int → Int → Int → Int → Int → Int → Int → Option R) → Option R
  W1 : {R : Type} → AH O → Bid → Nat → (SA × Nat → Int → SA × Nat → SA × Nat → Int → SA × Nat → Int → SA × Nat → SA × Nat → Int → SA × Nat → Option R) → Option R
  W2 : {R : Type} → AH O → Bid → Nat → (Int → Int → Int → Int → Int → SA × Nat → SA × Nat → Int → SA × Nat → SA × Nat → Int → SA × Nat → Int → SA × Nat → SA × Nat → Int → SA × Nat → Int → Int → Int → Int → Int → Int → Int → Int → Int → Int → Int → Int → Int → Int → Int → Int → SA × Nat → Int → Int → Int → Int → Int → Int → Int → Int → Int → Int → Int → Int → Int → Int → Int → Int → Int → Int → Int → Int → Int → Int → Int → Int → Int → Int → Int → Int → Int → Int → Int → Int → Int → Int → Int → Int → Int → Int → Int → Int → Int → Int → Int → Int → Int → Int → Int → Int → Int → Int → Int → Int → Int → Int → Int → Int → Int → Int → Int → Int → Int → Int → Int → Int → Int → Int → Int → Int → Int → Int → Int → Int → Int → Int → Int → Int → Int → Int → Int → Int → Int → Int → Int → Int → Int → Int → Int → Int → Int → Int → Int → Int → Int → Int → Int → Int → Int → Int → Int → Int → Int → Int → Int → Int → Int → Int → Int → Int → Int → Int → Int → Int → Int → Int → Int → Int → Int → Int → Int → Int → Int → Int → Int → Int → Int → Int → Int → Int → Int → Int → Int → Int → Int → Int → Int → Int → Int → Int → Int → Int → Int → Int → Int → Int → Int → Int → Int → Int → Int → Int → Int → Int → Int → Int → Int → Int → Int → Int → Int → Int → Int → Int → Int → Int → Int → Int → Int → Int → Int → Int → Int → Int → Int → Int → Int → Int → Int → Int → Int → Int → Int → Int → Int → Int → Int → Int → Int → Int → Int → Int → Int → Int → Int → Int → Int → Int → Int → Int → Int → Int → Int → Int → Int → Int → Int → Int → Int → Int → Int → Int → Int → Int → Int → Int → Int → Int → Int → Int → Int → Int → Int → Int → Int → Int → SA × Nat → Int → Int → Int → Int → Int → Option R) → Option R
def slowWords {O : Type} : Words O where
  U0 := fun c K => slowU c kU0 0 K
  U1 := fun c K => slowU c kU1 0 K
  U2 := fun c K => slowU c kU2 0 K
  W0 := fun σ b o K => slowW σ b kW0 o K
  W1 := fun σ b o K => slowW σ b kW1 o K
  W2 := fun σ b o K => slowW σ b kW2 o K
def fastWords {O : Type} : Words O where
  U0 := fun c K => applyW kU0 c K
  U1 := fun c K => applyW kU1 c K
  U2 := fun c K => applyW kU2 c K
  W0 := fun σ b o K => (AHall σ b).bind fun cs => applyW kW0 (cs.drop o) K
  W1 := fun σ b o K => (AHall σ b).bind fun cs => applyW kW1 (cs.drop o) K
  W2 := fun σ b o K => (AHall σ b).bind fun cs => applyW kW2 (cs.drop o) K
theorem words_eq {O : Type} : (slowWords : Words O) = fastWords := by
  unfold slowWords fastWords
  congr 1
  · funext R c K; exact slowU_eq c kU0 0 K
  · funext R c K; exact slowU_eq c kU1 0 K
  · funext R c K; exact slowU_eq c kU2 0 K
  · funext R σ b o K; exact slowW_eq σ b true [true, true, true, true, true, true, true] o K
  · funext R σ b o K; exact slowW_eq σ b false [true, false, false, true, false, true, false, false, true, false] o K
  · funext R σ b o K; exact slowW_eq σ b true [true, true, true, true, false, false, true, false, false, true, false, true, false, false, true, false, true, true, true, true, true, true, true, true, true, true, true, true, true, true, true, true, false, true, true, true, true, true, true, true, true, true, true, true, true, true, true, true, true, true, true, true, true, true, true, true, true, true, true, true, true, true, true, true, true, true, true, true, true, true, true, true, true, true, true, true, true, true, true, true, true, true, true, true, true, true, true, true, true, true, true, true, true, true, true, true, true, true, true, true, true, true, true, true, true, true, true, true, true, true, true, true, true, true, true, true, true, true, true, true, true, true, true, true, true, true, true, true, true, true, true, true, true, true, true, true, true, true, true, true, true, true, true, true, true, true, true, true, true, true, true, true, true, true, true, true, true, true, true, true, true, true, true, true, true, true, true, true, true, true, true, true, true, true, true, true, true, true, true, true, true, true, true, true, true, true, true, true, true, true, true, true, true, true, true, true, true, true, true, true, true, true, true, true, true, true, true, true, true, true, true, true, true, true, true, true, true, true, true, true, true, true, true, true, true, true, true, true, true, true, true, true, true, true, true, true, true, true, true, true, true, true, true, true, true, true, true, true, true, true, true, true, true, true, true, true, true, false, true, true, true, true, true] o K
abbrev P0 : List AV := [J 0, J 0, J 0, J 0, J 0, J 0, J 0, J 0]
abbrev P1 (x0 : Int) (x1 : Int) (x2 : Int) (x3 : Int) (x4 : Int) (x5 : Int) (x6 : Int) (x7 : Int) : List AV := [J x0, J x1, J x2, J x3, J x4, J x5, J x6, J x7]
abbrev P2 (x0 : Int) (x1 : Int) (x2 : Int) (x3 : Int) (x4 : Int) (x5 : Int) (x6 : Int) (x7 : Int) (x8 : Int) (x9 : Int) (x10 : Int) (x11 : Int) (x12 : Int) (x13 : Int) (x14 : Int) (x15 : Int) (x16 : Int) (x17 : Int) (x18 : Int) (x19 : Int) (x20 : Int) (x21 : Int) (x22 : Int) (x23 : Int) (x24 : Int) (x25 : Int) (x26 : Int) (x27 : Int) (x28 : Int) (x29 : Int) (x30 : Int) (x31 : Int) (x32 : Int) (x33 : Int) (x34 : Int) (x35 : Int) (x36 : Int) (x37 : Int) (x38 : Int) (x39 : Int) (x40 : Int) (x41 : Int) (x42 : Int) (x43 : Int) (x44 : Int) (x45 : Int) (x46 : Int) (x47 : Int) (x48 : Int) (x49 : Int) (x50 : Int) (x51 : Int) (x52 : Int) (x53 : Int) (x54 : Int) (x55 : Int) (x56 : Int) (x57 : Int) (x58 : Int) (x59 : Int) (x60 : Int) (x61 : Int) (x62 : Int) (x63 : Int) (x64 : Int) : List AV := [J x0, J x1, J x2, J x3, J x4, J x5, J x6, J x7, J x8, J x9, J x10, J x11, J x12, J x13, J x14, J x15, J x16, J x17, J x18, J x19, J x20, J x21, J x22, J x23, J x24, J x25, J x26, J x27, J x28, J x29, J x30, J x31, J x32, J x33, J x34, J x35, J x36, J x37, J x38, J x39, J x40, J x41, J x42, J x43, J x44, J x45, J x46, J x47, J x48, J x49, J x50, J x51, J x52, J x53, J x54, J x55, J x56, J x57, J x58, J x59, J x60, J x61, J x62, J x63, J x64]
abbrev P3 : List AV := [J 0, J 0, J 0, J 0, J 0, J 0, J 0, J 0, J 0, J 0, J 0, J 0, J 0, J 0, J 0, J 0, J 0, J 0, J 0, J 0, J 0, J 0, J 0, J 0, J 0, J 0, J 0, J 0, J 0, J 0, J 0, J 0, J 0, J 0, J 0, J 0, J 0, J 0, J 0, J 0, J 0, J 0, J 0, J 0, J 0, J 0, J 0, J 0, J 0, J 0, J 0, J 0, J 0, J 0, J 0, J 0, J 0, J 0, J 0, J 0, J 0, J 0, J 0, J 0, J 0, J 0, J 0, J 0, J 0, J 0, J 0, J 0, J 0, J 0, J 0, J 0, J 0, J 0, J 0, J 0, J 0, J 0, J 0, J 0, J 0, J 0, J 0, J 0, J 0, J 0, J 0, J 0, J 0, J 0, J 0, J 0, J 0, J 0, J 0, J 0, J 0, J 0, J 0, J 0, J 0, J 0, J 0, J 0, J 0, J 0, J 0, J 0, J 0, J 0, J 0, J 0, J 0, J 0, J 0, J 0, J 0, J 0, J 0, J 0, J 0, J 0, J 0, J 0, J 0, J 0, J 0, J 0, J 0, J 0, J 0, J 0, J 0, J 0, J 0, J 0, J 0, J 0, J 0, J 0, J 0, J 0, J 0, J 0, J 0, J 0, J 0, J 0, J 0, J 0, J 0, J 0, J 0, J 0, J 0, J 0, J 0, J 0, J 0, J 0, J 0, J 0, J 0, J 0, J 0, J 0, J 0, J 0, J 0, J 0, J 0, J 0, J 0, J 0, J 0, J 0, J 0, J 0, J 0, J 0, J 0, J 0, J 0, J 0, J 0, J 0, J 0, J 0, J 0, J 0, J 0, J 0, J 0, J 0, J 0, J 0, J 0, J 0, J 0, J 0, J 0, J 0, J 0, J 0, J 0, J 0, J 0, J 0, J 0, J 0, J 0, J 0, J 0, J 0, J 0, J 0, J 0, J 0, J 0, J 0, J 0]
abbrev P4 : List AV := [N, J 0, N, N, J 0, N, J 0, N, N, J 0, N]
abbrev P5 (x1 : Int) (x2 : SA × Nat) (x3 : SA × Nat) (x4 : Int) (x5 : SA × Nat) (x6 : Int) (x7 : SA × Nat) (x8 : SA × Nat) (x9 : Int) (x10 : SA × Nat) : List AV := [N, J x1, L x2, L x3, J x4, L x5, J x6, L x7, L x8, J x9, L x10]
abbrev P6 (x0 : SA × Nat) (x1 : Int) (x2 : SA × Nat) (x3 : SA × Nat) (x4 : Int) (x5 : SA × Nat) (x6 : Int) (x7 : SA × Nat) (x8 : SA × Nat) (x9 : Int) (x10 : SA × Nat) : List AV := [L x0, J x1, L x2, L x3, J x4, L x5, J x6, L x7, L x8, J x9, L x10]
abbrev P7 : List AV := [J 0, J 0, J 0, J 0, J 0, N, N, J 0, N, N, J 0, N, J 0, N, N, J 0, N, J 0, J 0, J 0, J 0, J 0, J 0, J 0, J 0, J 0, J 0, J 0, J 0, J 0, J 0, J 0, J 0, N, J 0, J 0, J 0, J 0, J 0, J 0, J 0, J 0, J 0, J 0, J 0, J 0, J 0, J 0, J 0, J 0, J 0, J 0, J 0, J 0, J 0, J 0, J 0, J 0, J 0, J 0, J 0, J 0, J 0, J 0, J 0, J 0, J 0, J 0, J 0, J 0, J 0, J 0, J 0, J 0, J 0, J 0, J 0, J 0, J 0, J 0, J 0, J 0, J 0, J 0, J 0, J 0, J 0, J 0, J 0, J 0, J 0, J 0, J 0, J 0, J 0, J 0, J 0, J 0, J 0, J 0, J 0, J 0, J 0, J 0, J 0, J 0, J 0, J 0, J 0, J 0, J 0, J 0, J 0, J 0, J 0, J 0, J 0, J 0, J 0, J 0, J 0, J 0, J 0, J 0, J 0, J 0, J 0, J 0, J 0, J 0, J 0, J 0, J 0, J 0, J 0, J 0, J 0, J 0, J 0, J 0, J 0, J 0, J 0, J 0, J 0, J 0, J 0, J 0, J 0, J 0, J 0, J 0, J 0, J 0, J 0, J 0, J 0, J 0, J 0, J 0, J 0, J 0, J 0, J 0, J 0, J 0, J 0, J 0, J 0, J 0, J 0, J 0, J 0, J 0, J 0, J 0, J 0, J 0, J 0, J 0, J 0, J 0, J 0, J 0, J 0, J 0, J 0, J 0, J 0, J 0, J 0, J 0, J 0, J 0, J 0, J 0, J 0, J 0, J 0, J 0, J 0, J 0, J 0, J 0, J 0, J 0, J 0, J 0, J 0, J 0, J 0, J 0, J 0, J 0, J 0, J 0, J 0, J 0, J 0, J 0, J 0, J 0, J 0, J 0, J 0, J 0, J 0, J 0, J 0, J 0, J 0, J 0, J 0, J 0, J 0, J 0, J 0, J 0, J 0, J 0, J 0, J 0, J 0, J 0, J 0, J 0, J 0, J 0, J 0, J 0, J 0, J 0, J 0, J 0, J 0, J 0, J 0, J 0, N, J 0, J 0, J 0, J 0, J 0]
abbrev P8 (x0 : Int) (x1 : Int) (x2 : Int) (x3 : Int) (x4 : Int) (x5 : SA × Nat) (x6 : SA × Nat) (x7 : Int) (x8 : SA × Nat) (x9 : SA × Nat) (x10 : Int) (x11 : SA × Nat) (x12 : Int) (x13 : SA × Nat) (x14 : SA × Nat) (x15 : Int) (x16 : SA × Nat) (x17 : Int) (x18 : Int) (x19 : Int) (x20 : Int) (x21 : Int) (x22 : Int) (x23 : Int) (x24 : Int) (x25 : Int) (x26 : Int) (x27 : Int) (x28 : Int) (x29 : Int) (x30 : Int) (x31 : Int) (x32 : Int) (x33 : SA × Nat) (x34 : Int) (x35 : Int) (x36 : Int) (x37 : Int) (x38 : Int) (x39 : Int) (x40 : Int) (x41 : Int) (x42 : Int) (x43 : Int) (x44 : Int) (x45 : Int) (x46 : Int) (x47 : Int) (x48 : Int) (x49 : Int) (x50 : Int) (x51 : Int) (x52 : Int) (x53 : Int) (x54 : Int) (x55 : Int) (x56 : Int) (x57 : Int) (x58 : Int) (x59 : Int) (x60 : Int) (x61 : Int) (x62 : Int) (x63 : Int) (x64 : Int) (x65 : Int) (x66 : Int) (x67 : Int) (x68 : Int) (x69 : Int) (x70 : Int) (x71 : Int) (x72 : Int) (x73 : Int) (x74 : Int) (x75 : Int) (x76 : Int) (x77 : Int) (x78 : Int) (x79 : Int) (x80 : Int) (x81 : Int) (x82 : Int) (x83 : Int) (x84 : Int) (x85 : Int) (x86 : Int) (x87 : Int) (x88 : Int) (x89 : Int) (x90 : Int) (x91 : Int) (x92 : Int) (x93 : Int) (x94 : Int) (x95 : Int) (x96 : Int) (x97 : Int) (x98 : Int) (x99 : Int) (x100 : Int) (x101 : Int) (x102 : Int) (x103 : Int) (x104 : Int) (x105 : Int) (x106 : Int) (x107 : Int) (x108 : Int) (x109 : Int) (x110 : Int) (x111 : Int) (x112 : Int) (x113 : Int) (x114 : Int) (x115 : Int) (x116 : Int) (x117 : Int) (x118 : Int) (x119 : Int) (x120 : Int) (x121 : Int) (x122 : Int) (x123 : Int) (x124 : Int) (x125 : Int) (x126 : Int) (x127 : Int) (x128 : Int) (x129 : Int) (x130 : Int) (x131 : Int) (x132 : Int) (x133 : Int) (x134 : Int) (x135 : Int) (x136 : Int) (x137 : Int) (x138 : Int) (x139 : Int) (x140 : Int) (x141 : Int) (x142 : Int) (x143 : Int) (x144 : Int) (x145 : Int) (x146 : Int) (x147 : Int) (x148 : Int) (x149 : Int) (x150 : Int) (x151 : Int) (x152 : Int) (x153 : Int) (x154 : Int) (x155 : Int) (x156 : Int) (x157 : Int) (x158 : Int) (x159 : Int) (x160 : Int) (x161 : Int) (x162 : Int) (x163 : Int) (x164 : Int) (x165 : Int) (x166 : Int) (x167 : Int) (x168 : Int) (x169 : Int) (x170 : Int) (x171 : Int) (x172 : Int) (x173 : Int) (x174 : Int) (x175 : Int) (x176 : Int) (x177 : Int) (x178 : Int) (x179 : Int) (x180 : Int) (x181 : Int) (x182 : Int) (x183 : Int) (x184 : Int) (x185 : Int) (x186 : Int) (x187 : Int) (x188 : Int) (x189 : Int) (x190 : Int) (x191 : Int) (x192 : Int) (x193 : Int) (x194 : Int) (x195 : Int) (x196 : Int) (x197 : Int) (x198 : Int) (x199 : Int) (x200 : Int) (x201 : Int) (x202 : Int) (x203 : Int) (x204 : Int) (x205 : Int) (x206 : Int) (x207 : Int) (x208 : Int) (x209 : Int) (x210 : Int) (x211 : Int) (x212 : Int) (x213 : Int) (x214 : Int) (x215 : Int) (x216 : Int) (x217 : Int) (x218 : Int) (x219 : Int) (x220 : Int) (x221 : Int) (x222 : Int) (x223 : Int) (x224 : Int) (x225 : Int) (x226 : Int) (x227 : Int) (x228 : Int) (x229 : Int) (x230 : Int) (x231 : Int) (x232 : Int) (x233 : Int) (x234 : Int) (x235 : Int) (x236 : Int) (x237 : Int) (x238 : Int) (x239 : Int) (x240 : Int) (x241 : Int) (x242 : Int) (x243 : Int) (x244 : Int) (x245 : Int) (x246 : Int) (x247 : Int) (x248 : Int) (x249 : Int) (x250 : Int) (x251 : Int) (x252 : Int) (x253 : Int) (x254 : Int) (x255 : Int) (x256 : Int) (x257 : Int) (x258 : SA × Nat) (x259 : Int) (x260 : Int) (x261 : Int) (x262 : Int) (x263 : Int) : List AV := [J x0, J x1, J x2, J x3, J x4, L x5, L x6, J x7, L x8, L x9, J x10, L x11, J x12, L x13, L x14, J x15, L x16, J x17, J x18, J x19, J x20, J x21, J x22, J x23, J x24, J x25, J x26, J x27, J x28, J x29, J x30, J x31, J x32, L x33, J x34, J x35, J x36, J x37, J x38, J x39, J x40, J x41, J x42, J x43, J x44, J x45, J x46, J x47, J x48, J x49, J x50, J x51, J x52, J x53, J x54, J x55, J x56, J x57, J x58, J x59, J x60, J x61, J x62, J x63, J x64, J x65, J x66, J x67, J x68, J x69, J x70, J x71, J x72, J x73, J x74, J x75, J x76, J x77, J x78, J x79, J x80, J x81, J x82, J x83, J x84, J x85, J x86, J x87, J x88, J x89, J x90, J x91, J x92, J x93, J x94, J x95, J x96, J x97, J x98, J x99, J x100, J x101, J x102, J x103, J x104, J x105, J x106, J x107, J x108, J x109, J x110, J x111, J x112, J x113, J x114, J x115, J x116, J x117, J x118, J x119, J x120, J x121, J x122, J x123, J x124, J x125, J x126, J x127, J x128, J x129, J x130, J x131, J x132, J x133, J x134, J x135, J x136, J x137, J x138, J x139, J x140, J x141, J x142, J x143, J x144, J x145, J x146, J x147, J x148, J x149, J x150, J x151, J x152, J x153, J x154, J x155, J x156, J x157, J x158, J x159, J x160, J x161, J x162, J x163, J x164, J x165, J x166, J x167, J x168, J x169, J x170, J x171, J x172, J x173, J x174, J x175, J x176, J x177, J x178, J x179, J x180, J x181, J x182, J x183, J x184, J x185, J x186, J x187, J x188, J x189, J x190, J x191, J x192, J x193, J x194, J x195, J x196, J x197, J x198, J x199, J x200, J x201, J x202, J x203, J x204, J x205, J x206, J x207, J x208, J x209, J x210, J x211, J x212, J x213, J x214, J x215, J x216, J x217, J x218, J x219, J x220, J x221, J x222, J x223, J x224, J x225, J x226, J x227, J x228, J x229, J x230, J x231, J x232, J x233, J x234, J x235, J x236, J x237, J x238, J x239, J x240, J x241, J x242, J x243, J x244, J x245, J x246, J x247, J x248, J x249, J x250, J x251, J x252, J x253, J x254, J x255, J x256, J x257, L x258, J x259, J x260, J x261, J x262, J x263]
abbrev P9 (x0 : Int) (x1 : Int) (x2 : Int) (x3 : Int) (x4 : Int) (x5 : Int) (x6 : Int) (x7 : Int) (x8 : Int) (x9 : Int) : List AV := [J x0, J x1, J x2, J x3, J x4, J x5, J x6, J x7, J x8, J x9]
theorem mixed : Tryz.prog.follows .mixedOrders = true := by kernel_rfl
abbrev T_int64 : Nat := 2
abbrev T_int : Nat := 3
abbrev T_bool : Nat := 4
abbrev T_uint8 : Nat := 5
abbrev T_abi_BoundsErrorCode : Nat := 6
abbrev T_runtime_boundsError : Nat := 8
abbrev T_string : Nat := 9
abbrev T_runtime_errorString : Nat := 10
abbrev T_runtime_plainError : Nat := 11
abbrev T_uintptr : Nat := 12
abbrev T_runtime_errorAddressString : Nat := 14
abbrev T_maps_unhashableTypeError : Nat := 19
abbrev T_int32 : Nat := 21
abbrev T_canon_Form : Nat := 25
abbrev T_haymowref40_Form : Nat := 30
abbrev T_audit_Kind : Nat := 40
abbrev T_trial_Kind : Nat := 44
abbrev T_api_Config : Nat := 47
abbrev T_haymowref10_State : Nat := 52
abbrev T_haymowref18_State : Nat := 55
abbrev T_haymowref19_State : Nat := 57
abbrev T_haymowref28_State : Nat := 59
abbrev T_haymowref30_State : Nat := 63
abbrev T_haymowref33_State : Nat := 67
abbrev T_law33_Op : Nat := 71
abbrev T_api_Shape : Nat := 75
abbrev T_api_Header : Nat := 77
abbrev T_haymowref40_Node : Nat := 80
abbrev T_canon_Node : Nat := 82
abbrev T_api_Errno : Nat := 85
abbrev T_uint64 : Nat := 95
abbrev T_ref_Ref : Nat := 105
abbrev T_audit_Fault : Nat := 107
abbrev T_trial_Verdict : Nat := 112
abbrev T_canon_numbers : Nat := 126
abbrev T_audit_view : Nat := 142
abbrev T_control_State : Nat := 146
abbrev T_gate_Gate : Nat := 148
abbrev T_api_Wide : Nat := 150
abbrev T_ledger_book : Nat := 152
abbrev T_ledger_Ledger : Nat := 154
abbrev T_sweep_Dead : Nat := 158
abbrev T_cheney_Report : Nat := 161
abbrev T_heap_Stats : Nat := 163
abbrev T_heap_Heap : Nat := 165
abbrev T_ref_Kind : Nat := 166
abbrev T_store_parts : Nat := 172
abbrev T_store_Store : Nat := 174
abbrev T_api_Answer : Nat := 184
abbrev T_trial_trial : Nat := 196
abbrev T_roots_Roots : Nat := 217
abbrev T_uint : Nat := 225
abbrev T_semi_side : Nat := 227
abbrev T_semi_Semi : Nat := 229
abbrev T_chain_Chain : Nat := 232
abbrev T_large_Large : Nat := 234
abbrev T_service_Service : Nat := 239
abbrev T_twin_roots : Nat := 244
abbrev T_twin_found : Nat := 247
abbrev T_twin_counts : Nat := 249
abbrev T_twin_Twin : Nat := 251
abbrev T_mem_Mem : Nat := 256
abbrev T_census_Sum : Nat := 273
abbrev T_sites_table : Nat := 275
abbrev T_sites_Sites : Nat := 277
abbrev T_survive_Survive : Nat := 279
abbrev T_census_Census : Nat := 282
abbrev T_frames_top : Nat := 313
abbrev T_frames_Frames : Nat := 315
abbrev T_iter_Seq_int_ : Nat := 319
abbrev T_chain_Table : Nat := 321
abbrev T_handles_Handles : Nat := 325
abbrev T_field_Field : Nat := 330
abbrev T_meter_Kind : Nat := 343
abbrev T_pool_Pool : Nat := 345
abbrev T_record_Kind : Nat := 347
abbrev T_record_Op : Nat := 350
abbrev T_graph_Graph : Nat := 358
abbrev T_twin_handles : Nat := 361
abbrev T_meter_words : Nat := 375
abbrev T_meter_Meter : Nat := 377
abbrev T_haymowref33_Node : Nat := 385
abbrev T_haymowref18_Handle : Nat := 397
abbrev T_mem_space : Nat := 426
abbrev T_haymowref29_Sum : Nat := 447
abbrev T_haymowref10_Entry : Nat := 453
abbrev T_cheney_tally : Nat := 459
abbrev T_census_Kind : Nat := 470
abbrev T_census_Row : Nat := 472
abbrev T_haymowref23_Row : Nat := 476
abbrev T_record_form : Nat := 483
abbrev T_graph_node : Nat := 494
abbrev T_iter_Seq2_int____int_ : Nat := 500
abbrev T_evac_Mover : Nat := 514
abbrev T_grey_Scan : Nat := 517
abbrev T_slices_sortedHint : Nat := 558
abbrev T_uint32 : Nat := 565
abbrev T_slices_xorshift : Nat := 575
abbrev T_runtime_TypeAssertionError : Nat := 589
abbrev T_runtime_PanicNilError : Nat := 592
abbrev T_abi_TFlag : Nat := 593
abbrev T_abi_Kind : Nat := 594
abbrev T_abi_NameOff : Nat := 597
abbrev T_abi_TypeOff : Nat := 598
abbrev T_abi_Type : Nat := 600
theorem bits_Add64_ext {O : Type} : ExternOK Tryz.prog 311 (bits_Add64 (O := O)) := add64_ext Tryz.func311 (by kernel_rfl) (by kernel_rfl) (by kernel_rfl) rfl

theorem bits_Sub64_ext {O : Type} : ExternOK Tryz.prog 320 (bits_Sub64 (O := O)) := sub64_ext Tryz.func320 (by kernel_rfl) (by kernel_rfl) (by kernel_rfl) rfl

/-- haymow/haymowlaw39.usual -/
noncomputable def law39_usual_c {O : Type} : Sm O := fun xs σ =>
 bif Nat.beq xs.length 0 then
 let σ0 := σ.bump 1
 let σ1 := σ0.put σ.next (.cells true 47 [J 0, J 0, J 0, J 0, J 0])
 (σ1.st (.n σ.next) 0 [J 60, J 30, J 8, J 2, J 0]).bind fun σ2 =>
 (σ2.ld (.n σ.next) 0).bind fun w3 =>
 (AV.asI .i64 w3).bind fun n4 =>
 (σ2.ld (.n σ.next) 1).bind fun w5 =>
 (AV.asI .i64 w5).bind fun n6 =>
 (σ2.ld (.n σ.next) 2).bind fun w7 =>
 (AV.asI .i64 w7).bind fun n8 =>
 (σ2.ld (.n σ.next) 3).bind fun w9 =>
 (AV.asI .i64 w9).bind fun n10 =>
 (σ2.ld (.n σ.next) 4).bind fun w11 =>
 (AV.asI .i64 w11).bind fun n12 =>
 some ((.agg [J n4, J n6, J n8, J n10, J n12]), σ2)
 else none
noncomputable def law39_usual {O : Type} : Sm O := law39_usual_c
theorem law39_usual_ent : Entered Tryz.prog 39 := Tryz.call39
theorem law39_usual_run {O : Type} : run (O := O) Tryz.prog [] Tryz.f39 (.n .z .z) = law39_usual_c  := by kernel_rfl
theorem law39_usual_sound {O : Type} {RO : O → Loc → (Nat → Option Obj) → Prop} : FSound RO Tryz.prog 39 (law39_usual) :=
   have h : FSound RO Tryz.prog 39 (law39_usual_c) := (law39_usual_run) ▸ run_sound (gnil) mixed Tryz.func39 (by kernel_rfl) _
   h

/-- haymow/control.Right -/
noncomputable def control_Right_c {O : Type} : Sm O := fun xs σ =>
 bif Nat.beq xs.length 1 then
 (AV.asAgg 5 (xs.getD 0 .u)).bind fun c0 =>
 I6 c0 0 fun n1 => I6 c0 1 fun n2 => I6 c0 2 fun n3 => I6 c0 3 fun n4 => I6 c0 4 fun n5 => let σ6 := σ.bump 1
 let σ7 := σ6.put σ.next (.cells true 47 [J n1, J n2, J n3, J n4, J n5])
 (σ7.ld (.n σ.next) 0).bind fun w8 =>
 (AV.asI .i64 w8).bind fun n9 =>
 ((bif ((decide (n9 < 16)) == false) then
 (σ7.ld (.n σ.next) 0).bind fun w10 =>
 (AV.asI .i64 w10).bind fun n11 =>
 some ([(.b (decide (n11 > 1048576)))], σ7)
 else some ([(.b true)], σ7)) : Option (List AV × AH O)).bind fun r12 =>
 (AV.asB (r12.1.getD 0 .u)).bind fun b13 =>
 (bif b13 then
 none
 else (r12.2.ld (.n σ.next) 1).bind fun w14 =>
 (AV.asI .i64 w14).bind fun n15 =>
 ((bif ((decide (n15 < 0)) == false) then
 (r12.2.ld (.n σ.next) 1).bind fun w16 =>
 (AV.asI .i64 w16).bind fun n17 =>
 (r12.2.ld (.n σ.next) 0).bind fun w18 =>
 (AV.asI .i64 w18).bind fun n19 =>
 some ([(.b (decide (n17 > n19)))], r12.2)
 else some ([(.b true)], r12.2)) : Option (List AV × AH O)).bind fun r20 =>
 (AV.asB (r20.1.getD 0 .u)).bind fun b21 =>
 (bif b21 then
 none
 else (r20.2.ld (.n σ.next) 4).bind fun w22 =>
 (AV.asI .i64 w22).bind fun n23 =>
 ((bif ((decide (n23 ≥ 0)) == true) then
 (r20.2.ld (.n σ.next) 4).bind fun w24 =>
 (AV.asI .i64 w24).bind fun n25 =>
 some ([(.b (decide (n25 ≤ 16)))], r20.2)
 else some ([(.b false)], r20.2)) : Option (List AV × AH O)).bind fun r26 =>
 (AV.asB (r26.1.getD 0 .u)).bind fun b27 =>
 some ((.b b27), r26.2)))
 else none
noncomputable def control_Right {O : Type} : Sm O := control_Right_c
theorem control_Right_ent : Entered Tryz.prog 130 := Tryz.call130
theorem control_Right_run {O : Type} : run (O := O) Tryz.prog [] Tryz.f130 (.n .z (.n (.n (.n (.g [(3, 3, [(11, .one .b)])]) (.n .x (.n (.g [(3, 5, [(22, .one .b)])]) (.n .x .z)))) .z) (.n (.g [(3, 3, [(30, .one .b)])]) .z))) = control_Right_c  := by kernel_rfl
theorem control_Right_sound {O : Type} {RO : O → Loc → (Nat → Option Obj) → Prop} : FSound RO Tryz.prog 130 (control_Right) :=
   have h : FSound RO Tryz.prog 130 (control_Right_c) := (control_Right_run) ▸ run_sound (gnil) mixed Tryz.func130 (by kernel_rfl) _
   h

/-- haymow/config.Check -/
noncomputable def config_Check_c {O : Type} (k130 : Sm O) : Sm O := fun xs σ =>
 bif Nat.beq xs.length 1 then
 (AV.asAgg 5 (xs.getD 0 .u)).bind fun c0 =>
 I6 c0 0 fun n1 => I6 c0 1 fun n2 => I6 c0 2 fun n3 => I6 c0 3 fun n4 => I6 c0 4 fun n5 => let σ6 := σ.bump 1
 let σ7 := σ6.put σ.next (.cells true 47 [J n1, J n2, J n3, J n4, J n5])
 (σ7.ld (.n σ.next) 0).bind fun w8 =>
 (AV.asI .i64 w8).bind fun n9 =>
 (σ7.ld (.n σ.next) 1).bind fun w10 =>
 (AV.asI .i64 w10).bind fun n11 =>
 (σ7.ld (.n σ.next) 2).bind fun w12 =>
 (AV.asI .i64 w12).bind fun n13 =>
 (σ7.ld (.n σ.next) 3).bind fun w14 =>
 (AV.asI .i64 w14).bind fun n15 =>
 (σ7.ld (.n σ.next) 4).bind fun w16 =>
 (AV.asI .i64 w16).bind fun n17 =>
 (k130 [(.agg [J n9, J n11, J n13, J n15, J n17])] σ7).bind fun r18 =>
 (AV.asB r18.1).bind fun b19 =>
 (bif (!b19) then
 none
 else (r18.2.ld (.n σ.next) 2).bind fun w20 =>
 (AV.asI .i64 w20).bind fun n21 =>
 ((bif ((decide (n21 < 2)) == false) then
 (r18.2.ld (.n σ.next) 2).bind fun w22 =>
 (AV.asI .i64 w22).bind fun n23 =>
 some ([(.b (decide (n23 > 64)))], r18.2)
 else some ([(.b true)], r18.2)) : Option (List AV × AH O)).bind fun r24 =>
 (AV.asB (r24.1.getD 0 .u)).bind fun b25 =>
 (bif b25 then
 none
 else (r24.2.ld (.n σ.next) 3).bind fun w26 =>
 (AV.asI .i64 w26).bind fun n27 =>
 ((bif ((decide (n27 < 1)) == false) then
 (r24.2.ld (.n σ.next) 3).bind fun w28 =>
 (AV.asI .i64 w28).bind fun n29 =>
 some ([(.b (decide (n29 > 32)))], r24.2)
 else some ([(.b true)], r24.2)) : Option (List AV × AH O)).bind fun r30 =>
 (AV.asB (r30.1.getD 0 .u)).bind fun b31 =>
 (bif b31 then
 none
 else some (J 0, r30.2))))
 else none
noncomputable def config_Check {O : Type} : Sm O := config_Check_c control_Right
theorem config_Check_ent : Entered Tryz.prog 82 := Tryz.call82
theorem config_Check_run {O : Type} (k130 : Sm O) : run (O := O) Tryz.prog [(130, k130)] Tryz.f82 (.n .z (.n (.n (.n .z (.n .x (.n (.g [(3, 3, [(15, .one .b)])]) (.n .x (.n (.g [(3, 3, [(24, .one .b)])]) (.n .x .z)))))) .z) .z)) = config_Check_c k130 := by kernel_rfl
theorem config_Check_sound {O : Type} {RO : O → Loc → (Nat → Option Obj) → Prop} : FSound RO Tryz.prog 82 (config_Check) :=
   have h : FSound RO Tryz.prog 82 (config_Check_c control_Right) := (config_Check_run control_Right) ▸ run_sound (gcons control_Right_ent (control_Right_sound) <| gnil) mixed Tryz.func82 (by kernel_rfl) _
   h

/-- haymow/meter.New -/
noncomputable def meter_New_c {O : Type} : Sm O := fun xs σ =>
 bif Nat.beq xs.length 0 then
 let σ0 := σ.bump 1
 let σ1 := σ0.put σ.next (.cells true 377 [(.i .u64 0), (.i .u64 0), (.i .u64 0), (.i .u64 0), J 0, J 0])
 some ((.p (some ((.n σ.next), 0))), σ1)
 else none
noncomputable def meter_New {O : Type} : Sm O := meter_New_c
theorem meter_New_ent : Entered Tryz.prog 221 := Tryz.call221
theorem meter_New_run {O : Type} : run (O := O) Tryz.prog [] Tryz.f221 (.n .z .z) = meter_New_c  := by kernel_rfl
theorem meter_New_sound {O : Type} {RO : O → Loc → (Nat → Option Obj) → Prop} : FSound RO Tryz.prog 221 (meter_New) :=
   have h : FSound RO Tryz.prog 221 (meter_New_c) := (meter_New_run) ▸ run_sound (gnil) mixed Tryz.func221 (by kernel_rfl) _
   h

/-- haymow/mem.New -/
noncomputable def mem_New_c {O : Type} (k221 : Sm O) : Sm O := fun xs σ =>
 bif Nat.beq xs.length 0 then
 let σ0 := σ.bump 1
 (k221 [] σ0).bind fun r1 =>
 (AV.asP r1.1).bind fun p2 =>
 let σ3 := r1.2.put σ.next (.cells true 256 [(.p p2), N, J 0, J 0])
 some ((.p (some ((.n σ.next), 0))), σ3)
 else none
noncomputable def mem_New {O : Type} : Sm O := mem_New_c meter_New
theorem mem_New_ent : Entered Tryz.prog 131 := Tryz.call131
theorem mem_New_run {O : Type} (k221 : Sm O) : run (O := O) Tryz.prog [(221, k221)] Tryz.f131 (.n .z .z) = mem_New_c k221 := by kernel_rfl
theorem mem_New_sound {O : Type} {RO : O → Loc → (Nat → Option Obj) → Prop} : FSound RO Tryz.prog 131 (mem_New) :=
   have h : FSound RO Tryz.prog 131 (mem_New_c meter_New) := (mem_New_run meter_New) ▸ run_sound (gcons meter_New_ent (meter_New_sound) <| gnil) mixed Tryz.func131 (by kernel_rfl) _
   h

/-- (*haymow/meter.words).open -/
noncomputable def meter_words__open_c {O : Type} : Sm O := fun xs σ =>
 bif Nat.beq xs.length 2 then
 (AV.asP (xs.getD 0 .u)).bind fun p0 =>
 (AV.asI .i64 (xs.getD 1 .u)).bind fun n1 =>
 Option.bind p0 fun q2 =>
 (σ.ld q2.1 q2.2).bind fun w3 =>
 (AV.asI .i64 w3).bind fun n4 =>
 Option.bind p0 fun q5 =>
 (σ.st q5.1 q5.2 [(.i .i64 (IntKind.i64.wrap (n4 + n1)))]).bind fun σ6 =>
 Option.bind p0 fun q7 =>
 (σ6.ld q7.1 (q7.2 + 1)).bind fun w8 =>
 (AV.asI .i64 w8).bind fun n9 =>
 Option.bind p0 fun q10 =>
 (σ6.ld q10.1 q10.2).bind fun w11 =>
 (AV.asI .i64 w11).bind fun n12 =>
 Option.bind p0 fun q13 =>
 (σ6.st q13.1 (q13.2 + 1) [(.i .i64 (if n12 > n9 then n12 else n9))]).bind fun σ14 =>
 some ((.tup []), σ14)
 else none
noncomputable def meter_words__open {O : Type} : Sm O := meter_words__open_c
theorem meter_words__open_ent : Entered Tryz.prog 403 := Tryz.call403
theorem meter_words__open_run {O : Type} : run (O := O) Tryz.prog [] Tryz.f403 (.n .z (.d [] [0, 1, 2, 3, 4, 5, 6, 7, 8, 9, 10, 11, 12] [0, 0, 2, 6, 14, 0, 32, 96, 224, 510, 1023, 2047, 4095])) = meter_words__open_c  := by kernel_rfl
theorem meter_words__open_sound {O : Type} {RO : O → Loc → (Nat → Option Obj) → Prop} : FSound RO Tryz.prog 403 (meter_words__open) :=
   have h : FSound RO Tryz.prog 403 (meter_words__open_c) := (meter_words__open_run) ▸ run_sound (gnil) mixed Tryz.func403 (by kernel_rfl) _
   h

/-- (*haymow/meter.Meter).Hold -/
noncomputable def meter_Meter__Hold_c {O : Type} (k403 : Sm O) : Sm O := fun xs σ =>
 bif Nat.beq xs.length 2 then
 (AV.asP (xs.getD 0 .u)).bind fun p0 =>
 (AV.asI .i64 (xs.getD 1 .u)).bind fun n1 =>
 ((bif ((Option.isNone p0) == false) then
 some ([(.b (decide (n1 < 0)))], σ)
 else some ([(.b true)], σ)) : Option (List AV × AH O)).bind fun r2 =>
 (AV.asB (r2.1.getD 0 .u)).bind fun b3 =>
 (bif b3 then
 none
 else Option.bind p0 fun q4 =>
 (r2.2.ld q4.1 (q4.2 + 4)).bind fun w5 =>
 (AV.asI .i64 w5).bind fun n6 =>
 let c7 : Bool := (decide (n1 > (IntKind.i64.wrap (281474976710656 - n6))))
 (bif c7 then
 none
 else Option.bind p0 fun q8 =>
 (k403 [(.p (some (q8.1, (q8.2 + 4)))), J n1] r2.2).bind fun r9 =>
 (AV.asTup 0 r9.1).bind fun c10 =>
 some (J 0, r9.2)))
 else none
noncomputable def meter_Meter__Hold {O : Type} : Sm O := meter_Meter__Hold_c meter_words__open
theorem meter_Meter__Hold_ent : Entered Tryz.prog 321 := Tryz.call321
theorem meter_Meter__Hold_run {O : Type} (k403 : Sm O) : run (O := O) Tryz.prog [(403, k403)] Tryz.f321 (.n .z (.n (.n (.n (.g [(2, 2, [(11, .one .b)])]) (.n .x (.n .z (.n .x .z)))) .z) (.n .z .z))) = meter_Meter__Hold_c k403 := by kernel_rfl
theorem meter_Meter__Hold_sound {O : Type} {RO : O → Loc → (Nat → Option Obj) → Prop} : FSound RO Tryz.prog 321 (meter_Meter__Hold) :=
   have h : FSound RO Tryz.prog 321 (meter_Meter__Hold_c meter_words__open) := (meter_Meter__Hold_run meter_words__open) ▸ run_sound (gcons meter_words__open_ent (meter_words__open_sound) <| gnil) mixed Tryz.func321 (by kernel_rfl) _
   h

/-- (*haymow/mem.Mem).Open -/
noncomputable def mem_Mem__Open_L1 {O : Type} (p0 : Option (Bid × Nat)) : List AV × AH O → Option ((List AV × AH O) ⊕ (List AV × AH O)) := (fun r8 =>
 (AV.asI .i64 (r8.1.getD 0 .u)).bind fun n9 =>
 Option.bind p0 fun q10 =>
 (r8.2.ld q10.1 (q10.2 + 1)).bind fun w11 =>
 (AV.asSl w11).bind fun l12 =>
 ((bif ((decide (n9 < (l12.2 : Int))) == true) then
 Option.bind p0 fun q13 =>
 (r8.2.ld q13.1 (q13.2 + 1)).bind fun w14 =>
 (AV.asSl w14).bind fun l15 =>
 (bif ((decide ((0 : Int) ≤ n9)) && (decide (n9 < (l15.2 : Int)))) then
 (SA.ref l15.1).bind fun q16 =>
 (r8.2.ld q16.1 ((q16.2 + (n9.toNat * 2)) + 1)).bind fun w17 =>
 (AV.asB w17).bind fun b18 =>
 some ([(.b b18)], r8.2)
 else none)
 else some ([(.b false)], r8.2)) : Option (List AV × AH O)).bind fun r19 =>
 (AV.asB (r19.1.getD 0 .u)).bind fun b20 =>
 (bif b20 then
 none
 else some (Sum.inr ([J n9], r19.2))))
noncomputable def mem_Mem__Open_c {O : Type} (k321 : Sm O) : Sm O := fun xs σ =>
 bif Nat.beq xs.length 2 then
 (AV.asP (xs.getD 0 .u)).bind fun p0 =>
 (AV.asI .i64 (xs.getD 1 .u)).bind fun n1 =>
 (bif (decide (n1 < 0)) then
 none
 else (bif (decide (n1 > 4194304)) then
 none
 else Option.bind p0 fun q2 =>
 (σ.ld q2.1 (q2.2 + 3)).bind fun w3 =>
 (AV.asI .i64 w3).bind fun n4 =>
 (bif (decide (n4 ≥ 262144)) then
 none
 else Option.bind p0 fun q5 =>
 (σ.ld q5.1 (q5.2 + 2)).bind fun w6 =>
 (AV.asI .i64 w6).bind fun n7 =>
 (loopF (S := List AV × AH O) (T := List AV × AH O) (mem_Mem__Open_L1 p0) ([J n7], σ)).bind fun r21 =>
 (AV.asI .i64 (r21.1.getD 0 .u)).bind fun n22 =>
 Option.bind p0 fun q23 =>
 (r21.2.ld q23.1 (q23.2 + 1)).bind fun w24 =>
 (AV.asSl w24).bind fun l25 =>
 (bif ((n22 : Int) == (l25.2 : Int)) then
 let σ26 := r21.2.bump 2
 Option.bind p0 fun q27 =>
 (σ26.ld q27.1 (q27.2 + 1)).bind fun w28 =>
 (AV.asSl w28).bind fun l29 =>
 let σ30 := σ26.put r21.2.next (.cells true 426 [N, (.b false)])
 (σ30.rdSl (.loc (.n r21.2.next) 0 2) 1 2).bind fun new31 =>
 (bif (Nat.ble ((l29.2 + 1) * 33) 35184372088832) then
 (σ30.appSl (r21.2.next + 1) 426 2 l29.1 l29.2 1 new31).bind fun r32 =>
 (AV.asSl r32.1).bind fun l33 =>
 Option.bind p0 fun q34 =>
 (r32.2.st q34.1 (q34.2 + 1) [L l33]).bind fun σ35 =>
 let σ36 := σ35.bump 1
 Option.bind p0 fun q37 =>
 (σ36.ld q37.1 (q37.2 + 1)).bind fun w38 =>
 (AV.asSl w38).bind fun l39 =>
 (bif ((((decide ((0 : Int) ≤ n1)) && (decide (n1 ≤ n1))) && (decide ((n1 * 8) ≤ 140737488355328))) && (decide (n1 ≤ 140737488355328))) then
 let σ40 := σ36.put σ35.next (.cells true 95 ((List.replicate n1.toNat [(.i .u64 0)]).flatten))
 (bif ((decide ((0 : Int) ≤ n22)) && (decide (n22 < (l39.2 : Int)))) then
 (SA.ref l39.1).bind fun q41 =>
 (σ40.st q41.1 (q41.2 + (n22.toNat * 2)) [(.sl (.loc (.n σ35.next) 0 1) n1.toNat), (.b true)]).bind fun σ42 =>
 Option.bind p0 fun q43 =>
 (σ42.ld q43.1 (q43.2 + 3)).bind fun w44 =>
 (AV.asI .i64 w44).bind fun n45 =>
 Option.bind p0 fun q46 =>
 (σ42.st q46.1 (q46.2 + 2) [(.i .i64 (IntKind.i64.wrap (n22 + 1)))]).bind fun σ47 =>
 Option.bind p0 fun q48 =>
 (σ47.st q48.1 (q48.2 + 3) [(.i .i64 (IntKind.i64.wrap (n45 + 1)))]).bind fun σ49 =>
 Option.bind p0 fun q50 =>
 (σ49.ld q50.1 q50.2).bind fun w51 =>
 (AV.asP w51).bind fun p52 =>
 (k321 [(.p p52), J n1] σ49).bind fun r53 =>
 (AV.asI .i64 r53.1).bind fun n54 =>
 some ((.tup [J n22, J 0]), r53.2)
 else none)
 else none)
 else none)
 else none))))
 else none
noncomputable def mem_Mem__Open {O : Type} : Sm O := mem_Mem__Open_c meter_Meter__Hold
theorem mem_Mem__Open_ent : Entered Tryz.prog 222 := Tryz.call222
theorem mem_Mem__Open_run {O : Type} (k321 : Sm O) : run (O := O) Tryz.prog [(321, k321)] Tryz.f222 (.n .z (.n (.n (.n .z (.n .x (.n .z (.n .x (.n .z (.n .x .z)))))) .z) (.n .z (.n (.n (.lp false 1 [(6, .one (.i .i64))] [(6, .one (.i .i64))] (.n (.n (.g [(7, 8, [(39, .one .b)])]) (.n .x .z)) .z)) .z) (.n (.n .z (.n .z .x)) (.n (.d [] [0, 1, 2, 3, 4, 5, 6, 7, 8, 9] [0, 1, 3, 7, 0, 0, 32, 96, 255, 511]) (.n .z (.n .z .z)))))))) = mem_Mem__Open_c k321 := by kernel_rfl
theorem mem_Mem__Open_sound {O : Type} {RO : O → Loc → (Nat → Option Obj) → Prop} : FSound RO Tryz.prog 222 (mem_Mem__Open) :=
   have h : FSound RO Tryz.prog 222 (mem_Mem__Open_c meter_Meter__Hold) := (mem_Mem__Open_run meter_Meter__Hold) ▸ run_sound (gcons meter_Meter__Hold_ent (meter_Meter__Hold_sound) <| gnil) mixed Tryz.func222 (by kernel_rfl) _
   h

/-- haymow/semi.New -/
noncomputable def semi_New_c {O : Type} (k222 : Sm O) : Sm O := fun xs σ =>
 bif Nat.beq xs.length 2 then
 (AV.asP (xs.getD 0 .u)).bind fun p0 =>
 (AV.asI .i64 (xs.getD 1 .u)).bind fun n1 =>
 (bif (Option.isNone p0) then
 none
 else (k222 [(.p p0), J n1] σ).bind fun r2 =>
 (AV.asTup 2 r2.1).bind fun c3 =>
 I6 c3 0 fun n4 => I6 c3 1 fun n5 => (bif ((n5 : Int) != 0) then
 none
 else let σ6 := r2.2.bump 1
 let σ7 := σ6.put r2.2.next (.cells true 229 [(.p p0), J n4, J 0, J 0, J 0, (.b false)])
 some ((.tup [(.p (some ((.n r2.2.next), 0))), J 0]), σ7)))
 else none
noncomputable def semi_New {O : Type} : Sm O := semi_New_c mem_Mem__Open
theorem semi_New_ent : Entered Tryz.prog 132 := Tryz.call132
theorem semi_New_run {O : Type} (k222 : Sm O) : run (O := O) Tryz.prog [(222, k222)] Tryz.f132 (.n .z (.n (.n .z (.n .x .z)) (.n .z (.n (.n .z (.n .x .z)) .z)))) = semi_New_c k222 := by kernel_rfl
theorem semi_New_sound {O : Type} {RO : O → Loc → (Nat → Option Obj) → Prop} : FSound RO Tryz.prog 132 (semi_New) :=
   have h : FSound RO Tryz.prog 132 (semi_New_c mem_Mem__Open) := (semi_New_run mem_Mem__Open) ▸ run_sound (gcons mem_Mem__Open_ent (mem_Mem__Open_sound) <| gnil) mixed Tryz.func132 (by kernel_rfl) _
   h

/-- haymow/pool.New -/
noncomputable def pool_New_c {O : Type} (k222 : Sm O) : Sm O := fun xs σ =>
 bif Nat.beq xs.length 2 then
 (AV.asP (xs.getD 0 .u)).bind fun p0 =>
 (AV.asI .i64 (xs.getD 1 .u)).bind fun n1 =>
 ((bif ((Option.isNone p0) == false) then
 some ([(.b (decide (n1 < 1)))], σ)
 else some ([(.b true)], σ)) : Option (List AV × AH O)).bind fun r2 =>
 (AV.asB (r2.1.getD 0 .u)).bind fun b3 =>
 ((bif (b3 == false) then
 some ([(.b (decide (n1 > 60)))], r2.2)
 else some ([(.b true)], r2.2)) : Option (List AV × AH O)).bind fun r4 =>
 (AV.asB (r4.1.getD 0 .u)).bind fun b5 =>
 (bif b5 then
 none
 else (k222 [(.p p0), J 0] r4.2).bind fun r6 =>
 (AV.asTup 2 r6.1).bind fun c7 =>
 I6 c7 0 fun n8 => I6 c7 1 fun n9 => (bif ((n9 : Int) != 0) then
 none
 else let σ10 := r6.2.bump 1
 let σ11 := σ10.put r6.2.next (.cells true 345 [(.p p0), J n8, J n1, J 0, J 0, J 0, J 0])
 some ((.tup [(.p (some ((.n r6.2.next), 0))), J 0]), σ11)))
 else none
noncomputable def pool_New {O : Type} : Sm O := pool_New_c mem_Mem__Open
theorem pool_New_ent : Entered Tryz.prog 223 := Tryz.call223
theorem pool_New_run {O : Type} (k222 : Sm O) : run (O := O) Tryz.prog [(222, k222)] Tryz.f223 (.n .z (.n (.n (.g [(2, 2, [(13, .one .b)]), (6, 2, [(17, .one .b)])]) (.n .x .z)) (.n .z (.n (.n .z (.n .x .z)) .z)))) = pool_New_c k222 := by kernel_rfl
theorem pool_New_sound {O : Type} {RO : O → Loc → (Nat → Option Obj) → Prop} : FSound RO Tryz.prog 223 (pool_New) :=
   have h : FSound RO Tryz.prog 223 (pool_New_c mem_Mem__Open) := (pool_New_run mem_Mem__Open) ▸ run_sound (gcons mem_Mem__Open_ent (mem_Mem__Open_sound) <| gnil) mixed Tryz.func223 (by kernel_rfl) _
   h

/-- haymow/large.New -/
noncomputable def large_New_c {O : Type} (k223 : Sm O) : Sm O := fun xs σ =>
 bif Nat.beq xs.length 1 then
 (AV.asP (xs.getD 0 .u)).bind fun p0 =>
 (k223 [(.p p0), J 5] σ).bind fun r1 =>
 (AV.asTup 2 r1.1).bind fun c2 =>
 (AV.asP (c2.getD 0 .u)).bind fun p3 =>
 I6 c2 1 fun n4 => (bif ((n4 : Int) != 0) then
 none
 else let σ5 := r1.2.bump 1
 let σ6 := σ5.put r1.2.next (.cells true 234 [(.p p0), (.p p3), J 0, J 0, J 0, J 0, J 0, J 0, (.i .u64 0), J 0, J 0])
 some ((.tup [(.p (some ((.n r1.2.next), 0))), J 0]), σ6))
 else none
noncomputable def large_New {O : Type} : Sm O := large_New_c pool_New
theorem large_New_ent : Entered Tryz.prog 133 := Tryz.call133
theorem large_New_run {O : Type} (k223 : Sm O) : run (O := O) Tryz.prog [(223, k223)] Tryz.f133 (.n .z (.n .z (.n (.n .z (.n .x .z)) .z))) = large_New_c k223 := by kernel_rfl
theorem large_New_sound {O : Type} {RO : O → Loc → (Nat → Option Obj) → Prop} : FSound RO Tryz.prog 133 (large_New) :=
   have h : FSound RO Tryz.prog 133 (large_New_c pool_New) := (large_New_run pool_New) ▸ run_sound (gcons pool_New_ent (pool_New_sound) <| gnil) mixed Tryz.func133 (by kernel_rfl) _
   h

/-- haymow/store.New -/
noncomputable def store_New_c {O : Type} (k131 k132 k133 : Sm O) : Sm O := fun xs σ =>
 bif Nat.beq xs.length 2 then
 (AV.asI .i64 (xs.getD 0 .u)).bind fun n0 =>
 (AV.asI .i64 (xs.getD 1 .u)).bind fun n1 =>
 ((bif ((decide (n0 < 2)) == false) then
 some ([(.b (decide (n0 > 64)))], σ)
 else some ([(.b true)], σ)) : Option (List AV × AH O)).bind fun r2 =>
 (AV.asB (r2.1.getD 0 .u)).bind fun b3 =>
 (bif b3 then
 none
 else (k131 [] r2.2).bind fun r4 =>
 (AV.asP r4.1).bind fun p5 =>
 (k132 [(.p p5), J n1] r4.2).bind fun r6 =>
 (AV.asTup 2 r6.1).bind fun c7 =>
 (AV.asP (c7.getD 0 .u)).bind fun p8 =>
 I6 c7 1 fun n9 => (bif ((n9 : Int) != 0) then
 none
 else (k133 [(.p p5)] r6.2).bind fun r10 =>
 (AV.asTup 2 r10.1).bind fun c11 =>
 (AV.asP (c11.getD 0 .u)).bind fun p12 =>
 I6 c11 1 fun n13 => (bif ((n13 : Int) != 0) then
 none
 else let σ14 := r10.2.bump 1
 let σ15 := σ14.put r10.2.next (.cells true 174 [(.p p5), (.p p8), (.p p12), J n0])
 some ((.tup [(.p (some ((.n r10.2.next), 0))), J 0]), σ15))))
 else none
noncomputable def store_New {O : Type} : Sm O := store_New_c mem_New semi_New large_New
theorem store_New_ent : Entered Tryz.prog 83 := Tryz.call83
theorem store_New_run {O : Type} (k131 k132 k133 : Sm O) : run (O := O) Tryz.prog [(131, k131), (132, k132), (133, k133)] Tryz.f83 (.n .z (.n (.n (.g [(2, 2, [(15, .one .b)])]) (.n .x .z)) (.n .z (.n .z (.n (.n .z (.n .x .z)) (.n .z (.n (.n .z (.n .x .z)) .z))))))) = store_New_c k131 k132 k133 := by kernel_rfl
theorem store_New_sound {O : Type} {RO : O → Loc → (Nat → Option Obj) → Prop} : FSound RO Tryz.prog 83 (store_New) :=
   have h : FSound RO Tryz.prog 83 (store_New_c mem_New semi_New large_New) := (store_New_run mem_New semi_New large_New) ▸ run_sound (gcons mem_New_ent (mem_New_sound) <| gcons semi_New_ent (semi_New_sound) <| gcons large_New_ent (large_New_sound) <| gnil) mixed Tryz.func83 (by kernel_rfl) _
   h

/-- (*haymow/store.Store).Mem -/
noncomputable def store_Store__Mem_c {O : Type} : Sm O := fun xs σ =>
 bif Nat.beq xs.length 1 then
 (AV.asP (xs.getD 0 .u)).bind fun p0 =>
 Option.bind p0 fun q1 =>
 (σ.ld q1.1 q1.2).bind fun w2 =>
 (AV.asP w2).bind fun p3 =>
 some ((.p p3), σ)
 else none
noncomputable def store_Store__Mem {O : Type} : Sm O := store_Store__Mem_c
theorem store_Store__Mem_ent : Entered Tryz.prog 85 := Tryz.call85
theorem store_Store__Mem_run {O : Type} : run (O := O) Tryz.prog [] Tryz.f85 (.n .z .z) = store_Store__Mem_c  := by kernel_rfl
theorem store_Store__Mem_sound {O : Type} {RO : O → Loc → (Nat → Option Obj) → Prop} : FSound RO Tryz.prog 85 (store_Store__Mem) :=
   have h : FSound RO Tryz.prog 85 (store_Store__Mem_c) := (store_Store__Mem_run) ▸ run_sound (gnil) mixed Tryz.func85 (by kernel_rfl) _
   h

/-- haymow/frames.New -/
noncomputable def frames_New_c {O : Type} (k222 : Sm O) : Sm O := fun xs σ =>
 bif Nat.beq xs.length 1 then
 (AV.asP (xs.getD 0 .u)).bind fun p0 =>
 (bif (Option.isNone p0) then
 none
 else (k222 [(.p p0), J 0] σ).bind fun r1 =>
 (AV.asTup 2 r1.1).bind fun c2 =>
 I6 c2 0 fun n3 => I6 c2 1 fun n4 => (bif ((n4 : Int) != 0) then
 none
 else let σ5 := r1.2.bump 1
 let σ6 := σ5.put r1.2.next (.cells true 315 [(.p p0), J n3, J 0, J 0, J 0, J 0, J 0])
 some ((.tup [(.p (some ((.n r1.2.next), 0))), J 0]), σ6)))
 else none
noncomputable def frames_New {O : Type} : Sm O := frames_New_c mem_Mem__Open
theorem frames_New_ent : Entered Tryz.prog 134 := Tryz.call134
theorem frames_New_run {O : Type} (k222 : Sm O) : run (O := O) Tryz.prog [(222, k222)] Tryz.f134 (.n .z (.n (.n .z (.n .x .z)) (.n .z (.n (.n .z (.n .x .z)) .z)))) = frames_New_c k222 := by kernel_rfl
theorem frames_New_sound {O : Type} {RO : O → Loc → (Nat → Option Obj) → Prop} : FSound RO Tryz.prog 134 (frames_New) :=
   have h : FSound RO Tryz.prog 134 (frames_New_c mem_Mem__Open) := (frames_New_run mem_Mem__Open) ▸ run_sound (gcons mem_Mem__Open_ent (mem_Mem__Open_sound) <| gnil) mixed Tryz.func134 (by kernel_rfl) _
   h

/-- haymow/handles.New -/
noncomputable def handles_New_c {O : Type} (k223 : Sm O) : Sm O := fun xs σ =>
 bif Nat.beq xs.length 1 then
 (AV.asP (xs.getD 0 .u)).bind fun p0 =>
 (k223 [(.p p0), J 3] σ).bind fun r1 =>
 (AV.asTup 2 r1.1).bind fun c2 =>
 (AV.asP (c2.getD 0 .u)).bind fun p3 =>
 I6 c2 1 fun n4 => (bif ((n4 : Int) != 0) then
 none
 else let σ5 := r1.2.bump 1
 let σ6 := σ5.put r1.2.next (.cells true 325 [(.p p3), J 0, J 0, J 0])
 some ((.tup [(.p (some ((.n r1.2.next), 0))), J 0]), σ6))
 else none
noncomputable def handles_New {O : Type} : Sm O := handles_New_c pool_New
theorem handles_New_ent : Entered Tryz.prog 135 := Tryz.call135
theorem handles_New_run {O : Type} (k223 : Sm O) : run (O := O) Tryz.prog [(223, k223)] Tryz.f135 (.n .z (.n .z (.n (.n .z (.n .x .z)) .z))) = handles_New_c k223 := by kernel_rfl
theorem handles_New_sound {O : Type} {RO : O → Loc → (Nat → Option Obj) → Prop} : FSound RO Tryz.prog 135 (handles_New) :=
   have h : FSound RO Tryz.prog 135 (handles_New_c pool_New) := (handles_New_run pool_New) ▸ run_sound (gcons pool_New_ent (pool_New_sound) <| gnil) mixed Tryz.func135 (by kernel_rfl) _
   h

/-- haymow/roots.New -/
noncomputable def roots_New_c {O : Type} (k134 k135 : Sm O) : Sm O := fun xs σ =>
 bif Nat.beq xs.length 1 then
 (AV.asP (xs.getD 0 .u)).bind fun p0 =>
 (k134 [(.p p0)] σ).bind fun r1 =>
 (AV.asTup 2 r1.1).bind fun c2 =>
 (AV.asP (c2.getD 0 .u)).bind fun p3 =>
 I6 c2 1 fun n4 => (bif ((n4 : Int) != 0) then
 none
 else (k135 [(.p p0)] r1.2).bind fun r5 =>
 (AV.asTup 2 r5.1).bind fun c6 =>
 (AV.asP (c6.getD 0 .u)).bind fun p7 =>
 I6 c6 1 fun n8 => (bif ((n8 : Int) != 0) then
 none
 else (k135 [(.p p0)] r5.2).bind fun r9 =>
 (AV.asTup 2 r9.1).bind fun c10 =>
 (AV.asP (c10.getD 0 .u)).bind fun p11 =>
 I6 c10 1 fun n12 => (bif ((n12 : Int) != 0) then
 none
 else let σ13 := r9.2.bump 1
 let σ14 := σ13.put r9.2.next (.cells true 217 [(.p p3), (.p p7), (.p p11)])
 some ((.tup [(.p (some ((.n r9.2.next), 0))), J 0]), σ14))))
 else none
noncomputable def roots_New {O : Type} : Sm O := roots_New_c frames_New handles_New
theorem roots_New_ent : Entered Tryz.prog 84 := Tryz.call84
theorem roots_New_run {O : Type} (k134 k135 : Sm O) : run (O := O) Tryz.prog [(134, k134), (135, k135)] Tryz.f84 (.n .z (.n .z (.n (.n .z (.n .x .z)) (.n .z (.n (.n .z (.n .x .z)) (.n .z (.n (.n .z (.n .x .z)) .z))))))) = roots_New_c k134 k135 := by kernel_rfl
theorem roots_New_sound {O : Type} {RO : O → Loc → (Nat → Option Obj) → Prop} : FSound RO Tryz.prog 84 (roots_New) :=
   have h : FSound RO Tryz.prog 84 (roots_New_c frames_New handles_New) := (roots_New_run frames_New handles_New) ▸ run_sound (gcons frames_New_ent (frames_New_sound) <| gcons handles_New_ent (handles_New_sound) <| gnil) mixed Tryz.func84 (by kernel_rfl) _
   h

/-- haymow/control.Begin -/
noncomputable def control_Begin_c {O : Type} : Sm O := fun xs σ =>
 bif Nat.beq xs.length 1 then
 (AV.asAgg 5 (xs.getD 0 .u)).bind fun c0 =>
 I6 c0 0 fun n1 => I6 c0 1 fun n2 => I6 c0 2 fun n3 => I6 c0 3 fun n4 => I6 c0 4 fun n5 => let σ6 := σ.bump 2
 let σ7 := σ6.put σ.next (.cells true 47 [J n1, J n2, J n3, J n4, J n5])
 let σ8 := σ7.put (σ.next + 1) (.cells true 146 [J 0, J 0])
 (σ8.ld (.n σ.next) 1).bind fun w9 =>
 (AV.asI .i64 w9).bind fun n10 =>
 (σ8.st (.n (σ.next + 1)) 0 [J n10, J 0]).bind fun σ11 =>
 (σ11.ld (.n (σ.next + 1)) 0).bind fun w12 =>
 (AV.asI .i64 w12).bind fun n13 =>
 (σ11.ld (.n (σ.next + 1)) 1).bind fun w14 =>
 (AV.asI .i64 w14).bind fun n15 =>
 some ((.agg [J n13, J n15]), σ11)
 else none
noncomputable def control_Begin {O : Type} : Sm O := control_Begin_c
theorem control_Begin_ent : Entered Tryz.prog 136 := Tryz.call136
theorem control_Begin_run {O : Type} : run (O := O) Tryz.prog [] Tryz.f136 (.n .z .z) = control_Begin_c  := by kernel_rfl
theorem control_Begin_sound {O : Type} {RO : O → Loc → (Nat → Option Obj) → Prop} : FSound RO Tryz.prog 136 (control_Begin) :=
   have h : FSound RO Tryz.prog 136 (control_Begin_c) := (control_Begin_run) ▸ run_sound (gnil) mixed Tryz.func136 (by kernel_rfl) _
   h

/-- haymow/gate.New -/
noncomputable def gate_New_p {O : Type} (w : Words O) (k130 k136 : Sm O) : Sm O := fun xs σ =>
 bif Nat.beq xs.length 1 then
 (AV.asAgg 5 (xs.getD 0 .u)).bind fun c0 =>
 I6 c0 0 fun n1 => I6 c0 1 fun n2 => I6 c0 2 fun n3 => I6 c0 3 fun n4 => I6 c0 4 fun n5 => let σ6 := σ.bump 2
 let σ7 := σ6.put σ.next (.cells true 47 [J n1, J n2, J n3, J n4, J n5])
 let σ8 := σ7.put (σ.next + 1) (.cells true 148 P0)
 (σ8.ld (.n σ.next) 0).bind fun w9 =>
 (AV.asI .i64 w9).bind fun n10 =>
 (σ8.ld (.n σ.next) 1).bind fun w11 =>
 (AV.asI .i64 w11).bind fun n12 =>
 (σ8.ld (.n σ.next) 2).bind fun w13 =>
 (AV.asI .i64 w13).bind fun n14 =>
 (σ8.ld (.n σ.next) 3).bind fun w15 =>
 (AV.asI .i64 w15).bind fun n16 =>
 (σ8.ld (.n σ.next) 4).bind fun w17 =>
 (AV.asI .i64 w17).bind fun n18 =>
 (k130 [(.agg [J n10, J n12, J n14, J n16, J n18])] σ8).bind fun r19 =>
 (AV.asB r19.1).bind fun b20 =>
 (bif (!b20) then
 none
 else (r19.2.ld (.n σ.next) 0).bind fun w21 =>
 (AV.asI .i64 w21).bind fun n22 =>
 (r19.2.ld (.n σ.next) 1).bind fun w23 =>
 (AV.asI .i64 w23).bind fun n24 =>
 (r19.2.ld (.n σ.next) 2).bind fun w25 =>
 (AV.asI .i64 w25).bind fun n26 =>
 (r19.2.ld (.n σ.next) 3).bind fun w27 =>
 (AV.asI .i64 w27).bind fun n28 =>
 (r19.2.ld (.n σ.next) 4).bind fun w29 =>
 (AV.asI .i64 w29).bind fun n30 =>
 (r19.2.ld (.n σ.next) 0).bind fun w31 =>
 (AV.asI .i64 w31).bind fun n32 =>
 (r19.2.ld (.n σ.next) 1).bind fun w33 =>
 (AV.asI .i64 w33).bind fun n34 =>
 (r19.2.ld (.n σ.next) 2).bind fun w35 =>
 (AV.asI .i64 w35).bind fun n36 =>
 (r19.2.ld (.n σ.next) 3).bind fun w37 =>
 (AV.asI .i64 w37).bind fun n38 =>
 (r19.2.ld (.n σ.next) 4).bind fun w39 =>
 (AV.asI .i64 w39).bind fun n40 =>
 (k136 [(.agg [J n32, J n34, J n36, J n38, J n40])] r19.2).bind fun r41 =>
 (AV.asAgg 2 r41.1).bind fun c42 =>
 I6 c42 0 fun n43 => I6 c42 1 fun n44 => (chkE (r41.2.ld (.n σ.next) 0) (some (.i .i64 n22))).bind fun _ =>
 (chkE (r41.2.ld (.n σ.next) 1) (some (.i .i64 n24))).bind fun _ =>
 (chkE (r41.2.ld (.n σ.next) 2) (some (.i .i64 n26))).bind fun _ =>
 (chkE (r41.2.ld (.n σ.next) 3) (some (.i .i64 n28))).bind fun _ =>
 (chkE (r41.2.ld (.n σ.next) 4) (some (.i .i64 n30))).bind fun _ =>
 (r41.2.st (.n (σ.next + 1)) 0 (P1 n22 n24 n26 n28 n30 n43 n44 0)).bind fun σ45 =>
 w.W0 σ45 (.n (σ.next + 1)) 0 fun n47 n49 n51 n53 n55 n57 n59 n61 =>
 some ((.tup [(.agg (P1 n47 n49 n51 n53 n55 n57 n59 n61)), J 0]), σ45))
 else none
noncomputable def gate_New_c {O : Type} (k130 k136 : Sm O) : Sm O := gate_New_p fastWords k130 k136
noncomputable def gate_New {O : Type} : Sm O := gate_New_c control_Right control_Begin
theorem gate_New_ent : Entered Tryz.prog 86 := Tryz.call86
theorem gate_New_run {O : Type} (k130 k136 : Sm O) : run (O := O) Tryz.prog [(130, k130), (136, k136)] Tryz.f86 (.n .z (.n (.n .z (.n .x .z)) (.n (.d [] [0, 1, 2, 3, 4, 5] [0, 0, 2, 7, 15, 31]) .z))) = gate_New_c k130 k136 :=
 (show run (O := O) Tryz.prog [(130, k130), (136, k136)] Tryz.f86 (.n .z (.n (.n .z (.n .x .z)) (.n (.d [] [0, 1, 2, 3, 4, 5] [0, 0, 2, 7, 15, 31]) .z))) = gate_New_p slowWords k130 k136 by kernel_rfl).trans (congrArg (fun w => gate_New_p w k130 k136) words_eq)
theorem gate_New_sound {O : Type} {RO : O → Loc → (Nat → Option Obj) → Prop} : FSound RO Tryz.prog 86 (gate_New) :=
   have h : FSound RO Tryz.prog 86 (gate_New_c control_Right control_Begin) := (gate_New_run control_Right control_Begin) ▸ run_sound (gcons control_Right_ent (control_Right_sound) <| gcons control_Begin_ent (control_Begin_sound) <| gnil) mixed Tryz.func86 (by kernel_rfl) _
   h

/-- haymow/sites.New -/
noncomputable def sites_New_c {O : Type} : Sm O := fun xs σ =>
 bif Nat.beq xs.length 1 then
 (AV.asI .i64 (xs.getD 0 .u)).bind fun n0 =>
 ((bif ((decide (n0 < 1)) == false) then
 some ([(.b (decide (n0 > 32)))], σ)
 else some ([(.b true)], σ)) : Option (List AV × AH O)).bind fun r1 =>
 (AV.asB (r1.1.getD 0 .u)).bind fun b2 =>
 (bif b2 then
 none
 else let σ3 := r1.2.bump 1
 let σ4 := σ3.put r1.2.next (.cells true 277 (P2 n0 0 0 0 0 0 0 0 0 0 0 0 0 0 0 0 0 0 0 0 0 0 0 0 0 0 0 0 0 0 0 0 0 0 0 0 0 0 0 0 0 0 0 0 0 0 0 0 0 0 0 0 0 0 0 0 0 0 0 0 0 0 0 0 0))
 some ((.tup [(.p (some ((.n r1.2.next), 0))), J 0]), σ4))
 else none
noncomputable def sites_New {O : Type} : Sm O := sites_New_c
theorem sites_New_ent : Entered Tryz.prog 87 := Tryz.call87
theorem sites_New_run {O : Type} : run (O := O) Tryz.prog [] Tryz.f87 (.n .z (.n (.n (.g [(2, 2, [(9, .one .b)])]) (.n .x .z)) .z)) = sites_New_c  := by kernel_rfl
theorem sites_New_sound {O : Type} {RO : O → Loc → (Nat → Option Obj) → Prop} : FSound RO Tryz.prog 87 (sites_New) :=
   have h : FSound RO Tryz.prog 87 (sites_New_c) := (sites_New_run) ▸ run_sound (gnil) mixed Tryz.func87 (by kernel_rfl) _
   h

/-- haymow/survive.New -/
noncomputable def survive_New_c {O : Type} : Sm O := fun xs σ =>
 bif Nat.beq xs.length 0 then
 let σ0 := σ.bump 1
 let σ1 := σ0.put σ.next (.cells true 279 P3)
 some ((.p (some ((.n σ.next), 0))), σ1)
 else none
noncomputable def survive_New {O : Type} : Sm O := survive_New_c
theorem survive_New_ent : Entered Tryz.prog 88 := Tryz.call88
theorem survive_New_run {O : Type} : run (O := O) Tryz.prog [] Tryz.f88 (.n .z .z) = survive_New_c  := by kernel_rfl
theorem survive_New_sound {O : Type} {RO : O → Loc → (Nat → Option Obj) → Prop} : FSound RO Tryz.prog 88 (survive_New) :=
   have h : FSound RO Tryz.prog 88 (survive_New_c) := (survive_New_run) ▸ run_sound (gnil) mixed Tryz.func88 (by kernel_rfl) _
   h

/-- haymow/census.New -/
noncomputable def census_New_c {O : Type} : Sm O := fun xs σ =>
 bif Nat.beq xs.length 0 then
 let σ0 := σ.bump 2
 let σ1 := σ0.put σ.next (.map [])
 let σ2 := σ1.put (σ.next + 1) (.cells true 282 [(.mp (some σ.next))])
 some ((.p (some ((.n (σ.next + 1)), 0))), σ2)
 else none
noncomputable def census_New {O : Type} : Sm O := census_New_c
theorem census_New_ent : Entered Tryz.prog 89 := Tryz.call89
theorem census_New_run {O : Type} : run (O := O) Tryz.prog [] Tryz.f89 (.n .z .z) = census_New_c  := by kernel_rfl
theorem census_New_sound {O : Type} {RO : O → Loc → (Nat → Option Obj) → Prop} : FSound RO Tryz.prog 89 (census_New) :=
   have h : FSound RO Tryz.prog 89 (census_New_c) := (census_New_run) ▸ run_sound (gnil) mixed Tryz.func89 (by kernel_rfl) _
   h

/-- haymow/heap.New -/
noncomputable def heap_New_p {O : Type} (w : Words O) (k82 k83 k85 k84 k86 k87 k88 k89 : Sm O) : Sm O := fun xs σ =>
 bif Nat.beq xs.length 1 then
 (AV.asAgg 5 (xs.getD 0 .u)).bind fun c0 =>
 I6 c0 0 fun n1 => I6 c0 1 fun n2 => I6 c0 2 fun n3 => I6 c0 3 fun n4 => I6 c0 4 fun n5 => let σ6 := σ.bump 1
 let σ7 := σ6.put σ.next (.cells true 47 [J n1, J n2, J n3, J n4, J n5])
 (σ7.ld (.n σ.next) 0).bind fun w8 =>
 (AV.asI .i64 w8).bind fun n9 =>
 (σ7.ld (.n σ.next) 1).bind fun w10 =>
 (AV.asI .i64 w10).bind fun n11 =>
 (σ7.ld (.n σ.next) 2).bind fun w12 =>
 (AV.asI .i64 w12).bind fun n13 =>
 (σ7.ld (.n σ.next) 3).bind fun w14 =>
 (AV.asI .i64 w14).bind fun n15 =>
 (σ7.ld (.n σ.next) 4).bind fun w16 =>
 (AV.asI .i64 w16).bind fun n17 =>
 (k82 [(.agg [J n9, J n11, J n13, J n15, J n17])] σ7).bind fun r18 =>
 (AV.asI .i64 r18.1).bind fun n19 =>
 (bif ((n19 : Int) != 0) then
 none
 else (r18.2.ld (.n σ.next) 2).bind fun w20 =>
 (AV.asI .i64 w20).bind fun n21 =>
 (r18.2.ld (.n σ.next) 1).bind fun w22 =>
 (AV.asI .i64 w22).bind fun n23 =>
 (k83 [J n21, J n23] r18.2).bind fun r24 =>
 (AV.asTup 2 r24.1).bind fun c25 =>
 (AV.asP (c25.getD 0 .u)).bind fun p26 =>
 I6 c25 1 fun n27 => (bif ((n27 : Int) != 0) then
 none
 else (k85 [(.p p26)] r24.2).bind fun r28 =>
 (AV.asP r28.1).bind fun p29 =>
 (k84 [(.p p29)] r28.2).bind fun r30 =>
 (AV.asTup 2 r30.1).bind fun c31 =>
 (AV.asP (c31.getD 0 .u)).bind fun p32 =>
 I6 c31 1 fun n33 => (bif ((n33 : Int) != 0) then
 none
 else let σ34 := r30.2.bump 1
 (σ34.ld (.n σ.next) 0).bind fun w35 =>
 (AV.asI .i64 w35).bind fun n36 =>
 (σ34.ld (.n σ.next) 1).bind fun w37 =>
 (AV.asI .i64 w37).bind fun n38 =>
 (σ34.ld (.n σ.next) 2).bind fun w39 =>
 (AV.asI .i64 w39).bind fun n40 =>
 (σ34.ld (.n σ.next) 3).bind fun w41 =>
 (AV.asI .i64 w41).bind fun n42 =>
 (σ34.ld (.n σ.next) 4).bind fun w43 =>
 (AV.asI .i64 w43).bind fun n44 =>
 (k86 [(.agg [J n36, J n38, J n40, J n42, J n44])] σ34).bind fun r45 =>
 (AV.asTup 2 r45.1).bind fun c46 =>
 (AV.asAgg 8 (c46.getD 0 .u)).bind fun c47 =>
 w.U0 c47 fun n48 n49 n50 n51 n52 n53 n54 n55 =>
 I6 c46 1 fun n56 => let σ57 := r45.2.put r30.2.next (.cells true 148 P0)
 (σ57.st (.n r30.2.next) 0 (P1 n48 n49 n50 n51 n52 n53 n54 n55)).bind fun σ58 =>
 (bif ((n56 : Int) != 0) then
 none
 else (σ58.ld (.n σ.next) 3).bind fun w59 =>
 (AV.asI .i64 w59).bind fun n60 =>
 (k87 [J n60] σ58).bind fun r61 =>
 (AV.asTup 2 r61.1).bind fun c62 =>
 (AV.asP (c62.getD 0 .u)).bind fun p63 =>
 I6 c62 1 fun n64 => (bif ((n64 : Int) != 0) then
 none
 else let σ65 := r61.2.bump 1
 (σ65.ld (.n σ.next) 0).bind fun w66 =>
 (AV.asI .i64 w66).bind fun n67 =>
 (σ65.ld (.n σ.next) 1).bind fun w68 =>
 (AV.asI .i64 w68).bind fun n69 =>
 (σ65.ld (.n σ.next) 2).bind fun w70 =>
 (AV.asI .i64 w70).bind fun n71 =>
 (σ65.ld (.n σ.next) 3).bind fun w72 =>
 (AV.asI .i64 w72).bind fun n73 =>
 (σ65.ld (.n σ.next) 4).bind fun w74 =>
 (AV.asI .i64 w74).bind fun n75 =>
 w.W0 σ65 (.n r30.2.next) 0 fun n77 n79 n81 n83 n85 n87 n89 n91 =>
 (k88 [] σ65).bind fun r92 =>
 (AV.asP r92.1).bind fun p93 =>
 (chkE (r92.2.ld (.n σ.next) 0) (some (.i .i64 n67))).bind fun _ =>
 (chkE (r92.2.ld (.n σ.next) 1) (some (.i .i64 n69))).bind fun _ =>
 (chkE (r92.2.ld (.n σ.next) 2) (some (.i .i64 n71))).bind fun _ =>
 (chkE (r92.2.ld (.n σ.next) 3) (some (.i .i64 n73))).bind fun _ =>
 (chkE (r92.2.ld (.n σ.next) 4) (some (.i .i64 n75))).bind fun _ =>
 (chkE (r92.2.ld (.n r30.2.next) 0) (some (.i .i64 n77))).bind fun _ =>
 (chkE (r92.2.ld (.n r30.2.next) 1) (some (.i .i64 n79))).bind fun _ =>
 (chkE (r92.2.ld (.n r30.2.next) 2) (some (.i .i64 n81))).bind fun _ =>
 (chkE (r92.2.ld (.n r30.2.next) 3) (some (.i .i64 n83))).bind fun _ =>
 (chkE (r92.2.ld (.n r30.2.next) 4) (some (.i .i64 n85))).bind fun _ =>
 (chkE (r92.2.ld (.n r30.2.next) 5) (some (.i .i64 n87))).bind fun _ =>
 (chkE (r92.2.ld (.n r30.2.next) 6) (some (.i .i64 n89))).bind fun _ =>
 (chkE (r92.2.ld (.n r30.2.next) 7) (some (.i .i64 n91))).bind fun _ =>
 let σ94 := r92.2.put r61.2.next (.cells true 165 [J n67, J n69, J n71, J n73, J n75, (.p p26), (.p p32), J n77, J n79, J n81, J n83, J n85, J n87, J n89, J n91, (.i .u64 0), (.i .u64 0), (.i .u64 0), (.i .u64 0), (.p p63), (.p p93), J 0, J 0, J 0, J 0, J 0, J 0, J 0, (.i .u64 0), (.i .u64 0), (.p none), J 0, J 0, J 0, J 0, J 0, J 0, J 0, J 0, J 0])
 (k89 [] σ94).bind fun r95 =>
 (AV.asP r95.1).bind fun p96 =>
 (r95.2.st (.n r61.2.next) 30 [(.p p96)]).bind fun σ97 =>
 some ((.tup [(.p (some ((.n r61.2.next), 0))), J 0]), σ97))))))
 else none
noncomputable def heap_New_c {O : Type} (k82 k83 k85 k84 k86 k87 k88 k89 : Sm O) : Sm O := heap_New_p fastWords k82 k83 k85 k84 k86 k87 k88 k89
noncomputable def heap_New {O : Type} : Sm O := heap_New_c config_Check store_New store_Store__Mem roots_New gate_New sites_New survive_New census_New
theorem heap_New_ent : Entered Tryz.prog 47 := Tryz.call47
theorem heap_New_run {O : Type} (k82 k83 k85 k84 k86 k87 k88 k89 : Sm O) : run (O := O) Tryz.prog [(82, k82), (83, k83), (85, k85), (84, k84), (86, k86), (87, k87), (88, k88), (89, k89)] Tryz.f47 (.n .z (.n (.n .z (.n .z (.n .x .z))) (.n .z (.n (.n .z (.n .x .z)) (.n .z (.n (.n .z (.n .x .z)) (.n .z (.n (.n .z (.n .x .z)) (.n .z (.n (.n .z (.n .x .z)) (.n (.d [] [0, 1, 2, 3, 4, 5, 6, 7, 8] [0, 0, 0, 0, 0, 0, 63, 127, 255]) (.n .z .z)))))))))))) = heap_New_c k82 k83 k85 k84 k86 k87 k88 k89 :=
 (show run (O := O) Tryz.prog [(82, k82), (83, k83), (85, k85), (84, k84), (86, k86), (87, k87), (88, k88), (89, k89)] Tryz.f47 (.n .z (.n (.n .z (.n .z (.n .x .z))) (.n .z (.n (.n .z (.n .x .z)) (.n .z (.n (.n .z (.n .x .z)) (.n .z (.n (.n .z (.n .x .z)) (.n .z (.n (.n .z (.n .x .z)) (.n (.d [] [0, 1, 2, 3, 4, 5, 6, 7, 8] [0, 0, 0, 0, 0, 0, 63, 127, 255]) (.n .z .z)))))))))))) = heap_New_p slowWords k82 k83 k85 k84 k86 k87 k88 k89 by kernel_rfl).trans (congrArg (fun w => heap_New_p w k82 k83 k85 k84 k86 k87 k88 k89) words_eq)
theorem heap_New_sound {O : Type} {RO : O → Loc → (Nat → Option Obj) → Prop} : FSound RO Tryz.prog 47 (heap_New) :=
   have h : FSound RO Tryz.prog 47 (heap_New_c config_Check store_New store_Store__Mem roots_New gate_New sites_New survive_New census_New) := (heap_New_run config_Check store_New store_Store__Mem roots_New gate_New sites_New survive_New census_New) ▸ run_sound (gcons config_Check_ent (config_Check_sound) <| gcons store_New_ent (store_New_sound) <| gcons store_Store__Mem_ent (store_Store__Mem_sound) <| gcons roots_New_ent (roots_New_sound) <| gcons gate_New_ent (gate_New_sound) <| gcons sites_New_ent (sites_New_sound) <| gcons survive_New_ent (survive_New_sound) <| gcons census_New_ent (census_New_sound) <| gnil) mixed Tryz.func47 (by kernel_rfl) _
   h

/-- (*haymow/heap.Heap).Space -/
noncomputable def heap_Heap__Space_c {O : Type} : Sm O := fun xs σ =>
 bif Nat.beq xs.length 1 then
 (AV.asP (xs.getD 0 .u)).bind fun p0 =>
 Option.bind p0 fun q1 =>
 (σ.ld q1.1 (q1.2 + 5)).bind fun w2 =>
 (AV.asP w2).bind fun p3 =>
 some ((.p p3), σ)
 else none
noncomputable def heap_Heap__Space {O : Type} : Sm O := heap_Heap__Space_c
theorem heap_Heap__Space_ent : Entered Tryz.prog 42 := Tryz.call42
theorem heap_Heap__Space_run {O : Type} : run (O := O) Tryz.prog [] Tryz.f42 (.n .z .z) = heap_Heap__Space_c  := by kernel_rfl
theorem heap_Heap__Space_sound {O : Type} {RO : O → Loc → (Nat → Option Obj) → Prop} : FSound RO Tryz.prog 42 (heap_Heap__Space) :=
   have h : FSound RO Tryz.prog 42 (heap_Heap__Space_c) := (heap_Heap__Space_run) ▸ run_sound (gnil) mixed Tryz.func42 (by kernel_rfl) _
   h

/-- (*haymow/heap.Heap).Roots -/
noncomputable def heap_Heap__Roots_c {O : Type} : Sm O := fun xs σ =>
 bif Nat.beq xs.length 1 then
 (AV.asP (xs.getD 0 .u)).bind fun p0 =>
 Option.bind p0 fun q1 =>
 (σ.ld q1.1 (q1.2 + 6)).bind fun w2 =>
 (AV.asP w2).bind fun p3 =>
 some ((.p p3), σ)
 else none
noncomputable def heap_Heap__Roots {O : Type} : Sm O := heap_Heap__Roots_c
theorem heap_Heap__Roots_ent : Entered Tryz.prog 48 := Tryz.call48
theorem heap_Heap__Roots_run {O : Type} : run (O := O) Tryz.prog [] Tryz.f48 (.n .z .z) = heap_Heap__Roots_c  := by kernel_rfl
theorem heap_Heap__Roots_sound {O : Type} {RO : O → Loc → (Nat → Option Obj) → Prop} : FSound RO Tryz.prog 48 (heap_Heap__Roots) :=
   have h : FSound RO Tryz.prog 48 (heap_Heap__Roots_c) := (heap_Heap__Roots_run) ▸ run_sound (gnil) mixed Tryz.func48 (by kernel_rfl) _
   h

/-- haymow/haymowref18.New -/
noncomputable def haymowref18_New_c {O : Type} : Sm O := fun xs σ =>
 bif Nat.beq xs.length 0 then
 let σ0 := σ.bump 1
 let σ1 := σ0.put σ.next (.cells true 55 [J 0, N, N, J 0, N])
 (σ1.st (.n σ.next) 0 [J 3, N, N, J 0, N]).bind fun σ2 =>
 (σ2.ld (.n σ.next) 0).bind fun w3 =>
 (AV.asI .i64 w3).bind fun n4 =>
 (σ2.ld (.n σ.next) 1).bind fun w5 =>
 (AV.asSl w5).bind fun l6 =>
 (σ2.ld (.n σ.next) 2).bind fun w7 =>
 (AV.asSl w7).bind fun l8 =>
 (σ2.ld (.n σ.next) 3).bind fun w9 =>
 (AV.asI .i64 w9).bind fun n10 =>
 (σ2.ld (.n σ.next) 4).bind fun w11 =>
 (AV.asSl w11).bind fun l12 =>
 some ((.agg [J n4, L l6, L l8, J n10, L l12]), σ2)
 else none
noncomputable def haymowref18_New {O : Type} : Sm O := haymowref18_New_c
theorem haymowref18_New_ent : Entered Tryz.prog 137 := Tryz.call137
theorem haymowref18_New_run {O : Type} : run (O := O) Tryz.prog [] Tryz.f137 (.n .z .z) = haymowref18_New_c  := by kernel_rfl
theorem haymowref18_New_sound {O : Type} {RO : O → Loc → (Nat → Option Obj) → Prop} : FSound RO Tryz.prog 137 (haymowref18_New) :=
   have h : FSound RO Tryz.prog 137 (haymowref18_New_c) := (haymowref18_New_run) ▸ run_sound (gnil) mixed Tryz.func137 (by kernel_rfl) _
   h

/-- haymow/haymowref19.New -/
noncomputable def haymowref19_New_p {O : Type} (w : Words O) (k137 : Sm O) : Sm O := fun xs σ =>
 bif Nat.beq xs.length 0 then
 let σ0 := σ.bump 1
 let σ1 := σ0.put σ.next (.cells true 57 P4)
 (k137 [] σ1).bind fun r2 =>
 (AV.asAgg 5 r2.1).bind fun c3 =>
 I6 c3 0 fun n4 => Is c3 1 fun l5 => Is c3 2 fun l6 => I6 c3 3 fun n7 => Is c3 4 fun l8 => (k137 [] r2.2).bind fun r9 =>
 (AV.asAgg 5 r9.1).bind fun c10 =>
 I6 c10 0 fun n11 => Is c10 1 fun l12 => Is c10 2 fun l13 => I6 c10 3 fun n14 => Is c10 4 fun l15 => (r9.2.st (.n σ.next) 0 (P5 n4 l5 l6 n7 l8 n11 l12 l13 n14 l15)).bind fun σ16 =>
 w.W1 σ16 (.n σ.next) 0 fun l18 n20 l22 l24 n26 l28 n30 l32 l34 n36 l38 =>
 some ((.agg (P6 l18 n20 l22 l24 n26 l28 n30 l32 l34 n36 l38)), σ16)
 else none
noncomputable def haymowref19_New_c {O : Type} (k137 : Sm O) : Sm O := haymowref19_New_p fastWords k137
noncomputable def haymowref19_New {O : Type} : Sm O := haymowref19_New_c haymowref18_New
theorem haymowref19_New_ent : Entered Tryz.prog 90 := Tryz.call90
theorem haymowref19_New_run {O : Type} (k137 : Sm O) : run (O := O) Tryz.prog [(137, k137)] Tryz.f90 (.n .z .z) = haymowref19_New_c k137 :=
 (show run (O := O) Tryz.prog [(137, k137)] Tryz.f90 (.n .z .z) = haymowref19_New_p slowWords k137 by kernel_rfl).trans (congrArg (fun w => haymowref19_New_p w k137) words_eq)
theorem haymowref19_New_sound {O : Type} {RO : O → Loc → (Nat → Option Obj) → Prop} : FSound RO Tryz.prog 90 (haymowref19_New) :=
   have h : FSound RO Tryz.prog 90 (haymowref19_New_c haymowref18_New) := (haymowref19_New_run haymowref18_New) ▸ run_sound (gcons haymowref18_New_ent (haymowref18_New_sound) <| gnil) mixed Tryz.func90 (by kernel_rfl) _
   h

/-- haymow/haymowref33.New -/
noncomputable def haymowref33_New_p {O : Type} (w : Words O) (k90 : Sm O) : Sm O := fun xs σ =>
 bif Nat.beq xs.length 1 then
 (AV.asAgg 5 (xs.getD 0 .u)).bind fun c0 =>
 I6 c0 0 fun n1 => I6 c0 1 fun n2 => I6 c0 2 fun n3 => I6 c0 3 fun n4 => I6 c0 4 fun n5 => let σ6 := σ.bump 2
 let σ7 := σ6.put σ.next (.cells true 47 [J n1, J n2, J n3, J n4, J n5])
 let σ8 := σ7.put (σ.next + 1) (.cells true 67 P7)
 let σ9 := σ8.bump 1
 (σ9.ld (.n σ.next) 0).bind fun w10 =>
 (AV.asI .i64 w10).bind fun n11 =>
 (σ9.ld (.n σ.next) 1).bind fun w12 =>
 (AV.asI .i64 w12).bind fun n13 =>
 (σ9.ld (.n σ.next) 2).bind fun w14 =>
 (AV.asI .i64 w14).bind fun n15 =>
 (σ9.ld (.n σ.next) 3).bind fun w16 =>
 (AV.asI .i64 w16).bind fun n17 =>
 (σ9.ld (.n σ.next) 4).bind fun w18 =>
 (AV.asI .i64 w18).bind fun n19 =>
 (σ9.ld (.n σ.next) 0).bind fun w20 =>
 (AV.asI .i64 w20).bind fun n21 =>
 (σ9.ld (.n σ.next) 1).bind fun w22 =>
 (AV.asI .i64 w22).bind fun n23 =>
 (σ9.ld (.n σ.next) 2).bind fun w24 =>
 (AV.asI .i64 w24).bind fun n25 =>
 (σ9.ld (.n σ.next) 3).bind fun w26 =>
 (AV.asI .i64 w26).bind fun n27 =>
 (σ9.ld (.n σ.next) 4).bind fun w28 =>
 (AV.asI .i64 w28).bind fun n29 =>
 (σ9.ld (.n σ.next) 1).bind fun w30 =>
 (AV.asI .i64 w30).bind fun n31 =>
 (σ9.ld (.n σ.next) 3).bind fun w32 =>
 (AV.asI .i64 w32).bind fun n33 =>
 (k90 [] σ9).bind fun r34 =>
 (AV.asAgg 11 r34.1).bind fun c35 =>
 w.U1 c35 fun l36 n37 l38 l39 n40 l41 n42 l43 l44 n45 l46 =>
 (chkE (r34.2.ld (.n σ.next) 0) (some (.i .i64 n11))).bind fun _ =>
 (chkE (r34.2.ld (.n σ.next) 1) (some (.i .i64 n13))).bind fun _ =>
 (chkE (r34.2.ld (.n σ.next) 2) (some (.i .i64 n15))).bind fun _ =>
 (chkE (r34.2.ld (.n σ.next) 3) (some (.i .i64 n17))).bind fun _ =>
 (chkE (r34.2.ld (.n σ.next) 4) (some (.i .i64 n19))).bind fun _ =>
 (chkE (r34.2.ld (.n σ.next) 0) (some (.i .i64 n21))).bind fun _ =>
 (chkE (r34.2.ld (.n σ.next) 1) (some (.i .i64 n23))).bind fun _ =>
 (chkE (r34.2.ld (.n σ.next) 2) (some (.i .i64 n25))).bind fun _ =>
 (chkE (r34.2.ld (.n σ.next) 3) (some (.i .i64 n27))).bind fun _ =>
 (chkE (r34.2.ld (.n σ.next) 4) (some (.i .i64 n29))).bind fun _ =>
 (chkE (r34.2.ld (.n σ.next) 1) (some (.i .i64 n31))).bind fun _ =>
 (chkE (r34.2.ld (.n σ.next) 3) (some (.i .i64 n33))).bind fun _ =>
 (bif ((((decide ((0 : Int) ≤ n33)) && (decide (n33 ≤ n33))) && (decide ((n33 * 16) ≤ 140737488355328))) && (decide (n33 ≤ 140737488355328))) then
 let σ47 := r34.2.put σ8.next (.cells true 447 ((List.replicate n33.toNat [J 0, J 0]).flatten))
 (σ47.st (.n (σ.next + 1)) 0 [J n11, J n13, J n15, J n17, J n19, N, L l36, J n37, L l38, L l39, J n40, L l41, J n42, L l43, L l44, J n45, L l46, J n21, J n23, J n25, J n27, J n29, J n31, J 0, J 0, J 0, J 0, J 0, J 0, J 0, J 0, J 0, J 0, (.sl (.loc (.n σ8.next) 0 2) n33.toNat), J 0, J 0, J 0, J 0, J 0, J 0, J 0, J 0, J 0, J 0, J 0, J 0, J 0, J 0, J 0, J 0, J 0, J 0, J 0, J 0, J 0, J 0, J 0, J 0, J 0, J 0, J 0, J 0, J 0, J 0, J 0, J 0, J 0, J 0, J 0, J 0, J 0, J 0, J 0, J 0, J 0, J 0, J 0, J 0, J 0, J 0, J 0, J 0, J 0, J 0, J 0, J 0, J 0, J 0, J 0, J 0, J 0, J 0, J 0, J 0, J 0, J 0, J 0, J 0, J 0, J 0, J 0, J 0, J 0, J 0, J 0, J 0, J 0, J 0, J 0, J 0, J 0, J 0, J 0, J 0, J 0, J 0, J 0, J 0, J 0, J 0, J 0, J 0, J 0, J 0, J 0, J 0, J 0, J 0, J 0, J 0, J 0, J 0, J 0, J 0, J 0, J 0, J 0, J 0, J 0, J 0, J 0, J 0, J 0, J 0, J 0, J 0, J 0, J 0, J 0, J 0, J 0, J 0, J 0, J 0, J 0, J 0, J 0, J 0, J 0, J 0, J 0, J 0, J 0, J 0, J 0, J 0, J 0, J 0, J 0, J 0, J 0, J 0, J 0, J 0, J 0, J 0, J 0, J 0, J 0, J 0, J 0, J 0, J 0, J 0, J 0, J 0, J 0, J 0, J 0, J 0, J 0, J 0, J 0, J 0, J 0, J 0, J 0, J 0, J 0, J 0, J 0, J 0, J 0, J 0, J 0, J 0, J 0, J 0, J 0, J 0, J 0, J 0, J 0, J 0, J 0, J 0, J 0, J 0, J 0, J 0, J 0, J 0, J 0, J 0, J 0, J 0, J 0, J 0, J 0, J 0, J 0, J 0, J 0, J 0, J 0, J 0, J 0, J 0, J 0, J 0, J 0, J 0, J 0, J 0, J 0, J 0, J 0, J 0, J 0, J 0, J 0, J 0, J 0, J 0, J 0, J 0, J 0, J 0, N, J 0, J 0, J 0, J 0, J 0]).bind fun σ48 =>
 w.W2 σ48 (.n (σ.next + 1)) 0 fun n50 n52 n54 n56 n58 l60 l62 n64 l66 l68 n70 l72 n74 l76 l78 n80 l82 n84 n86 n88 n90 n92 n94 n96 n98 n100 n102 n104 n106 n108 n110 n112 n114 l116 n118 n120 n122 n124 n126 n128 n130 n132 n134 n136 n138 n140 n142 n144 n146 n148 n150 n152 n154 n156 n158 n160 n162 n164 n166 n168 n170 n172 n174 n176 n178 n180 n182 n184 n186 n188 n190 n192 n194 n196 n198 n200 n202 n204 n206 n208 n210 n212 n214 n216 n218 n220 n222 n224 n226 n228 n230 n232 n234 n236 n238 n240 n242 n244 n246 n248 n250 n252 n254 n256 n258 n260 n262 n264 n266 n268 n270 n272 n274 n276 n278 n280 n282 n284 n286 n288 n290 n292 n294 n296 n298 n300 n302 n304 n306 n308 n310 n312 n314 n316 n318 n320 n322 n324 n326 n328 n330 n332 n334 n336 n338 n340 n342 n344 n346 n348 n350 n352 n354 n356 n358 n360 n362 n364 n366 n368 n370 n372 n374 n376 n378 n380 n382 n384 n386 n388 n390 n392 n394 n396 n398 n400 n402 n404 n406 n408 n410 n412 n414 n416 n418 n420 n422 n424 n426 n428 n430 n432 n434 n436 n438 n440 n442 n444 n446 n448 n450 n452 n454 n456 n458 n460 n462 n464 n466 n468 n470 n472 n474 n476 n478 n480 n482 n484 n486 n488 n490 n492 n494 n496 n498 n500 n502 n504 n506 n508 n510 n512 n514 n516 n518 n520 n522 n524 n526 n528 n530 n532 n534 n536 n538 n540 n542 n544 n546 n548 n550 n552 n554 n556 n558 n560 n562 n564 l566 n568 n570 n572 n574 n576 =>
 some ((.agg (P8 n50 n52 n54 n56 n58 l60 l62 n64 l66 l68 n70 l72 n74 l76 l78 n80 l82 n84 n86 n88 n90 n92 n94 n96 n98 n100 n102 n104 n106 n108 n110 n112 n114 l116 n118 n120 n122 n124 n126 n128 n130 n132 n134 n136 n138 n140 n142 n144 n146 n148 n150 n152 n154 n156 n158 n160 n162 n164 n166 n168 n170 n172 n174 n176 n178 n180 n182 n184 n186 n188 n190 n192 n194 n196 n198 n200 n202 n204 n206 n208 n210 n212 n214 n216 n218 n220 n222 n224 n226 n228 n230 n232 n234 n236 n238 n240 n242 n244 n246 n248 n250 n252 n254 n256 n258 n260 n262 n264 n266 n268 n270 n272 n274 n276 n278 n280 n282 n284 n286 n288 n290 n292 n294 n296 n298 n300 n302 n304 n306 n308 n310 n312 n314 n316 n318 n320 n322 n324 n326 n328 n330 n332 n334 n336 n338 n340 n342 n344 n346 n348 n350 n352 n354 n356 n358 n360 n362 n364 n366 n368 n370 n372 n374 n376 n378 n380 n382 n384 n386 n388 n390 n392 n394 n396 n398 n400 n402 n404 n406 n408 n410 n412 n414 n416 n418 n420 n422 n424 n426 n428 n430 n432 n434 n436 n438 n440 n442 n444 n446 n448 n450 n452 n454 n456 n458 n460 n462 n464 n466 n468 n470 n472 n474 n476 n478 n480 n482 n484 n486 n488 n490 n492 n494 n496 n498 n500 n502 n504 n506 n508 n510 n512 n514 n516 n518 n520 n522 n524 n526 n528 n530 n532 n534 n536 n538 n540 n542 n544 n546 n548 n550 n552 n554 n556 n558 n560 n562 n564 l566 n568 n570 n572 n574 n576)), σ48)
 else none)
 else none
noncomputable def haymowref33_New_c {O : Type} (k90 : Sm O) : Sm O := haymowref33_New_p fastWords k90
noncomputable def haymowref33_New {O : Type} : Sm O := haymowref33_New_c haymowref19_New
theorem haymowref33_New_ent : Entered Tryz.prog 49 := Tryz.call49
theorem haymowref33_New_run {O : Type} (k90 : Sm O) : run (O := O) Tryz.prog [(90, k90)] Tryz.f49 (.n .z (.n (.d [] [0, 2, 3, 4, 5, 6, 7, 1, 8, 9, 10] [0, 0, 0, 0, 8, 28, 0, 64, 192, 511, 1023]) .z)) = haymowref33_New_c k90 :=
 (show run (O := O) Tryz.prog [(90, k90)] Tryz.f49 (.n .z (.n (.d [] [0, 2, 3, 4, 5, 6, 7, 1, 8, 9, 10] [0, 0, 0, 0, 8, 28, 0, 64, 192, 511, 1023]) .z)) = haymowref33_New_p slowWords k90 by kernel_rfl).trans (congrArg (fun w => haymowref33_New_p w k90) words_eq)
theorem haymowref33_New_sound {O : Type} {RO : O → Loc → (Nat → Option Obj) → Prop} : FSound RO Tryz.prog 49 (haymowref33_New) :=
   have h : FSound RO Tryz.prog 49 (haymowref33_New_c haymowref19_New) := (haymowref33_New_run haymowref19_New) ▸ run_sound (gcons haymowref19_New_ent (haymowref19_New_sound) <| gnil) mixed Tryz.func49 (by kernel_rfl) _
   h

/-- (*haymow/sites.Sites).Count -/
noncomputable def sites_Sites__Count_c {O : Type} : Sm O := fun xs σ =>
 bif Nat.beq xs.length 1 then
 (AV.asP (xs.getD 0 .u)).bind fun p0 =>
 (bif (Option.isNone p0) then
 none
 else Option.bind p0 fun q1 =>
 (σ.ld q1.1 q1.2).bind fun w2 =>
 (AV.asI .i64 w2).bind fun n3 =>
 some (J n3, σ))
 else none
noncomputable def sites_Sites__Count {O : Type} : Sm O := sites_Sites__Count_c
theorem sites_Sites__Count_ent : Entered Tryz.prog 404 := Tryz.call404
theorem sites_Sites__Count_run {O : Type} : run (O := O) Tryz.prog [] Tryz.f404 (.n .z (.n (.n .z (.n .x .z)) .z)) = sites_Sites__Count_c  := by kernel_rfl
theorem sites_Sites__Count_sound {O : Type} {RO : O → Loc → (Nat → Option Obj) → Prop} : FSound RO Tryz.prog 404 (sites_Sites__Count) :=
   have h : FSound RO Tryz.prog 404 (sites_Sites__Count_c) := (sites_Sites__Count_run) ▸ run_sound (gnil) mixed Tryz.func404 (by kernel_rfl) _
   h

/-- (*haymow/sites.Sites).Is -/
noncomputable def sites_Sites__Is_c {O : Type} (k404 : Sm O) : Sm O := fun xs σ =>
 bif Nat.beq xs.length 2 then
 (AV.asP (xs.getD 0 .u)).bind fun p0 =>
 (AV.asI .i64 (xs.getD 1 .u)).bind fun n1 =>
 ((bif ((decide (n1 ≥ 0)) == true) then
 (k404 [(.p p0)] σ).bind fun r2 =>
 (AV.asI .i64 r2.1).bind fun n3 =>
 some ([(.b (decide (n1 < n3)))], r2.2)
 else some ([(.b false)], σ)) : Option (List AV × AH O)).bind fun r4 =>
 (AV.asB (r4.1.getD 0 .u)).bind fun b5 =>
 some ((.b b5), r4.2)
 else none
noncomputable def sites_Sites__Is {O : Type} : Sm O := sites_Sites__Is_c sites_Sites__Count
theorem sites_Sites__Is_ent : Entered Tryz.prog 322 := Tryz.call322
theorem sites_Sites__Is_run {O : Type} (k404 : Sm O) : run (O := O) Tryz.prog [(404, k404)] Tryz.f322 (.n .z (.n (.g [(2, 4, [(12, .one .b)])]) .z)) = sites_Sites__Is_c k404 := by kernel_rfl
theorem sites_Sites__Is_sound {O : Type} {RO : O → Loc → (Nat → Option Obj) → Prop} : FSound RO Tryz.prog 322 (sites_Sites__Is) :=
   have h : FSound RO Tryz.prog 322 (sites_Sites__Is_c sites_Sites__Count) := (sites_Sites__Is_run sites_Sites__Count) ▸ run_sound (gcons sites_Sites__Count_ent (sites_Sites__Count_sound) <| gnil) mixed Tryz.func322 (by kernel_rfl) _
   h

/-- haymow/header.within -/
noncomputable def header_within_c {O : Type} : Sm O := fun xs σ =>
 bif Nat.beq xs.length 2 then
 (AV.asI .i64 (xs.getD 0 .u)).bind fun n0 =>
 (AV.asI .i64 (xs.getD 1 .u)).bind fun n1 =>
 ((bif ((decide (n0 ≥ 0)) == true) then
 some ([(.b (decide (n0 ≤ n1)))], σ)
 else some ([(.b false)], σ)) : Option (List AV × AH O)).bind fun r2 =>
 (AV.asB (r2.1.getD 0 .u)).bind fun b3 =>
 some ((.b b3), r2.2)
 else none
noncomputable def header_within {O : Type} : Sm O := header_within_c
theorem header_within_ent : Entered Tryz.prog 61 := Tryz.call61
theorem header_within_run {O : Type} : run (O := O) Tryz.prog [] Tryz.f61 (.n .z (.n (.g [(2, 3, [(11, .one .b)])]) .z)) = header_within_c  := by kernel_rfl
theorem header_within_sound {O : Type} {RO : O → Loc → (Nat → Option Obj) → Prop} : FSound RO Tryz.prog 61 (header_within) :=
   have h : FSound RO Tryz.prog 61 (header_within_c) := (header_within_run) ▸ run_sound (gnil) mixed Tryz.func61 (by kernel_rfl) _
   h

/-- haymow/header.Check -/
noncomputable def header_Check_c {O : Type} (k61 : Sm O) : Sm O := fun xs σ =>
 bif Nat.beq xs.length 1 then
 (AV.asAgg 5 (xs.getD 0 .u)).bind fun c0 =>
 I6 c0 0 fun n1 => I6 c0 1 fun n2 => I6 c0 2 fun n3 => I6 c0 3 fun n4 => (AV.asB (c0.getD 4 .u)).bind fun b5 =>
 let σ6 := σ.bump 1
 let σ7 := σ6.put σ.next (.cells true 77 [J n1, J n2, J n3, J n4, (.b b5)])
 (σ7.ld (.n σ.next) 0).bind fun w8 =>
 (AV.asI .i64 w8).bind fun n9 =>
 (k61 [J n9, J 4095] σ7).bind fun r10 =>
 (AV.asB r10.1).bind fun b11 =>
 ((bif ((!b11) == false) then
 (r10.2.ld (.n σ.next) 1).bind fun w12 =>
 (AV.asI .i64 w12).bind fun n13 =>
 (k61 [J n13, J 4095] r10.2).bind fun r14 =>
 (AV.asB r14.1).bind fun b15 =>
 some ([(.b (!b15))], r14.2)
 else some ([(.b true)], r10.2)) : Option (List AV × AH O)).bind fun r16 =>
 (AV.asB (r16.1.getD 0 .u)).bind fun b17 =>
 (bif b17 then
 none
 else (r16.2.ld (.n σ.next) 2).bind fun w18 =>
 (AV.asI .i64 w18).bind fun n19 =>
 (k61 [J n19, J 31] r16.2).bind fun r20 =>
 (AV.asB r20.1).bind fun b21 =>
 (bif (!b21) then
 none
 else (r20.2.ld (.n σ.next) 3).bind fun w22 =>
 (AV.asI .i64 w22).bind fun n23 =>
 (k61 [J n23, J 7] r20.2).bind fun r24 =>
 (AV.asB r24.1).bind fun b25 =>
 (bif (!b25) then
 none
 else some (J 0, r24.2))))
 else none
noncomputable def header_Check {O : Type} : Sm O := header_Check_c header_within
theorem header_Check_ent : Entered Tryz.prog 27 := Tryz.call27
theorem header_Check_run {O : Type} (k61 : Sm O) : run (O := O) Tryz.prog [(61, k61)] Tryz.f27 (.n .z (.n (.n (.n (.g [(5, 5, [(15, .one .b)])]) (.n .x (.n .z (.n .x (.n .z (.n .x .z)))))) .z) .z)) = header_Check_c k61 := by kernel_rfl
theorem header_Check_sound {O : Type} {RO : O → Loc → (Nat → Option Obj) → Prop} : FSound RO Tryz.prog 27 (header_Check) :=
   have h : FSound RO Tryz.prog 27 (header_Check_c header_within) := (header_Check_run header_within) ▸ run_sound (gcons header_within_ent (header_within_sound) <| gnil) mixed Tryz.func27 (by kernel_rfl) _
   h

/-- haymow/shape.Right -/
noncomputable def shape_Right_c {O : Type} (k27 : Sm O) : Sm O := fun xs σ =>
 bif Nat.beq xs.length 1 then
 (AV.asAgg 2 (xs.getD 0 .u)).bind fun c0 =>
 I6 c0 0 fun n1 => I6 c0 1 fun n2 => let σ3 := σ.bump 1
 let σ4 := σ3.put σ.next (.cells true 75 [J n1, J n2])
 (σ4.ld (.n σ.next) 0).bind fun w5 =>
 (AV.asI .i64 w5).bind fun n6 =>
 (σ4.ld (.n σ.next) 1).bind fun w7 =>
 (AV.asI .i64 w7).bind fun n8 =>
 (k27 [(.agg [J n6, J n8, J 0, J 0, (.b false)])] σ4).bind fun r9 =>
 (AV.asI .i64 r9.1).bind fun n10 =>
 some ((.b ((n10 : Int) == 0)), r9.2)
 else none
noncomputable def shape_Right {O : Type} : Sm O := shape_Right_c header_Check
theorem shape_Right_ent : Entered Tryz.prog 104 := Tryz.call104
theorem shape_Right_run {O : Type} (k27 : Sm O) : run (O := O) Tryz.prog [(27, k27)] Tryz.f104 (.n .z .z) = shape_Right_c k27 := by kernel_rfl
theorem shape_Right_sound {O : Type} {RO : O → Loc → (Nat → Option Obj) → Prop} : FSound RO Tryz.prog 104 (shape_Right) :=
   have h : FSound RO Tryz.prog 104 (shape_Right_c header_Check) := (shape_Right_run header_Check) ▸ run_sound (gcons header_Check_ent (header_Check_sound) <| gnil) mixed Tryz.func104 (by kernel_rfl) _
   h

/-- (*haymow/pool.Pool).width -/
noncomputable def pool_Pool__width_c {O : Type} : Sm O := fun xs σ =>
 bif Nat.beq xs.length 1 then
 (AV.asP (xs.getD 0 .u)).bind fun p0 =>
 Option.bind p0 fun q1 =>
 (σ.ld q1.1 (q1.2 + 2)).bind fun w2 =>
 (AV.asI .i64 w2).bind fun n3 =>
 some ((.i .i64 (IntKind.i64.wrap (n3 + 1))), σ)
 else none
noncomputable def pool_Pool__width {O : Type} : Sm O := pool_Pool__width_c
theorem pool_Pool__width_ent : Entered Tryz.prog 293 := Tryz.call293
theorem pool_Pool__width_run {O : Type} : run (O := O) Tryz.prog [] Tryz.f293 (.n .z .z) = pool_Pool__width_c  := by kernel_rfl
theorem pool_Pool__width_sound {O : Type} {RO : O → Loc → (Nat → Option Obj) → Prop} : FSound RO Tryz.prog 293 (pool_Pool__width) :=
   have h : FSound RO Tryz.prog 293 (pool_Pool__width_c) := (pool_Pool__width_run) ▸ run_sound (gnil) mixed Tryz.func293 (by kernel_rfl) _
   h

/-- (*haymow/pool.Pool).at -/
noncomputable def pool_Pool__at_c {O : Type} (k293 : Sm O) : Sm O := fun xs σ =>
 bif Nat.beq xs.length 3 then
 (AV.asP (xs.getD 0 .u)).bind fun p0 =>
 (AV.asI .i64 (xs.getD 1 .u)).bind fun n1 =>
 (AV.asI .i64 (xs.getD 2 .u)).bind fun n2 =>
 (k293 [(.p p0)] σ).bind fun r3 =>
 (AV.asI .i64 r3.1).bind fun n4 =>
 let v5 : Int := (IntKind.i64.wrap ((IntKind.i64.wrap (n1 - 1)) * n4))
 let v6 : Int := (IntKind.i64.wrap ((IntKind.i64.wrap (v5 + 1)) + n2))
 some (J v6, r3.2)
 else none
noncomputable def pool_Pool__at {O : Type} : Sm O := pool_Pool__at_c pool_Pool__width
theorem pool_Pool__at_ent : Entered Tryz.prog 204 := Tryz.call204
theorem pool_Pool__at_run {O : Type} (k293 : Sm O) : run (O := O) Tryz.prog [(293, k293)] Tryz.f204 (.n .z .z) = pool_Pool__at_c k293 := by kernel_rfl
theorem pool_Pool__at_sound {O : Type} {RO : O → Loc → (Nat → Option Obj) → Prop} : FSound RO Tryz.prog 204 (pool_Pool__at) :=
   have h : FSound RO Tryz.prog 204 (pool_Pool__at_c pool_Pool__width) := (pool_Pool__at_run pool_Pool__width) ▸ run_sound (gcons pool_Pool__width_ent (pool_Pool__width_sound) <| gnil) mixed Tryz.func204 (by kernel_rfl) _
   h

/-- (*haymow/mem.Mem).at -/
noncomputable def mem_Mem__at_c {O : Type} : Sm O := fun xs σ =>
 bif Nat.beq xs.length 2 then
 (AV.asP (xs.getD 0 .u)).bind fun p0 =>
 (AV.asI .i64 (xs.getD 1 .u)).bind fun n1 =>
 ((bif ((decide (n1 < 0)) == false) then
 Option.bind p0 fun q2 =>
 (σ.ld q2.1 (q2.2 + 1)).bind fun w3 =>
 (AV.asSl w3).bind fun l4 =>
 some ([(.b (decide (n1 ≥ (l4.2 : Int))))], σ)
 else some ([(.b true)], σ)) : Option (List AV × AH O)).bind fun r5 =>
 (AV.asB (r5.1.getD 0 .u)).bind fun b6 =>
 ((bif (b6 == false) then
 Option.bind p0 fun q7 =>
 (r5.2.ld q7.1 (q7.2 + 1)).bind fun w8 =>
 (AV.asSl w8).bind fun l9 =>
 (bif ((decide ((0 : Int) ≤ n1)) && (decide (n1 < (l9.2 : Int)))) then
 (SA.ref l9.1).bind fun q10 =>
 (r5.2.ld q10.1 ((q10.2 + (n1.toNat * 2)) + 1)).bind fun w11 =>
 (AV.asB w11).bind fun b12 =>
 some ([(.b (!b12))], r5.2)
 else none)
 else some ([(.b true)], r5.2)) : Option (List AV × AH O)).bind fun r13 =>
 (AV.asB (r13.1.getD 0 .u)).bind fun b14 =>
 (bif b14 then
 none
 else Option.bind p0 fun q15 =>
 (r13.2.ld q15.1 (q15.2 + 1)).bind fun w16 =>
 (AV.asSl w16).bind fun l17 =>
 (bif ((decide ((0 : Int) ≤ n1)) && (decide (n1 < (l17.2 : Int)))) then
 (SA.ref l17.1).bind fun q18 =>
 some ((.p (some (q18.1, (q18.2 + (n1.toNat * 2))))), r13.2)
 else none))
 else none
noncomputable def mem_Mem__at {O : Type} : Sm O := mem_Mem__at_c
theorem mem_Mem__at_ent : Entered Tryz.prog 291 := Tryz.call291
theorem mem_Mem__at_run {O : Type} : run (O := O) Tryz.prog [] Tryz.f291 (.n .z (.n (.n (.g [(2, 7, [(15, .one .b)]), (11, 9, [(26, .one .b)])]) (.n .x .z)) .z)) = mem_Mem__at_c  := by kernel_rfl
theorem mem_Mem__at_sound {O : Type} {RO : O → Loc → (Nat → Option Obj) → Prop} : FSound RO Tryz.prog 291 (mem_Mem__at) :=
   have h : FSound RO Tryz.prog 291 (mem_Mem__at_c) := (mem_Mem__at_run) ▸ run_sound (gnil) mixed Tryz.func291 (by kernel_rfl) _
   h

/-- (*haymow/mem.Mem).within -/
noncomputable def mem_Mem__within_c {O : Type} (k291 : Sm O) : Sm O := fun xs σ =>
 bif Nat.beq xs.length 4 then
 (AV.asP (xs.getD 0 .u)).bind fun p0 =>
 (AV.asI .i64 (xs.getD 1 .u)).bind fun n1 =>
 (AV.asI .i64 (xs.getD 2 .u)).bind fun n2 =>
 (AV.asI .i64 (xs.getD 3 .u)).bind fun n3 =>
 (k291 [(.p p0), J n1] σ).bind fun r4 =>
 (AV.asP r4.1).bind fun p5 =>
 (bif (Option.isNone p5) then
 none
 else ((bif ((decide (n3 < 0)) == false) then
 some ([(.b (decide (n2 < 0)))], r4.2)
 else some ([(.b true)], r4.2)) : Option (List AV × AH O)).bind fun r6 =>
 (AV.asB (r6.1.getD 0 .u)).bind fun b7 =>
 ((bif (b7 == false) then
 Option.bind p5 fun q8 =>
 (r6.2.ld q8.1 q8.2).bind fun w9 =>
 (AV.asSl w9).bind fun l10 =>
 some ([(.b (decide (n2 > (l10.2 : Int))))], r6.2)
 else some ([(.b true)], r6.2)) : Option (List AV × AH O)).bind fun r11 =>
 (AV.asB (r11.1.getD 0 .u)).bind fun b12 =>
 ((bif (b12 == false) then
 Option.bind p5 fun q13 =>
 (r11.2.ld q13.1 q13.2).bind fun w14 =>
 (AV.asSl w14).bind fun l15 =>
 let c16 : Bool := (decide (n3 > (IntKind.i64.wrap ((l15.2 : Int) - n2))))
 some ([(.b c16)], r11.2)
 else some ([(.b true)], r11.2)) : Option (List AV × AH O)).bind fun r17 =>
 (AV.asB (r17.1.getD 0 .u)).bind fun b18 =>
 (bif b18 then
 none
 else Option.bind p5 fun q19 =>
 (r17.2.ld q19.1 q19.2).bind fun w20 =>
 (AV.asSl w20).bind fun l21 =>
 (bif (((decide ((0 : Int) ≤ n2)) && (decide (n2 ≤ (IntKind.i64.wrap (n2 + n3))))) && (decide ((IntKind.i64.wrap (n2 + n3)) ≤ (l21.2 : Int)))) then
 (SA.adv l21.1 n2.toNat 1).bind fun a22 =>
 some ((.tup [(.sl a22 ((IntKind.i64.wrap (n2 + n3)).toNat - n2.toNat)), J 0]), r17.2)
 else none)))
 else none
noncomputable def mem_Mem__within {O : Type} : Sm O := mem_Mem__within_c mem_Mem__at
theorem mem_Mem__within_ent : Entered Tryz.prog 201 := Tryz.call201
theorem mem_Mem__within_run {O : Type} (k291 : Sm O) : run (O := O) Tryz.prog [(291, k291)] Tryz.f201 (.n .z (.n .z (.n (.n (.n .z (.n .x (.n (.g [(2, 2, [(23, .one .b)]), (6, 7, [(32, .one .b)]), (15, 9, [(43, .one .b)])]) (.n .x .z)))) .z) .z))) = mem_Mem__within_c k291 := by kernel_rfl
theorem mem_Mem__within_sound {O : Type} {RO : O → Loc → (Nat → Option Obj) → Prop} : FSound RO Tryz.prog 201 (mem_Mem__within) :=
   have h : FSound RO Tryz.prog 201 (mem_Mem__within_c mem_Mem__at) := (mem_Mem__within_run mem_Mem__at) ▸ run_sound (gcons mem_Mem__at_ent (mem_Mem__at_sound) <| gnil) mixed Tryz.func201 (by kernel_rfl) _
   h

/-- haymow/wide.Of -/
noncomputable def wide_Of_c {O : Type} : Sm O := fun xs σ =>
 bif Nat.beq xs.length 1 then
 (AV.asI .u64 (xs.getD 0 .u)).bind fun n0 =>
 let σ1 := σ.bump 1
 let σ2 := σ1.put σ.next (.cells true 150 [(.i .u64 0), (.i .u64 0)])
 (σ2.st (.n σ.next) 0 [(.i .u64 0), (.i .u64 n0)]).bind fun σ3 =>
 (σ3.ld (.n σ.next) 0).bind fun w4 =>
 (AV.asI .u64 w4).bind fun n5 =>
 (σ3.ld (.n σ.next) 1).bind fun w6 =>
 (AV.asI .u64 w6).bind fun n7 =>
 some ((.agg [(.i .u64 n5), (.i .u64 n7)]), σ3)
 else none
noncomputable def wide_Of {O : Type} : Sm O := wide_Of_c
theorem wide_Of_ent : Entered Tryz.prog 214 := Tryz.call214
theorem wide_Of_run {O : Type} : run (O := O) Tryz.prog [] Tryz.f214 (.n .z .z) = wide_Of_c  := by kernel_rfl
theorem wide_Of_sound {O : Type} {RO : O → Loc → (Nat → Option Obj) → Prop} : FSound RO Tryz.prog 214 (wide_Of) :=
   have h : FSound RO Tryz.prog 214 (wide_Of_c) := (wide_Of_run) ▸ run_sound (gnil) mixed Tryz.func214 (by kernel_rfl) _
   h

/-- haymow/wide.Add -/
noncomputable def wide_Add_c {O : Type} (k311 : Sm O) : Sm O := fun xs σ =>
 bif Nat.beq xs.length 2 then
 (AV.asAgg 2 (xs.getD 0 .u)).bind fun c0 =>
 (AV.asI .u64 (c0.getD 0 .u)).bind fun n1 =>
 (AV.asI .u64 (c0.getD 1 .u)).bind fun n2 =>
 (AV.asAgg 2 (xs.getD 1 .u)).bind fun c3 =>
 (AV.asI .u64 (c3.getD 0 .u)).bind fun n4 =>
 (AV.asI .u64 (c3.getD 1 .u)).bind fun n5 =>
 let σ6 := σ.bump 3
 let σ7 := σ6.put σ.next (.cells true 150 [(.i .u64 n1), (.i .u64 n2)])
 let σ8 := σ7.put (σ.next + 1) (.cells true 150 [(.i .u64 n4), (.i .u64 n5)])
 let σ9 := σ8.put ((σ.next + 1) + 1) (.cells true 150 [(.i .u64 0), (.i .u64 0)])
 (σ9.ld (.n σ.next) 1).bind fun w10 =>
 (AV.asI .u64 w10).bind fun n11 =>
 (σ9.ld (.n (σ.next + 1)) 1).bind fun w12 =>
 (AV.asI .u64 w12).bind fun n13 =>
 (k311 [(.i .u64 n11), (.i .u64 n13), (.i .u64 0)] σ9).bind fun r14 =>
 (AV.asTup 2 r14.1).bind fun c15 =>
 (AV.asI .u64 (c15.getD 0 .u)).bind fun n16 =>
 (AV.asI .u64 (c15.getD 1 .u)).bind fun n17 =>
 (r14.2.ld (.n σ.next) 0).bind fun w18 =>
 (AV.asI .u64 w18).bind fun n19 =>
 (r14.2.ld (.n (σ.next + 1)) 0).bind fun w20 =>
 (AV.asI .u64 w20).bind fun n21 =>
 (k311 [(.i .u64 n19), (.i .u64 n21), (.i .u64 n17)] r14.2).bind fun r22 =>
 (AV.asTup 2 r22.1).bind fun c23 =>
 (AV.asI .u64 (c23.getD 0 .u)).bind fun n24 =>
 (AV.asI .u64 (c23.getD 1 .u)).bind fun n25 =>
 (bif ((n25 : Int) != 0) then
 none
 else (r22.2.st (.n ((σ.next + 1) + 1)) 0 [(.i .u64 n24), (.i .u64 n16)]).bind fun σ26 =>
 (σ26.ld (.n ((σ.next + 1) + 1)) 0).bind fun w27 =>
 (AV.asI .u64 w27).bind fun n28 =>
 (σ26.ld (.n ((σ.next + 1) + 1)) 1).bind fun w29 =>
 (AV.asI .u64 w29).bind fun n30 =>
 some ((.tup [(.agg [(.i .u64 n28), (.i .u64 n30)]), (.b true)]), σ26))
 else none
noncomputable def wide_Add {O : Type} : Sm O := wide_Add_c bits_Add64
theorem wide_Add_ent : Entered Tryz.prog 208 := Tryz.call208
theorem wide_Add_run {O : Type} (k311 : Sm O) : run (O := O) Tryz.prog [(311, k311)] Tryz.f208 (.n .z (.n .z (.n .z (.n (.n .z (.n .x .z)) .z)))) = wide_Add_c k311 := by kernel_rfl
theorem wide_Add_sound {O : Type} {RO : O → Loc → (Nat → Option Obj) → Prop} : FSound RO Tryz.prog 208 (wide_Add) :=
   have h : FSound RO Tryz.prog 208 (wide_Add_c bits_Add64) := (wide_Add_run bits_Add64) ▸ run_sound (gext bits_Add64_ext <| gnil) mixed Tryz.func208 (by kernel_rfl) _
   h

/-- (*haymow/meter.Meter).Step -/
noncomputable def meter_Meter__Step_c {O : Type} (k214 k208 : Sm O) : Sm O := fun xs σ =>
 bif Nat.beq xs.length 3 then
 (AV.asP (xs.getD 0 .u)).bind fun p0 =>
 (AV.asI .i64 (xs.getD 1 .u)).bind fun n1 =>
 (AV.asI .i64 (xs.getD 2 .u)).bind fun n2 =>
 ((bif ((Option.isNone p0) == false) then
 some ([(.b (decide (n1 < 0)))], σ)
 else some ([(.b true)], σ)) : Option (List AV × AH O)).bind fun r3 =>
 (AV.asB (r3.1.getD 0 .u)).bind fun b4 =>
 ((bif (b4 == false) then
 some ([(.b (decide (n1 ≥ 2)))], r3.2)
 else some ([(.b true)], r3.2)) : Option (List AV × AH O)).bind fun r5 =>
 (AV.asB (r5.1.getD 0 .u)).bind fun b6 =>
 ((bif (b6 == false) then
 some ([(.b (decide (n2 < 1)))], r5.2)
 else some ([(.b true)], r5.2)) : Option (List AV × AH O)).bind fun r7 =>
 (AV.asB (r7.1.getD 0 .u)).bind fun b8 =>
 (bif b8 then
 none
 else Option.bind p0 fun q9 =>
 (bif ((decide ((0 : Int) ≤ n1)) && (decide (n1 < 2))) then
 (r7.2.ld q9.1 (q9.2 + (n1.toNat * 2))).bind fun w10 =>
 (AV.asI .u64 w10).bind fun n11 =>
 (r7.2.ld q9.1 ((q9.2 + (n1.toNat * 2)) + 1)).bind fun w12 =>
 (AV.asI .u64 w12).bind fun n13 =>
 Option.bind p0 fun q14 =>
 (k214 [(.i .u64 (IntKind.u64.wrap n2))] r7.2).bind fun r15 =>
 (AV.asAgg 2 r15.1).bind fun c16 =>
 (AV.asI .u64 (c16.getD 0 .u)).bind fun n17 =>
 (AV.asI .u64 (c16.getD 1 .u)).bind fun n18 =>
 (chkE (r15.2.ld q9.1 (q9.2 + (n1.toNat * 2))) (some (.i .u64 n11))).bind fun _ =>
 (chkE (r15.2.ld q9.1 ((q9.2 + (n1.toNat * 2)) + 1)) (some (.i .u64 n13))).bind fun _ =>
 (k208 [(.agg [(.i .u64 n11), (.i .u64 n13)]), (.agg [(.i .u64 n17), (.i .u64 n18)])] r15.2).bind fun r19 =>
 (AV.asTup 2 r19.1).bind fun c20 =>
 (AV.asAgg 2 (c20.getD 0 .u)).bind fun c21 =>
 (AV.asI .u64 (c21.getD 0 .u)).bind fun n22 =>
 (AV.asI .u64 (c21.getD 1 .u)).bind fun n23 =>
 (AV.asB (c20.getD 1 .u)).bind fun b24 =>
 (bif ((decide ((0 : Int) ≤ n1)) && (decide (n1 < 2))) then
 (r19.2.st q14.1 (q14.2 + (n1.toNat * 2)) [(.i .u64 n22), (.i .u64 n23)]).bind fun σ25 =>
 some ((.tup []), σ25)
 else none)
 else none))
 else none
noncomputable def meter_Meter__Step {O : Type} : Sm O := meter_Meter__Step_c wide_Of wide_Add
theorem meter_Meter__Step_ent : Entered Tryz.prog 202 := Tryz.call202
theorem meter_Meter__Step_run {O : Type} (k214 k208 : Sm O) : run (O := O) Tryz.prog [(214, k214), (208, k208)] Tryz.f202 (.n (.n (.g [(2, 2, [(11, .one .b)]), (6, 2, [(15, .one .b)]), (10, 2, [(19, .one .b)])]) (.n .x .z)) (.d [] [0, 1, 2, 3, 4, 5, 6, 7, 8, 9, 15, 16, 10, 11, 12, 13, 14, 17, 18] [0, 0, 0, 0, 4, 20, 60, 124, 0, 256, 768, 2044, 4092, 8188, 8188, 1, 32769, 114687, 245759])) = meter_Meter__Step_c k214 k208 := by kernel_rfl
theorem meter_Meter__Step_sound {O : Type} {RO : O → Loc → (Nat → Option Obj) → Prop} : FSound RO Tryz.prog 202 (meter_Meter__Step) :=
   have h : FSound RO Tryz.prog 202 (meter_Meter__Step_c wide_Of wide_Add) := (meter_Meter__Step_run wide_Of wide_Add) ▸ run_sound (gcons wide_Of_ent (wide_Of_sound) <| gcons wide_Add_ent (wide_Add_sound) <| gnil) mixed Tryz.func202 (by kernel_rfl) _
   h

/-- (*haymow/mem.Mem).Read -/
noncomputable def mem_Mem__Read_c {O : Type} (k201 k202 : Sm O) : Sm O := fun xs σ =>
 bif Nat.beq xs.length 3 then
 (AV.asP (xs.getD 0 .u)).bind fun p0 =>
 (AV.asI .i64 (xs.getD 1 .u)).bind fun n1 =>
 (AV.asI .i64 (xs.getD 2 .u)).bind fun n2 =>
 (k201 [(.p p0), J n1, J n2, J 1] σ).bind fun r3 =>
 (AV.asTup 2 r3.1).bind fun c4 =>
 Is c4 0 fun l5 => I6 c4 1 fun n6 => (bif ((n6 : Int) != 0) then
 none
 else Option.bind p0 fun q7 =>
 (r3.2.ld q7.1 q7.2).bind fun w8 =>
 (AV.asP w8).bind fun p9 =>
 (k202 [(.p p9), J 0, J 1] r3.2).bind fun r10 =>
 (AV.asTup 0 r10.1).bind fun c11 =>
 (bif (decide ((0 : Int) < (l5.2 : Int))) then
 (SA.ref l5.1).bind fun q12 =>
 (r10.2.ld q12.1 q12.2).bind fun w13 =>
 (AV.asI .u64 w13).bind fun n14 =>
 some ((.tup [(.i .u64 n14), J 0]), r10.2)
 else none))
 else none
noncomputable def mem_Mem__Read {O : Type} : Sm O := mem_Mem__Read_c mem_Mem__within meter_Meter__Step
theorem mem_Mem__Read_ent : Entered Tryz.prog 177 := Tryz.call177
theorem mem_Mem__Read_run {O : Type} (k201 k202 : Sm O) : run (O := O) Tryz.prog [(201, k201), (202, k202)] Tryz.f177 (.n .z (.n .z (.n (.n .z (.n .x .z)) (.n .z .z)))) = mem_Mem__Read_c k201 k202 := by kernel_rfl
theorem mem_Mem__Read_sound {O : Type} {RO : O → Loc → (Nat → Option Obj) → Prop} : FSound RO Tryz.prog 177 (mem_Mem__Read) :=
   have h : FSound RO Tryz.prog 177 (mem_Mem__Read_c mem_Mem__within meter_Meter__Step) := (mem_Mem__Read_run mem_Mem__within meter_Meter__Step) ▸ run_sound (gcons mem_Mem__within_ent (mem_Mem__within_sound) <| gcons meter_Meter__Step_ent (meter_Meter__Step_sound) <| gnil) mixed Tryz.func177 (by kernel_rfl) _
   h

/-- (*haymow/pool.Pool).look -/
noncomputable def pool_Pool__look_c {O : Type} (k204 k177 : Sm O) : Sm O := fun xs σ =>
 bif Nat.beq xs.length 2 then
 (AV.asP (xs.getD 0 .u)).bind fun p0 =>
 (AV.asI .i64 (xs.getD 1 .u)).bind fun n1 =>
 ((bif ((decide (n1 < 1)) == false) then
 Option.bind p0 fun q2 =>
 (σ.ld q2.1 (q2.2 + 3)).bind fun w3 =>
 (AV.asI .i64 w3).bind fun n4 =>
 some ([(.b (decide (n1 > n4)))], σ)
 else some ([(.b true)], σ)) : Option (List AV × AH O)).bind fun r5 =>
 (AV.asB (r5.1.getD 0 .u)).bind fun b6 =>
 (bif b6 then
 none
 else Option.bind p0 fun q7 =>
 (r5.2.ld q7.1 q7.2).bind fun w8 =>
 (AV.asP w8).bind fun p9 =>
 Option.bind p0 fun q10 =>
 (r5.2.ld q10.1 (q10.2 + 1)).bind fun w11 =>
 (AV.asI .i64 w11).bind fun n12 =>
 (k204 [(.p p0), J n1, (.i .i64 (-1))] r5.2).bind fun r13 =>
 (AV.asI .i64 r13.1).bind fun n14 =>
 (chkE (r13.2.ld q7.1 q7.2) (some (.p p9))).bind fun _ =>
 (chkE (r13.2.ld q10.1 (q10.2 + 1)) (some (.i .i64 n12))).bind fun _ =>
 (k177 [(.p p9), J n12, J n14] r13.2).bind fun r15 =>
 (AV.asTup 2 r15.1).bind fun c16 =>
 (AV.asI .u64 (c16.getD 0 .u)).bind fun n17 =>
 I6 c16 1 fun n18 => some ((.tup [(.i .u64 n17), (.b true)]), r15.2))
 else none
noncomputable def pool_Pool__look {O : Type} : Sm O := pool_Pool__look_c pool_Pool__at mem_Mem__Read
theorem pool_Pool__look_ent : Entered Tryz.prog 369 := Tryz.call369
theorem pool_Pool__look_run {O : Type} (k204 k177 : Sm O) : run (O := O) Tryz.prog [(204, k204), (177, k177)] Tryz.f369 (.n .z (.n (.n (.g [(2, 6, [(17, .one .b)])]) (.n .x .z)) (.n (.d [] [0, 1, 2, 3, 4, 5, 6, 7, 8, 9, 10, 11, 12, 13, 14, 15, 16] [0, 1, 3, 7, 0, 16, 48, 112, 0, 0, 768, 2047, 4095, 8191, 8191, 16383, 65535]) .z))) = pool_Pool__look_c k204 k177 := by kernel_rfl
theorem pool_Pool__look_sound {O : Type} {RO : O → Loc → (Nat → Option Obj) → Prop} : FSound RO Tryz.prog 369 (pool_Pool__look) :=
   have h : FSound RO Tryz.prog 369 (pool_Pool__look_c pool_Pool__at mem_Mem__Read) := (pool_Pool__look_run pool_Pool__at mem_Mem__Read) ▸ run_sound (gcons pool_Pool__at_ent (pool_Pool__at_sound) <| gcons mem_Mem__Read_ent (mem_Mem__Read_sound) <| gnil) mixed Tryz.func369 (by kernel_rfl) _
   h

/-- (*haymow/pool.Pool).Taken -/
noncomputable def pool_Pool__Taken_c {O : Type} (k369 : Sm O) : Sm O := fun xs σ =>
 bif Nat.beq xs.length 2 then
 (AV.asP (xs.getD 0 .u)).bind fun p0 =>
 (AV.asI .i64 (xs.getD 1 .u)).bind fun n1 =>
 (k369 [(.p p0), J n1] σ).bind fun r2 =>
 (AV.asTup 2 r2.1).bind fun c3 =>
 (AV.asI .u64 (c3.getD 0 .u)).bind fun n4 =>
 (AV.asB (c3.getD 1 .u)).bind fun b5 =>
 ((bif (b5 == true) then
 some ([(.b (((ibits .and .u64 n4 1) : Int) == 1))], r2.2)
 else some ([(.b false)], r2.2)) : Option (List AV × AH O)).bind fun r6 =>
 (AV.asB (r6.1.getD 0 .u)).bind fun b7 =>
 some ((.b b7), r6.2)
 else none
noncomputable def pool_Pool__Taken {O : Type} : Sm O := pool_Pool__Taken_c pool_Pool__look
theorem pool_Pool__Taken_ent : Entered Tryz.prog 292 := Tryz.call292
theorem pool_Pool__Taken_run {O : Type} (k369 : Sm O) : run (O := O) Tryz.prog [(369, k369)] Tryz.f292 (.n .z (.n .z (.n (.g [(1, 3, [(18, .one .b)])]) .z))) = pool_Pool__Taken_c k369 := by kernel_rfl
theorem pool_Pool__Taken_sound {O : Type} {RO : O → Loc → (Nat → Option Obj) → Prop} : FSound RO Tryz.prog 292 (pool_Pool__Taken) :=
   have h : FSound RO Tryz.prog 292 (pool_Pool__Taken_c pool_Pool__look) := (pool_Pool__Taken_run pool_Pool__look) ▸ run_sound (gcons pool_Pool__look_ent (pool_Pool__look_sound) <| gnil) mixed Tryz.func292 (by kernel_rfl) _
   h

/-- (*haymow/pool.Pool).Gen -/
noncomputable def pool_Pool__Gen_c {O : Type} (k369 : Sm O) : Sm O := fun xs σ =>
 bif Nat.beq xs.length 2 then
 (AV.asP (xs.getD 0 .u)).bind fun p0 =>
 (AV.asI .i64 (xs.getD 1 .u)).bind fun n1 =>
 (k369 [(.p p0), J n1] σ).bind fun r2 =>
 (AV.asTup 2 r2.1).bind fun c3 =>
 (AV.asI .u64 (c3.getD 0 .u)).bind fun n4 =>
 (AV.asB (c3.getD 1 .u)).bind fun b5 =>
 some ((.i .i64 (IntKind.i64.wrap (Int.fdiv n4 (2 ^ 1)))), r2.2)
 else none
noncomputable def pool_Pool__Gen {O : Type} : Sm O := pool_Pool__Gen_c pool_Pool__look
theorem pool_Pool__Gen_ent : Entered Tryz.prog 414 := Tryz.call414
theorem pool_Pool__Gen_run {O : Type} (k369 : Sm O) : run (O := O) Tryz.prog [(369, k369)] Tryz.f414 (.n .z (.n .z .z)) = pool_Pool__Gen_c k369 := by kernel_rfl
theorem pool_Pool__Gen_sound {O : Type} {RO : O → Loc → (Nat → Option Obj) → Prop} : FSound RO Tryz.prog 414 (pool_Pool__Gen) :=
   have h : FSound RO Tryz.prog 414 (pool_Pool__Gen_c pool_Pool__look) := (pool_Pool__Gen_run pool_Pool__look) ▸ run_sound (gcons pool_Pool__look_ent (pool_Pool__look_sound) <| gnil) mixed Tryz.func414 (by kernel_rfl) _
   h

/-- (*haymow/handles.Handles).id -/
noncomputable def handles_Handles__id_c {O : Type} (k292 k414 : Sm O) : Sm O := fun xs σ =>
 bif Nat.beq xs.length 2 then
 (AV.asP (xs.getD 0 .u)).bind fun p0 =>
 (AV.asI .i64 (xs.getD 1 .u)).bind fun n1 =>
 let v2 : Int := (IntKind.i64.wrap ((ibits .and .i64 n1 1048575) + 1))
 ((bif ((decide (n1 < 0)) == false) then
 Option.bind p0 fun q3 =>
 (σ.ld q3.1 q3.2).bind fun w4 =>
 (AV.asP w4).bind fun p5 =>
 (k292 [(.p p5), J v2] σ).bind fun r6 =>
 (AV.asB r6.1).bind fun b7 =>
 some ([(.b (!b7))], r6.2)
 else some ([(.b true)], σ)) : Option (List AV × AH O)).bind fun r8 =>
 (AV.asB (r8.1.getD 0 .u)).bind fun b9 =>
 ((bif (b9 == false) then
 Option.bind p0 fun q10 =>
 (r8.2.ld q10.1 q10.2).bind fun w11 =>
 (AV.asP w11).bind fun p12 =>
 (k414 [(.p p12), J v2] r8.2).bind fun r13 =>
 (AV.asI .i64 r13.1).bind fun n14 =>
 some ([(.b ((n14 : Int) != (Int.fdiv n1 (2 ^ 20))))], r13.2)
 else some ([(.b true)], r8.2)) : Option (List AV × AH O)).bind fun r15 =>
 (AV.asB (r15.1.getD 0 .u)).bind fun b16 =>
 (bif b16 then
 none
 else some ((.tup [J v2, J 0]), r15.2))
 else none
noncomputable def handles_Handles__id {O : Type} : Sm O := handles_Handles__id_c pool_Pool__Taken pool_Pool__Gen
theorem handles_Handles__id_ent : Entered Tryz.prog 416 := Tryz.call416
theorem handles_Handles__id_run {O : Type} (k292 k414 : Sm O) : run (O := O) Tryz.prog [(292, k292), (414, k414)] Tryz.f416 (.n .z (.n .z (.n (.n (.g [(2, 7, [(20, .one .b)]), (11, 9, [(31, .one .b)])]) (.n .x .z)) .z))) = handles_Handles__id_c k292 k414 := by kernel_rfl
theorem handles_Handles__id_sound {O : Type} {RO : O → Loc → (Nat → Option Obj) → Prop} : FSound RO Tryz.prog 416 (handles_Handles__id) :=
   have h : FSound RO Tryz.prog 416 (handles_Handles__id_c pool_Pool__Taken pool_Pool__Gen) := (handles_Handles__id_run pool_Pool__Taken pool_Pool__Gen) ▸ run_sound (gcons pool_Pool__Taken_ent (pool_Pool__Taken_sound) <| gcons pool_Pool__Gen_ent (pool_Pool__Gen_sound) <| gnil) mixed Tryz.func416 (by kernel_rfl) _
   h

/-- (*haymow/pool.Pool).check -/
noncomputable def pool_Pool__check_c {O : Type} (k292 : Sm O) : Sm O := fun xs σ =>
 bif Nat.beq xs.length 3 then
 (AV.asP (xs.getD 0 .u)).bind fun p0 =>
 (AV.asI .i64 (xs.getD 1 .u)).bind fun n1 =>
 (AV.asI .i64 (xs.getD 2 .u)).bind fun n2 =>
 (k292 [(.p p0), J n1] σ).bind fun r3 =>
 (AV.asB r3.1).bind fun b4 =>
 (bif (!b4) then
 none
 else ((bif ((decide (n2 < 0)) == false) then
 Option.bind p0 fun q5 =>
 (r3.2.ld q5.1 (q5.2 + 2)).bind fun w6 =>
 (AV.asI .i64 w6).bind fun n7 =>
 some ([(.b (decide (n2 ≥ n7)))], r3.2)
 else some ([(.b true)], r3.2)) : Option (List AV × AH O)).bind fun r8 =>
 (AV.asB (r8.1.getD 0 .u)).bind fun b9 =>
 (bif b9 then
 none
 else some (J 0, r8.2)))
 else none
noncomputable def pool_Pool__check {O : Type} : Sm O := pool_Pool__check_c pool_Pool__Taken
theorem pool_Pool__check_ent : Entered Tryz.prog 203 := Tryz.call203
theorem pool_Pool__check_run {O : Type} (k292 : Sm O) : run (O := O) Tryz.prog [(292, k292)] Tryz.f203 (.n .z (.n (.n (.n .z (.n .x (.n (.g [(2, 6, [(22, .one .b)])]) (.n .x .z)))) .z) .z)) = pool_Pool__check_c k292 := by kernel_rfl
theorem pool_Pool__check_sound {O : Type} {RO : O → Loc → (Nat → Option Obj) → Prop} : FSound RO Tryz.prog 203 (pool_Pool__check) :=
   have h : FSound RO Tryz.prog 203 (pool_Pool__check_c pool_Pool__Taken) := (pool_Pool__check_run pool_Pool__Taken) ▸ run_sound (gcons pool_Pool__Taken_ent (pool_Pool__Taken_sound) <| gnil) mixed Tryz.func203 (by kernel_rfl) _
   h

/-- (*haymow/pool.Pool).Get -/
noncomputable def pool_Pool__Get_c {O : Type} (k203 k204 k177 : Sm O) : Sm O := fun xs σ =>
 bif Nat.beq xs.length 3 then
 (AV.asP (xs.getD 0 .u)).bind fun p0 =>
 (AV.asI .i64 (xs.getD 1 .u)).bind fun n1 =>
 (AV.asI .i64 (xs.getD 2 .u)).bind fun n2 =>
 (k203 [(.p p0), J n1, J n2] σ).bind fun r3 =>
 (AV.asI .i64 r3.1).bind fun n4 =>
 (bif ((n4 : Int) != 0) then
 none
 else Option.bind p0 fun q5 =>
 (r3.2.ld q5.1 q5.2).bind fun w6 =>
 (AV.asP w6).bind fun p7 =>
 Option.bind p0 fun q8 =>
 (r3.2.ld q8.1 (q8.2 + 1)).bind fun w9 =>
 (AV.asI .i64 w9).bind fun n10 =>
 (k204 [(.p p0), J n1, J n2] r3.2).bind fun r11 =>
 (AV.asI .i64 r11.1).bind fun n12 =>
 (chkE (r11.2.ld q5.1 q5.2) (some (.p p7))).bind fun _ =>
 (chkE (r11.2.ld q8.1 (q8.2 + 1)) (some (.i .i64 n10))).bind fun _ =>
 (k177 [(.p p7), J n10, J n12] r11.2).bind fun r13 =>
 (AV.asTup 2 r13.1).bind fun c14 =>
 (AV.asI .u64 (c14.getD 0 .u)).bind fun n15 =>
 I6 c14 1 fun n16 => some ((.tup [(.i .u64 n15), J n16]), r13.2))
 else none
noncomputable def pool_Pool__Get {O : Type} : Sm O := pool_Pool__Get_c pool_Pool__check pool_Pool__at mem_Mem__Read
theorem pool_Pool__Get_ent : Entered Tryz.prog 116 := Tryz.call116
theorem pool_Pool__Get_run {O : Type} (k203 k204 k177 : Sm O) : run (O := O) Tryz.prog [(203, k203), (204, k204), (177, k177)] Tryz.f116 (.n .z (.n (.n .z (.n .z (.n .x .z))) (.n (.d [] [0, 1, 2, 3, 4, 5, 6, 7, 8, 9, 10, 11, 12, 13, 14, 15, 16] [0, 1, 3, 7, 0, 16, 48, 112, 0, 0, 0, 1792, 4095, 8191, 8191, 32767, 65535]) .z))) = pool_Pool__Get_c k203 k204 k177 := by kernel_rfl
theorem pool_Pool__Get_sound {O : Type} {RO : O → Loc → (Nat → Option Obj) → Prop} : FSound RO Tryz.prog 116 (pool_Pool__Get) :=
   have h : FSound RO Tryz.prog 116 (pool_Pool__Get_c pool_Pool__check pool_Pool__at mem_Mem__Read) := (pool_Pool__Get_run pool_Pool__check pool_Pool__at mem_Mem__Read) ▸ run_sound (gcons pool_Pool__check_ent (pool_Pool__check_sound) <| gcons pool_Pool__at_ent (pool_Pool__at_sound) <| gcons mem_Mem__Read_ent (mem_Mem__Read_sound) <| gnil) mixed Tryz.func116 (by kernel_rfl) _
   h

/-- (*haymow/handles.Handles).Get -/
noncomputable def handles_Handles__Get_c {O : Type} (k416 k116 : Sm O) : Sm O := fun xs σ =>
 bif Nat.beq xs.length 2 then
 (AV.asP (xs.getD 0 .u)).bind fun p0 =>
 (AV.asI .i64 (xs.getD 1 .u)).bind fun n1 =>
 (k416 [(.p p0), J n1] σ).bind fun r2 =>
 (AV.asTup 2 r2.1).bind fun c3 =>
 I6 c3 0 fun n4 => I6 c3 1 fun n5 => (bif ((n5 : Int) != 0) then
 none
 else Option.bind p0 fun q6 =>
 (r2.2.ld q6.1 q6.2).bind fun w7 =>
 (AV.asP w7).bind fun p8 =>
 (k116 [(.p p8), J n4, J 0] r2.2).bind fun r9 =>
 (AV.asTup 2 r9.1).bind fun c10 =>
 (AV.asI .u64 (c10.getD 0 .u)).bind fun n11 =>
 I6 c10 1 fun n12 => some ((.tup [(.i .u64 n11), J n12]), r9.2))
 else none
noncomputable def handles_Handles__Get {O : Type} : Sm O := handles_Handles__Get_c handles_Handles__id pool_Pool__Get
theorem handles_Handles__Get_ent : Entered Tryz.prog 335 := Tryz.call335
theorem handles_Handles__Get_run {O : Type} (k416 k116 : Sm O) : run (O := O) Tryz.prog [(416, k416), (116, k116)] Tryz.f335 (.n .z (.n .z (.n (.n .z (.n .x .z)) (.n .z .z)))) = handles_Handles__Get_c k416 k116 := by kernel_rfl
theorem handles_Handles__Get_sound {O : Type} {RO : O → Loc → (Nat → Option Obj) → Prop} : FSound RO Tryz.prog 335 (handles_Handles__Get) :=
   have h : FSound RO Tryz.prog 335 (handles_Handles__Get_c handles_Handles__id pool_Pool__Get) := (handles_Handles__Get_run handles_Handles__id pool_Pool__Get) ▸ run_sound (gcons handles_Handles__id_ent (handles_Handles__id_sound) <| gcons pool_Pool__Get_ent (pool_Pool__Get_sound) <| gnil) mixed Tryz.func335 (by kernel_rfl) _
   h

/-- (*haymow/roots.Roots).Get -/
noncomputable def roots_Roots__Get_c {O : Type} (k335 : Sm O) : Sm O := fun xs σ =>
 bif Nat.beq xs.length 2 then
 (AV.asP (xs.getD 0 .u)).bind fun p0 =>
 (AV.asI .i64 (xs.getD 1 .u)).bind fun n1 =>
 (bif (decide (n1 ≥ 0)) then
 Option.bind p0 fun q2 =>
 (σ.ld q2.1 (q2.2 + 1)).bind fun w3 =>
 (AV.asP w3).bind fun p4 =>
 (k335 [(.p p4), J n1] σ).bind fun r5 =>
 (AV.asTup 2 r5.1).bind fun c6 =>
 (AV.asI .u64 (c6.getD 0 .u)).bind fun n7 =>
 I6 c6 1 fun n8 => some ((.tup [(.i .u64 n7), J n8]), r5.2)
 else none)
 else none
noncomputable def roots_Roots__Get {O : Type} : Sm O := roots_Roots__Get_c handles_Handles__Get
theorem roots_Roots__Get_ent : Entered Tryz.prog 241 := Tryz.call241
theorem roots_Roots__Get_run {O : Type} (k335 : Sm O) : run (O := O) Tryz.prog [(335, k335)] Tryz.f241 (.n .z (.n (.n .z (.n .z .x)) (.n (.d [] [0, 1, 2, 3, 4, 5, 6, 7, 8, 9, 10] [0, 1, 3, 7, 0, 16, 63, 127, 127, 511, 1023]) .z))) = roots_Roots__Get_c k335 := by kernel_rfl
theorem roots_Roots__Get_sound {O : Type} {RO : O → Loc → (Nat → Option Obj) → Prop} : FSound RO Tryz.prog 241 (roots_Roots__Get) :=
   have h : FSound RO Tryz.prog 241 (roots_Roots__Get_c handles_Handles__Get) := (roots_Roots__Get_run handles_Handles__Get) ▸ run_sound (gcons handles_Handles__Get_ent (handles_Handles__Get_sound) <| gnil) mixed Tryz.func241 (by kernel_rfl) _
   h

/-- haymow/header.Words -/
noncomputable def header_Words_c {O : Type} : Sm O := fun xs σ =>
 bif Nat.beq xs.length 1 then
 (AV.asAgg 5 (xs.getD 0 .u)).bind fun c0 =>
 I6 c0 0 fun n1 => I6 c0 1 fun n2 => I6 c0 2 fun n3 => I6 c0 3 fun n4 => (AV.asB (c0.getD 4 .u)).bind fun b5 =>
 let σ6 := σ.bump 1
 let σ7 := σ6.put σ.next (.cells true 77 [J n1, J n2, J n3, J n4, (.b b5)])
 (σ7.ld (.n σ.next) 0).bind fun w8 =>
 (AV.asI .i64 w8).bind fun n9 =>
 (σ7.ld (.n σ.next) 1).bind fun w10 =>
 (AV.asI .i64 w10).bind fun n11 =>
 let v12 : Int := (IntKind.i64.wrap ((IntKind.i64.wrap (1 + n9)) + n11))
 some (J v12, σ7)
 else none
noncomputable def header_Words {O : Type} : Sm O := header_Words_c
theorem header_Words_ent : Entered Tryz.prog 105 := Tryz.call105
theorem header_Words_run {O : Type} : run (O := O) Tryz.prog [] Tryz.f105 (.n .z .z) = header_Words_c  := by kernel_rfl
theorem header_Words_sound {O : Type} {RO : O → Loc → (Nat → Option Obj) → Prop} : FSound RO Tryz.prog 105 (header_Words) :=
   have h : FSound RO Tryz.prog 105 (header_Words_c) := (header_Words_run) ▸ run_sound (gnil) mixed Tryz.func105 (by kernel_rfl) _
   h

/-- haymow/shape.Words -/
noncomputable def shape_Words_c {O : Type} (k104 k105 : Sm O) : Sm O := fun xs σ =>
 bif Nat.beq xs.length 1 then
 (AV.asAgg 2 (xs.getD 0 .u)).bind fun c0 =>
 I6 c0 0 fun n1 => I6 c0 1 fun n2 => let σ3 := σ.bump 1
 let σ4 := σ3.put σ.next (.cells true 75 [J n1, J n2])
 (σ4.ld (.n σ.next) 0).bind fun w5 =>
 (AV.asI .i64 w5).bind fun n6 =>
 (σ4.ld (.n σ.next) 1).bind fun w7 =>
 (AV.asI .i64 w7).bind fun n8 =>
 (k104 [(.agg [J n6, J n8])] σ4).bind fun r9 =>
 (AV.asB r9.1).bind fun b10 =>
 (bif (!b10) then
 none
 else (r9.2.ld (.n σ.next) 0).bind fun w11 =>
 (AV.asI .i64 w11).bind fun n12 =>
 (r9.2.ld (.n σ.next) 1).bind fun w13 =>
 (AV.asI .i64 w13).bind fun n14 =>
 (k105 [(.agg [J n12, J n14, J 0, J 0, (.b false)])] r9.2).bind fun r15 =>
 (AV.asI .i64 r15.1).bind fun n16 =>
 some (J n16, r15.2))
 else none
noncomputable def shape_Words {O : Type} : Sm O := shape_Words_c shape_Right header_Words
theorem shape_Words_ent : Entered Tryz.prog 63 := Tryz.call63
theorem shape_Words_run {O : Type} (k104 k105 : Sm O) : run (O := O) Tryz.prog [(104, k104), (105, k105)] Tryz.f63 (.n .z (.n (.n .z (.n .x .z)) .z)) = shape_Words_c k104 k105 := by kernel_rfl
theorem shape_Words_sound {O : Type} {RO : O → Loc → (Nat → Option Obj) → Prop} : FSound RO Tryz.prog 63 (shape_Words) :=
   have h : FSound RO Tryz.prog 63 (shape_Words_c shape_Right header_Words) := (shape_Words_run shape_Right header_Words) ▸ run_sound (gcons shape_Right_ent (shape_Right_sound) <| gcons header_Words_ent (header_Words_sound) <| gnil) mixed Tryz.func63 (by kernel_rfl) _
   h

/-- haymow/shape.Large -/
noncomputable def shape_Large_c {O : Type} (k63 : Sm O) : Sm O := fun xs σ =>
 bif Nat.beq xs.length 2 then
 (AV.asAgg 2 (xs.getD 0 .u)).bind fun c0 =>
 I6 c0 0 fun n1 => I6 c0 1 fun n2 => (AV.asI .i64 (xs.getD 1 .u)).bind fun n3 =>
 let σ4 := σ.bump 1
 let σ5 := σ4.put σ.next (.cells true 75 [J n1, J n2])
 (σ5.ld (.n σ.next) 0).bind fun w6 =>
 (AV.asI .i64 w6).bind fun n7 =>
 (σ5.ld (.n σ.next) 1).bind fun w8 =>
 (AV.asI .i64 w8).bind fun n9 =>
 (k63 [(.agg [J n7, J n9])] σ5).bind fun r10 =>
 (AV.asI .i64 r10.1).bind fun n11 =>
 some ((.b (decide (n11 > n3))), r10.2)
 else none
noncomputable def shape_Large {O : Type} : Sm O := shape_Large_c shape_Words
theorem shape_Large_ent : Entered Tryz.prog 64 := Tryz.call64
theorem shape_Large_run {O : Type} (k63 : Sm O) : run (O := O) Tryz.prog [(63, k63)] Tryz.f64 (.n .z .z) = shape_Large_c k63 := by kernel_rfl
theorem shape_Large_sound {O : Type} {RO : O → Loc → (Nat → Option Obj) → Prop} : FSound RO Tryz.prog 64 (shape_Large) :=
   have h : FSound RO Tryz.prog 64 (shape_Large_c shape_Words) := (shape_Large_run shape_Words) ▸ run_sound (gcons shape_Words_ent (shape_Words_sound) <| gnil) mixed Tryz.func64 (by kernel_rfl) _
   h

/-- haymow/shape.Charge -/
noncomputable def shape_Charge_c {O : Type} (k63 k64 : Sm O) : Sm O := fun xs σ =>
 bif Nat.beq xs.length 2 then
 (AV.asAgg 2 (xs.getD 0 .u)).bind fun c0 =>
 I6 c0 0 fun n1 => I6 c0 1 fun n2 => (AV.asI .i64 (xs.getD 1 .u)).bind fun n3 =>
 let σ4 := σ.bump 1
 let σ5 := σ4.put σ.next (.cells true 75 [J n1, J n2])
 (σ5.ld (.n σ.next) 0).bind fun w6 =>
 (AV.asI .i64 w6).bind fun n7 =>
 (σ5.ld (.n σ.next) 1).bind fun w8 =>
 (AV.asI .i64 w8).bind fun n9 =>
 (k63 [(.agg [J n7, J n9])] σ5).bind fun r10 =>
 (AV.asI .i64 r10.1).bind fun n11 =>
 ((bif ((decide (n11 > 0)) == true) then
 (r10.2.ld (.n σ.next) 0).bind fun w12 =>
 (AV.asI .i64 w12).bind fun n13 =>
 (r10.2.ld (.n σ.next) 1).bind fun w14 =>
 (AV.asI .i64 w14).bind fun n15 =>
 (k64 [(.agg [J n13, J n15]), J n3] r10.2).bind fun r16 =>
 (AV.asB r16.1).bind fun b17 =>
 some ([(.b b17)], r16.2)
 else some ([(.b false)], r10.2)) : Option (List AV × AH O)).bind fun r18 =>
 (AV.asB (r18.1.getD 0 .u)).bind fun b19 =>
 (bif b19 then
 none
 else some (J n11, r18.2))
 else none
noncomputable def shape_Charge {O : Type} : Sm O := shape_Charge_c shape_Words shape_Large
theorem shape_Charge_ent : Entered Tryz.prog 36 := Tryz.call36
theorem shape_Charge_run {O : Type} (k63 k64 : Sm O) : run (O := O) Tryz.prog [(63, k63), (64, k64)] Tryz.f36 (.n .z (.n .z (.n (.n (.g [(2, 3, [(14, .one .b)])]) (.n .x .z)) .z))) = shape_Charge_c k63 k64 := by kernel_rfl
theorem shape_Charge_sound {O : Type} {RO : O → Loc → (Nat → Option Obj) → Prop} : FSound RO Tryz.prog 36 (shape_Charge) :=
   have h : FSound RO Tryz.prog 36 (shape_Charge_c shape_Words shape_Large) := (shape_Charge_run shape_Words shape_Large) ▸ run_sound (gcons shape_Words_ent (shape_Words_sound) <| gcons shape_Large_ent (shape_Large_sound) <| gnil) mixed Tryz.func36 (by kernel_rfl) _
   h

/-- (*haymow/frames.Frames).Words -/
noncomputable def frames_Frames__Words_c {O : Type} : Sm O := fun xs σ =>
 bif Nat.beq xs.length 1 then
 (AV.asP (xs.getD 0 .u)).bind fun p0 =>
 Option.bind p0 fun q1 =>
 (σ.ld q1.1 (q1.2 + 3)).bind fun w2 =>
 (AV.asI .i64 w2).bind fun n3 =>
 some (J n3, σ)
 else none
noncomputable def frames_Frames__Words {O : Type} : Sm O := frames_Frames__Words_c
theorem frames_Frames__Words_ent : Entered Tryz.prog 198 := Tryz.call198
theorem frames_Frames__Words_run {O : Type} : run (O := O) Tryz.prog [] Tryz.f198 (.n .z .z) = frames_Frames__Words_c  := by kernel_rfl
theorem frames_Frames__Words_sound {O : Type} {RO : O → Loc → (Nat → Option Obj) → Prop} : FSound RO Tryz.prog 198 (frames_Frames__Words) :=
   have h : FSound RO Tryz.prog 198 (frames_Frames__Words_c) := (frames_Frames__Words_run) ▸ run_sound (gnil) mixed Tryz.func198 (by kernel_rfl) _
   h

/-- (*haymow/handles.Handles).Count -/
noncomputable def handles_Handles__Count_c {O : Type} : Sm O := fun xs σ =>
 bif Nat.beq xs.length 1 then
 (AV.asP (xs.getD 0 .u)).bind fun p0 =>
 Option.bind p0 fun q1 =>
 (σ.ld q1.1 ((q1.2 + 1) + 2)).bind fun w2 =>
 (AV.asI .i64 w2).bind fun n3 =>
 some (J n3, σ)
 else none
noncomputable def handles_Handles__Count {O : Type} : Sm O := handles_Handles__Count_c
theorem handles_Handles__Count_ent : Entered Tryz.prog 199 := Tryz.call199
theorem handles_Handles__Count_run {O : Type} : run (O := O) Tryz.prog [] Tryz.f199 (.n .z .z) = handles_Handles__Count_c  := by kernel_rfl
theorem handles_Handles__Count_sound {O : Type} {RO : O → Loc → (Nat → Option Obj) → Prop} : FSound RO Tryz.prog 199 (handles_Handles__Count) :=
   have h : FSound RO Tryz.prog 199 (handles_Handles__Count_c) := (handles_Handles__Count_run) ▸ run_sound (gnil) mixed Tryz.func199 (by kernel_rfl) _
   h

/-- (*haymow/roots.Roots).Charge -/
noncomputable def roots_Roots__Charge_c {O : Type} (k198 k199 : Sm O) : Sm O := fun xs σ =>
 bif Nat.beq xs.length 1 then
 (AV.asP (xs.getD 0 .u)).bind fun p0 =>
 Option.bind p0 fun q1 =>
 (σ.ld q1.1 q1.2).bind fun w2 =>
 (AV.asP w2).bind fun p3 =>
 Option.bind p0 fun q4 =>
 (σ.ld q4.1 (q4.2 + 1)).bind fun w5 =>
 (AV.asP w5).bind fun p6 =>
 Option.bind p0 fun q7 =>
 (σ.ld q7.1 (q7.2 + 2)).bind fun w8 =>
 (AV.asP w8).bind fun p9 =>
 (k198 [(.p p3)] σ).bind fun r10 =>
 (AV.asI .i64 r10.1).bind fun n11 =>
 (chkE (r10.2.ld q4.1 (q4.2 + 1)) (some (.p p6))).bind fun _ =>
 (chkE (r10.2.ld q7.1 (q7.2 + 2)) (some (.p p9))).bind fun _ =>
 (k199 [(.p p6)] r10.2).bind fun r12 =>
 (AV.asI .i64 r12.1).bind fun n13 =>
 (chkE (r12.2.ld q7.1 (q7.2 + 2)) (some (.p p9))).bind fun _ =>
 (k199 [(.p p9)] r12.2).bind fun r14 =>
 (AV.asI .i64 r14.1).bind fun n15 =>
 let v16 : Int := (IntKind.i64.wrap (4 * (IntKind.i64.wrap (n13 + n15))))
 some ((.i .i64 (IntKind.i64.wrap (n11 + v16))), r14.2)
 else none
noncomputable def roots_Roots__Charge {O : Type} : Sm O := roots_Roots__Charge_c frames_Frames__Words handles_Handles__Count
theorem roots_Roots__Charge_ent : Entered Tryz.prog 111 := Tryz.call111
theorem roots_Roots__Charge_run {O : Type} (k198 k199 : Sm O) : run (O := O) Tryz.prog [(198, k198), (199, k199)] Tryz.f111 (.n .z (.n (.d [] [0, 1, 2, 3, 5, 6, 7, 8, 10, 11, 12, 13, 4, 9, 14, 15, 16, 17, 18] [0, 1, 3, 7, 15, 0, 32, 96, 224, 511, 0, 1024, 3072, 7168, 16383, 32767, 65535, 131071, 262143]) .z)) = roots_Roots__Charge_c k198 k199 := by kernel_rfl
theorem roots_Roots__Charge_sound {O : Type} {RO : O → Loc → (Nat → Option Obj) → Prop} : FSound RO Tryz.prog 111 (roots_Roots__Charge) :=
   have h : FSound RO Tryz.prog 111 (roots_Roots__Charge_c frames_Frames__Words handles_Handles__Count) := (roots_Roots__Charge_run frames_Frames__Words handles_Handles__Count) ▸ run_sound (gcons frames_Frames__Words_ent (frames_Frames__Words_sound) <| gcons handles_Handles__Count_ent (handles_Handles__Count_sound) <| gnil) mixed Tryz.func111 (by kernel_rfl) _
   h

/-- (*haymow/heap.Heap).used -/
noncomputable def heap_Heap__used_c {O : Type} (k111 : Sm O) : Sm O := fun xs σ =>
 bif Nat.beq xs.length 1 then
 (AV.asP (xs.getD 0 .u)).bind fun p0 =>
 Option.bind p0 fun q1 =>
 (σ.ld q1.1 (q1.2 + 31)).bind fun w2 =>
 (AV.asI .i64 w2).bind fun n3 =>
 Option.bind p0 fun q4 =>
 (σ.ld q4.1 (q4.2 + 6)).bind fun w5 =>
 (AV.asP w5).bind fun p6 =>
 (k111 [(.p p6)] σ).bind fun r7 =>
 (AV.asI .i64 r7.1).bind fun n8 =>
 (chkE (r7.2.ld q1.1 (q1.2 + 31)) (some (.i .i64 n3))).bind fun _ =>
 some ((.i .i64 (IntKind.i64.wrap (n3 + n8))), r7.2)
 else none
noncomputable def heap_Heap__used {O : Type} : Sm O := heap_Heap__used_c roots_Roots__Charge
theorem heap_Heap__used_ent : Entered Tryz.prog 200 := Tryz.call200
theorem heap_Heap__used_run {O : Type} (k111 : Sm O) : run (O := O) Tryz.prog [(111, k111)] Tryz.f200 (.n .z (.n (.d [] [0, 1, 2, 3, 4, 5, 6, 7, 8, 9, 10] [0, 1, 3, 7, 0, 16, 48, 112, 240, 511, 1023]) .z)) = heap_Heap__used_c k111 := by kernel_rfl
theorem heap_Heap__used_sound {O : Type} {RO : O → Loc → (Nat → Option Obj) → Prop} : FSound RO Tryz.prog 200 (heap_Heap__used) :=
   have h : FSound RO Tryz.prog 200 (heap_Heap__used_c roots_Roots__Charge) := (heap_Heap__used_run roots_Roots__Charge) ▸ run_sound (gcons roots_Roots__Charge_ent (roots_Roots__Charge_sound) <| gnil) mixed Tryz.func200 (by kernel_rfl) _
   h

/-- haymow/gate.over -/
noncomputable def gate_over_c {O : Type} : Sm O := fun xs σ =>
 bif Nat.beq xs.length 3 then
 (AV.asI .i64 (xs.getD 0 .u)).bind fun n0 =>
 (AV.asI .i64 (xs.getD 1 .u)).bind fun n1 =>
 (AV.asI .i64 (xs.getD 2 .u)).bind fun n2 =>
 ((bif ((decide ((if 0 > n0 then 0 else n0) > n2)) == false) then
 let v3 : Int := (IntKind.i64.wrap (n2 - (if 0 > n0 then 0 else n0)))
 some ([(.b (decide ((if 0 > n1 then 0 else n1) > v3)))], σ)
 else some ([(.b true)], σ)) : Option (List AV × AH O)).bind fun r4 =>
 (AV.asB (r4.1.getD 0 .u)).bind fun b5 =>
 some ((.b b5), r4.2)
 else none
noncomputable def gate_over {O : Type} : Sm O := gate_over_c
theorem gate_over_ent : Entered Tryz.prog 410 := Tryz.call410
theorem gate_over_run {O : Type} : run (O := O) Tryz.prog [] Tryz.f410 (.n .z (.n .z (.n (.g [(3, 5, [(20, .one .b)])]) .z))) = gate_over_c  := by kernel_rfl
theorem gate_over_sound {O : Type} {RO : O → Loc → (Nat → Option Obj) → Prop} : FSound RO Tryz.prog 410 (gate_over) :=
   have h : FSound RO Tryz.prog 410 (gate_over_c) := (gate_over_run) ▸ run_sound (gnil) mixed Tryz.func410 (by kernel_rfl) _
   h

/-- (haymow/gate.Gate).Asks -/
noncomputable def gate_Gate__Asks_p {O : Type} (w : Words O) (k410 : Sm O) : Sm O := fun xs σ =>
 bif Nat.beq xs.length 3 then
 (AV.asAgg 8 (xs.getD 0 .u)).bind fun c0 =>
 w.U0 c0 fun n1 n2 n3 n4 n5 n6 n7 n8 =>
 (AV.asI .i64 (xs.getD 1 .u)).bind fun n9 =>
 (AV.asI .i64 (xs.getD 2 .u)).bind fun n10 =>
 let σ11 := σ.bump 1
 let σ12 := σ11.put σ.next (.cells true 148 (P1 n1 n2 n3 n4 n5 n6 n7 n8))
 (σ12.ld (.n σ.next) 5).bind fun w13 =>
 (AV.asI .i64 w13).bind fun n14 =>
 (k410 [J n9, J n10, J n14] σ12).bind fun r15 =>
 (AV.asB r15.1).bind fun b16 =>
 some ((.b b16), r15.2)
 else none
noncomputable def gate_Gate__Asks_c {O : Type} (k410 : Sm O) : Sm O := gate_Gate__Asks_p fastWords k410
noncomputable def gate_Gate__Asks {O : Type} : Sm O := gate_Gate__Asks_c gate_over
theorem gate_Gate__Asks_ent : Entered Tryz.prog 329 := Tryz.call329
theorem gate_Gate__Asks_run {O : Type} (k410 : Sm O) : run (O := O) Tryz.prog [(410, k410)] Tryz.f329 (.n .z .z) = gate_Gate__Asks_c k410 :=
 (show run (O := O) Tryz.prog [(410, k410)] Tryz.f329 (.n .z .z) = gate_Gate__Asks_p slowWords k410 by kernel_rfl).trans (congrArg (fun w => gate_Gate__Asks_p w k410) words_eq)
theorem gate_Gate__Asks_sound {O : Type} {RO : O → Loc → (Nat → Option Obj) → Prop} : FSound RO Tryz.prog 329 (gate_Gate__Asks) :=
   have h : FSound RO Tryz.prog 329 (gate_Gate__Asks_c gate_over) := (gate_Gate__Asks_run gate_over) ▸ run_sound (gcons gate_over_ent (gate_over_sound) <| gnil) mixed Tryz.func329 (by kernel_rfl) _
   h

/-- math/bits.Mul64 -/
noncomputable def bits_Mul64_c {O : Type} : Sm O := fun xs σ =>
 bif Nat.beq xs.length 2 then
 (AV.asI .u64 (xs.getD 0 .u)).bind fun n0 =>
 (AV.asI .u64 (xs.getD 1 .u)).bind fun n1 =>
 let v2 : Int := (IntKind.u64.wrap ((ibits .and .u64 n0 4294967295) * (ibits .and .u64 n1 4294967295)))
 let v3 : Int := (IntKind.u64.wrap ((Int.fdiv n0 (2 ^ 32)) * (ibits .and .u64 n1 4294967295)))
 let v4 : Int := (ibits .and .u64 (IntKind.u64.wrap (v3 + (Int.fdiv v2 (2 ^ 32)))) 4294967295)
 let v5 : Int := (Int.fdiv (IntKind.u64.wrap (v3 + (Int.fdiv v2 (2 ^ 32)))) (2 ^ 32))
 let v6 : Int := (IntKind.u64.wrap ((ibits .and .u64 n0 4294967295) * (Int.fdiv n1 (2 ^ 32))))
 let v7 : Int := (IntKind.u64.wrap ((Int.fdiv n0 (2 ^ 32)) * (Int.fdiv n1 (2 ^ 32))))
 let v8 : Int := (IntKind.u64.wrap ((IntKind.u64.wrap (v7 + v5)) + (Int.fdiv (IntKind.u64.wrap (v4 + v6)) (2 ^ 32))))
 some ((.tup [(.i .u64 v8), (.i .u64 (IntKind.u64.wrap (n0 * n1)))]), σ)
 else none
noncomputable def bits_Mul64 {O : Type} : Sm O := bits_Mul64_c
theorem bits_Mul64_ent : Entered Tryz.prog 464 := Tryz.call464
theorem bits_Mul64_run {O : Type} : run (O := O) Tryz.prog [] Tryz.f464 (.n .z (.n .z (.n .z (.n .z (.n .z (.n .z (.n .z (.n .z (.n .z (.n .z (.n .z .z))))))))))) = bits_Mul64_c  := by kernel_rfl
theorem bits_Mul64_sound {O : Type} {RO : O → Loc → (Nat → Option Obj) → Prop} : FSound RO Tryz.prog 464 (bits_Mul64) :=
   have h : FSound RO Tryz.prog 464 (bits_Mul64_c) := (bits_Mul64_run) ▸ run_sound (gnil) mixed Tryz.func464 (by kernel_rfl) _
   h

/-- haymow/wide.Mul -/
noncomputable def wide_Mul_c {O : Type} (k464 k311 : Sm O) : Sm O := fun xs σ =>
 bif Nat.beq xs.length 2 then
 (AV.asAgg 2 (xs.getD 0 .u)).bind fun c0 =>
 (AV.asI .u64 (c0.getD 0 .u)).bind fun n1 =>
 (AV.asI .u64 (c0.getD 1 .u)).bind fun n2 =>
 (AV.asI .u64 (xs.getD 1 .u)).bind fun n3 =>
 let σ4 := σ.bump 2
 let σ5 := σ4.put σ.next (.cells true 150 [(.i .u64 n1), (.i .u64 n2)])
 let σ6 := σ5.put (σ.next + 1) (.cells true 150 [(.i .u64 0), (.i .u64 0)])
 (σ6.ld (.n σ.next) 1).bind fun w7 =>
 (AV.asI .u64 w7).bind fun n8 =>
 (k464 [(.i .u64 n8), (.i .u64 n3)] σ6).bind fun r9 =>
 (AV.asTup 2 r9.1).bind fun c10 =>
 (AV.asI .u64 (c10.getD 0 .u)).bind fun n11 =>
 (AV.asI .u64 (c10.getD 1 .u)).bind fun n12 =>
 (r9.2.ld (.n σ.next) 0).bind fun w13 =>
 (AV.asI .u64 w13).bind fun n14 =>
 (k464 [(.i .u64 n14), (.i .u64 n3)] r9.2).bind fun r15 =>
 (AV.asTup 2 r15.1).bind fun c16 =>
 (AV.asI .u64 (c16.getD 0 .u)).bind fun n17 =>
 (AV.asI .u64 (c16.getD 1 .u)).bind fun n18 =>
 (k311 [(.i .u64 n18), (.i .u64 n11), (.i .u64 0)] r15.2).bind fun r19 =>
 (AV.asTup 2 r19.1).bind fun c20 =>
 (AV.asI .u64 (c20.getD 0 .u)).bind fun n21 =>
 (AV.asI .u64 (c20.getD 1 .u)).bind fun n22 =>
 ((bif (((n17 : Int) != 0) == false) then
 some ([(.b ((n22 : Int) != 0))], r19.2)
 else some ([(.b true)], r19.2)) : Option (List AV × AH O)).bind fun r23 =>
 (AV.asB (r23.1.getD 0 .u)).bind fun b24 =>
 (bif b24 then
 none
 else (r23.2.st (.n (σ.next + 1)) 0 [(.i .u64 n21), (.i .u64 n12)]).bind fun σ25 =>
 (σ25.ld (.n (σ.next + 1)) 0).bind fun w26 =>
 (AV.asI .u64 w26).bind fun n27 =>
 (σ25.ld (.n (σ.next + 1)) 1).bind fun w28 =>
 (AV.asI .u64 w28).bind fun n29 =>
 some ((.tup [(.agg [(.i .u64 n27), (.i .u64 n29)]), (.b true)]), σ25))
 else none
noncomputable def wide_Mul {O : Type} : Sm O := wide_Mul_c bits_Mul64 bits_Add64
theorem wide_Mul_ent : Entered Tryz.prog 402 := Tryz.call402
theorem wide_Mul_run {O : Type} (k464 k311 : Sm O) : run (O := O) Tryz.prog [(464, k464), (311, k311)] Tryz.f402 (.n .z (.n .z (.n .z (.n .z (.n (.n (.g [(2, 2, [(36, .one .b)])]) (.n .x .z)) .z))))) = wide_Mul_c k464 k311 := by kernel_rfl
theorem wide_Mul_sound {O : Type} {RO : O → Loc → (Nat → Option Obj) → Prop} : FSound RO Tryz.prog 402 (wide_Mul) :=
   have h : FSound RO Tryz.prog 402 (wide_Mul_c bits_Mul64 bits_Add64) := (wide_Mul_run bits_Mul64 bits_Add64) ▸ run_sound (gcons bits_Mul64_ent (bits_Mul64_sound) <| gext bits_Add64_ext <| gnil) mixed Tryz.func402 (by kernel_rfl) _
   h

/-- haymow/cost.of -/
noncomputable def cost_of_c {O : Type} (k214 k402 : Sm O) : Sm O := fun xs σ =>
 bif Nat.beq xs.length 2 then
 (AV.asI .i64 (xs.getD 0 .u)).bind fun n0 =>
 (AV.asI .u64 (xs.getD 1 .u)).bind fun n1 =>
 let σ2 := σ.bump 1
 let σ3 := σ2.put σ.next (.cells true 150 [(.i .u64 0), (.i .u64 0)])
 let σ4 := σ3.bump 1
 (k214 [(.i .u64 (IntKind.u64.wrap (if 0 > n0 then 0 else n0)))] σ4).bind fun r5 =>
 (AV.asAgg 2 r5.1).bind fun c6 =>
 (AV.asI .u64 (c6.getD 0 .u)).bind fun n7 =>
 (AV.asI .u64 (c6.getD 1 .u)).bind fun n8 =>
 (k402 [(.agg [(.i .u64 n7), (.i .u64 n8)]), (.i .u64 n1)] r5.2).bind fun r9 =>
 (AV.asTup 2 r9.1).bind fun c10 =>
 (AV.asAgg 2 (c10.getD 0 .u)).bind fun c11 =>
 (AV.asI .u64 (c11.getD 0 .u)).bind fun n12 =>
 (AV.asI .u64 (c11.getD 1 .u)).bind fun n13 =>
 (AV.asB (c10.getD 1 .u)).bind fun b14 =>
 let σ15 := r9.2.put σ3.next (.cells true 150 [(.i .u64 0), (.i .u64 0)])
 (σ15.st (.n σ3.next) 0 [(.i .u64 n12), (.i .u64 n13)]).bind fun σ16 =>
 (σ16.ld (.n σ3.next) 0).bind fun w17 =>
 (AV.asI .u64 w17).bind fun n18 =>
 (σ16.ld (.n σ3.next) 1).bind fun w19 =>
 (AV.asI .u64 w19).bind fun n20 =>
 (σ16.st (.n σ.next) 0 [(.i .u64 n18), (.i .u64 n20)]).bind fun σ21 =>
 (σ21.ld (.n σ.next) 0).bind fun w22 =>
 (AV.asI .u64 w22).bind fun n23 =>
 (σ21.ld (.n σ.next) 1).bind fun w24 =>
 (AV.asI .u64 w24).bind fun n25 =>
 some ((.agg [(.i .u64 n23), (.i .u64 n25)]), σ21)
 else none
noncomputable def cost_of {O : Type} : Sm O := cost_of_c wide_Of wide_Mul
theorem cost_of_ent : Entered Tryz.prog 318 := Tryz.call318
theorem cost_of_run {O : Type} (k214 k402 : Sm O) : run (O := O) Tryz.prog [(214, k214), (402, k402)] Tryz.f318 (.n .z (.n .z .z)) = cost_of_c k214 k402 := by kernel_rfl
theorem cost_of_sound {O : Type} {RO : O → Loc → (Nat → Option Obj) → Prop} : FSound RO Tryz.prog 318 (cost_of) :=
   have h : FSound RO Tryz.prog 318 (cost_of_c wide_Of wide_Mul) := (cost_of_run wide_Of wide_Mul) ▸ run_sound (gcons wide_Of_ent (wide_Of_sound) <| gcons wide_Mul_ent (wide_Mul_sound) <| gnil) mixed Tryz.func318 (by kernel_rfl) _
   h

/-- haymow/cost.sum -/
noncomputable def cost_sum_L1 {O : Type} (l0 : SA × Nat) (σ2 : AH O) (k208 : Sm O) : List AV × AH O → Option ((List AV × AH O) ⊕ (List AV × AH O)) := (fun r5 =>
 (AV.asI .i64 (r5.1.getD 0 .u)).bind fun n6 =>
 (bif (decide (n6 < (l0.2 : Int))) then
 let σ7 := r5.2.bump 1
 (bif ((decide ((0 : Int) ≤ n6)) && (decide (n6 < (l0.2 : Int)))) then
 (SA.ref l0.1).bind fun q8 =>
 (σ7.ld q8.1 (q8.2 + (n6.toNat * 2))).bind fun w9 =>
 (AV.asI .u64 w9).bind fun n10 =>
 (σ7.ld q8.1 ((q8.2 + (n6.toNat * 2)) + 1)).bind fun w11 =>
 (AV.asI .u64 w11).bind fun n12 =>
 let σ13 := σ7.put r5.2.next (.cells true 150 [(.i .u64 0), (.i .u64 0)])
 (σ13.st (.n r5.2.next) 0 [(.i .u64 n10), (.i .u64 n12)]).bind fun σ14 =>
 (σ14.ld (.n σ2.next) 0).bind fun w15 =>
 (AV.asI .u64 w15).bind fun n16 =>
 (σ14.ld (.n σ2.next) 1).bind fun w17 =>
 (AV.asI .u64 w17).bind fun n18 =>
 (σ14.ld (.n r5.2.next) 0).bind fun w19 =>
 (AV.asI .u64 w19).bind fun n20 =>
 (σ14.ld (.n r5.2.next) 1).bind fun w21 =>
 (AV.asI .u64 w21).bind fun n22 =>
 (k208 [(.agg [(.i .u64 n16), (.i .u64 n18)]), (.agg [(.i .u64 n20), (.i .u64 n22)])] σ14).bind fun r23 =>
 (AV.asTup 2 r23.1).bind fun c24 =>
 (AV.asAgg 2 (c24.getD 0 .u)).bind fun c25 =>
 (AV.asI .u64 (c25.getD 0 .u)).bind fun n26 =>
 (AV.asI .u64 (c25.getD 1 .u)).bind fun n27 =>
 (AV.asB (c24.getD 1 .u)).bind fun b28 =>
 (r23.2.st (.n σ2.next) 0 [(.i .u64 n26), (.i .u64 n27)]).bind fun σ29 =>
 some (Sum.inl ([(.i .i64 (IntKind.i64.wrap (n6 + 1)))], σ29))
 else none)
 else some (Sum.inr ([], r5.2))))
noncomputable def cost_sum_c {O : Type} (k208 : Sm O) : Sm O := fun xs σ =>
 bif Nat.beq xs.length 1 then
 (AV.asSl (xs.getD 0 .u)).bind fun l0 =>
 let σ1 := σ.bump 1
 let σ2 := σ1.put σ.next (.cells true 150 [(.i .u64 0), (.i .u64 0)])
 let σ3 := σ2.bump 1
 let σ4 := σ3.put σ2.next (.cells true 150 [(.i .u64 0), (.i .u64 0)])
 (loopF (S := List AV × AH O) (T := List AV × AH O) (cost_sum_L1 l0 σ2 k208) ([J 0], σ4)).bind fun r30 =>
 (r30.2.ld (.n σ2.next) 0).bind fun w31 =>
 (AV.asI .u64 w31).bind fun n32 =>
 (r30.2.ld (.n σ2.next) 1).bind fun w33 =>
 (AV.asI .u64 w33).bind fun n34 =>
 (r30.2.st (.n σ.next) 0 [(.i .u64 n32), (.i .u64 n34)]).bind fun σ35 =>
 (σ35.ld (.n σ.next) 0).bind fun w36 =>
 (AV.asI .u64 w36).bind fun n37 =>
 (σ35.ld (.n σ.next) 1).bind fun w38 =>
 (AV.asI .u64 w38).bind fun n39 =>
 some ((.agg [(.i .u64 n37), (.i .u64 n39)]), σ35)
 else none
noncomputable def cost_sum {O : Type} : Sm O := cost_sum_c wide_Add
theorem cost_sum_ent : Entered Tryz.prog 317 := Tryz.call317
theorem cost_sum_run {O : Type} (k208 : Sm O) : run (O := O) Tryz.prog [(208, k208)] Tryz.f317 (.n .z (.n .z (.n (.n .z (.n (.lp false 0 [(8, .one (.i .i64))] [] (.n .z (.n .z (.n (.n .z .z) .z)))) .z)) .z))) = cost_sum_c k208 := by kernel_rfl
theorem cost_sum_sound {O : Type} {RO : O → Loc → (Nat → Option Obj) → Prop} : FSound RO Tryz.prog 317 (cost_sum) :=
   have h : FSound RO Tryz.prog 317 (cost_sum_c wide_Add) := (cost_sum_run wide_Add) ▸ run_sound (gcons wide_Add_ent (wide_Add_sound) <| gnil) mixed Tryz.func317 (by kernel_rfl) _
   h

/-- haymow/cost.Deposit -/
noncomputable def cost_Deposit_c {O : Type} (k318 k317 : Sm O) : Sm O := fun xs σ =>
 bif Nat.beq xs.length 2 then
 (AV.asI .i64 (xs.getD 0 .u)).bind fun n0 =>
 (AV.asI .i64 (xs.getD 1 .u)).bind fun n1 =>
 let σ2 := σ.bump 1
 let σ3 := σ2.put σ.next (.cells true 150 [(.i .u64 0), (.i .u64 0)])
 let σ4 := σ3.bump 1
 (k318 [J n0, (.i .u64 64)] σ4).bind fun r5 =>
 (AV.asAgg 2 r5.1).bind fun c6 =>
 (AV.asI .u64 (c6.getD 0 .u)).bind fun n7 =>
 (AV.asI .u64 (c6.getD 1 .u)).bind fun n8 =>
 (k318 [J n1, (.i .u64 64)] r5.2).bind fun r9 =>
 (AV.asAgg 2 r9.1).bind fun c10 =>
 (AV.asI .u64 (c10.getD 0 .u)).bind fun n11 =>
 (AV.asI .u64 (c10.getD 1 .u)).bind fun n12 =>
 let σ13 := r9.2.put σ3.next (.cells true 150 [(.i .u64 n7), (.i .u64 n8), (.i .u64 n11), (.i .u64 n12)])
 (k317 [(.sl (.loc (.n σ3.next) 0 2) 2)] σ13).bind fun r14 =>
 (AV.asAgg 2 r14.1).bind fun c15 =>
 (AV.asI .u64 (c15.getD 0 .u)).bind fun n16 =>
 (AV.asI .u64 (c15.getD 1 .u)).bind fun n17 =>
 (r14.2.st (.n σ.next) 0 [(.i .u64 n16), (.i .u64 n17)]).bind fun σ18 =>
 (σ18.ld (.n σ.next) 0).bind fun w19 =>
 (AV.asI .u64 w19).bind fun n20 =>
 (σ18.ld (.n σ.next) 1).bind fun w21 =>
 (AV.asI .u64 w21).bind fun n22 =>
 some ((.agg [(.i .u64 n20), (.i .u64 n22)]), σ18)
 else none
noncomputable def cost_Deposit {O : Type} : Sm O := cost_Deposit_c cost_of cost_sum
theorem cost_Deposit_ent : Entered Tryz.prog 343 := Tryz.call343
theorem cost_Deposit_run {O : Type} (k318 k317 : Sm O) : run (O := O) Tryz.prog [(318, k318), (317, k317)] Tryz.f343 (.n .z .z) = cost_Deposit_c k318 k317 := by kernel_rfl
theorem cost_Deposit_sound {O : Type} {RO : O → Loc → (Nat → Option Obj) → Prop} : FSound RO Tryz.prog 343 (cost_Deposit) :=
   have h : FSound RO Tryz.prog 343 (cost_Deposit_c cost_of cost_sum) := (cost_Deposit_run cost_of cost_sum) ▸ run_sound (gcons cost_of_ent (cost_of_sound) <| gcons cost_sum_ent (cost_sum_sound) <| gnil) mixed Tryz.func343 (by kernel_rfl) _
   h

/-- (haymow/ledger.Ledger).in -/
noncomputable def ledger_Ledger__in_c {O : Type} (k208 : Sm O) : Sm O := fun xs σ =>
 bif Nat.beq xs.length 2 then
 (AV.asAgg 4 (xs.getD 0 .u)).bind fun c0 =>
 (AV.asI .u64 (c0.getD 0 .u)).bind fun n1 =>
 (AV.asI .u64 (c0.getD 1 .u)).bind fun n2 =>
 (AV.asI .u64 (c0.getD 2 .u)).bind fun n3 =>
 (AV.asI .u64 (c0.getD 3 .u)).bind fun n4 =>
 (AV.asAgg 2 (xs.getD 1 .u)).bind fun c5 =>
 (AV.asI .u64 (c5.getD 0 .u)).bind fun n6 =>
 (AV.asI .u64 (c5.getD 1 .u)).bind fun n7 =>
 let σ8 := σ.bump 3
 let σ9 := σ8.put σ.next (.cells true 154 [(.i .u64 n1), (.i .u64 n2), (.i .u64 n3), (.i .u64 n4)])
 let σ10 := σ9.put (σ.next + 1) (.cells true 150 [(.i .u64 n6), (.i .u64 n7)])
 let σ11 := σ10.put ((σ.next + 1) + 1) (.cells true 154 [(.i .u64 0), (.i .u64 0), (.i .u64 0), (.i .u64 0)])
 (σ11.ld (.n σ.next) 0).bind fun w12 =>
 (AV.asI .u64 w12).bind fun n13 =>
 (σ11.ld (.n σ.next) 1).bind fun w14 =>
 (AV.asI .u64 w14).bind fun n15 =>
 (σ11.ld (.n (σ.next + 1)) 0).bind fun w16 =>
 (AV.asI .u64 w16).bind fun n17 =>
 (σ11.ld (.n (σ.next + 1)) 1).bind fun w18 =>
 (AV.asI .u64 w18).bind fun n19 =>
 (k208 [(.agg [(.i .u64 n13), (.i .u64 n15)]), (.agg [(.i .u64 n17), (.i .u64 n19)])] σ11).bind fun r20 =>
 (AV.asTup 2 r20.1).bind fun c21 =>
 (AV.asAgg 2 (c21.getD 0 .u)).bind fun c22 =>
 (AV.asI .u64 (c22.getD 0 .u)).bind fun n23 =>
 (AV.asI .u64 (c22.getD 1 .u)).bind fun n24 =>
 (AV.asB (c21.getD 1 .u)).bind fun b25 =>
 (r20.2.st (.n σ.next) 0 [(.i .u64 n23), (.i .u64 n24)]).bind fun σ26 =>
 (σ26.ld (.n σ.next) 0).bind fun w27 =>
 (AV.asI .u64 w27).bind fun n28 =>
 (σ26.ld (.n σ.next) 1).bind fun w29 =>
 (AV.asI .u64 w29).bind fun n30 =>
 (σ26.ld (.n σ.next) 2).bind fun w31 =>
 (AV.asI .u64 w31).bind fun n32 =>
 (σ26.ld (.n σ.next) 3).bind fun w33 =>
 (AV.asI .u64 w33).bind fun n34 =>
 (σ26.st (.n ((σ.next + 1) + 1)) 0 [(.i .u64 n28), (.i .u64 n30), (.i .u64 n32), (.i .u64 n34)]).bind fun σ35 =>
 (σ35.ld (.n ((σ.next + 1) + 1)) 0).bind fun w36 =>
 (AV.asI .u64 w36).bind fun n37 =>
 (σ35.ld (.n ((σ.next + 1) + 1)) 1).bind fun w38 =>
 (AV.asI .u64 w38).bind fun n39 =>
 (σ35.ld (.n ((σ.next + 1) + 1)) 2).bind fun w40 =>
 (AV.asI .u64 w40).bind fun n41 =>
 (σ35.ld (.n ((σ.next + 1) + 1)) 3).bind fun w42 =>
 (AV.asI .u64 w42).bind fun n43 =>
 some ((.agg [(.i .u64 n37), (.i .u64 n39), (.i .u64 n41), (.i .u64 n43)]), σ35)
 else none
noncomputable def ledger_Ledger__in {O : Type} : Sm O := ledger_Ledger__in_c wide_Add
theorem ledger_Ledger__in_ent : Entered Tryz.prog 342 := Tryz.call342
theorem ledger_Ledger__in_run {O : Type} (k208 : Sm O) : run (O := O) Tryz.prog [(208, k208)] Tryz.f342 (.n .z (.n .z .z)) = ledger_Ledger__in_c k208 := by kernel_rfl
theorem ledger_Ledger__in_sound {O : Type} {RO : O → Loc → (Nat → Option Obj) → Prop} : FSound RO Tryz.prog 342 (ledger_Ledger__in) :=
   have h : FSound RO Tryz.prog 342 (ledger_Ledger__in_c wide_Add) := (ledger_Ledger__in_run wide_Add) ▸ run_sound (gcons wide_Add_ent (wide_Add_sound) <| gnil) mixed Tryz.func342 (by kernel_rfl) _
   h

/-- (haymow/ledger.Ledger).Deposit -/
noncomputable def ledger_Ledger__Deposit_c {O : Type} (k343 k342 : Sm O) : Sm O := fun xs σ =>
 bif Nat.beq xs.length 3 then
 (AV.asAgg 4 (xs.getD 0 .u)).bind fun c0 =>
 (AV.asI .u64 (c0.getD 0 .u)).bind fun n1 =>
 (AV.asI .u64 (c0.getD 1 .u)).bind fun n2 =>
 (AV.asI .u64 (c0.getD 2 .u)).bind fun n3 =>
 (AV.asI .u64 (c0.getD 3 .u)).bind fun n4 =>
 (AV.asI .i64 (xs.getD 1 .u)).bind fun n5 =>
 (AV.asI .i64 (xs.getD 2 .u)).bind fun n6 =>
 let σ7 := σ.bump 2
 let σ8 := σ7.put σ.next (.cells true 154 [(.i .u64 n1), (.i .u64 n2), (.i .u64 n3), (.i .u64 n4)])
 let σ9 := σ8.put (σ.next + 1) (.cells true 154 [(.i .u64 0), (.i .u64 0), (.i .u64 0), (.i .u64 0)])
 (σ9.ld (.n σ.next) 0).bind fun w10 =>
 (AV.asI .u64 w10).bind fun n11 =>
 (σ9.ld (.n σ.next) 1).bind fun w12 =>
 (AV.asI .u64 w12).bind fun n13 =>
 (σ9.ld (.n σ.next) 2).bind fun w14 =>
 (AV.asI .u64 w14).bind fun n15 =>
 (σ9.ld (.n σ.next) 3).bind fun w16 =>
 (AV.asI .u64 w16).bind fun n17 =>
 (k343 [J n5, J n6] σ9).bind fun r18 =>
 (AV.asAgg 2 r18.1).bind fun c19 =>
 (AV.asI .u64 (c19.getD 0 .u)).bind fun n20 =>
 (AV.asI .u64 (c19.getD 1 .u)).bind fun n21 =>
 (chkE (r18.2.ld (.n σ.next) 0) (some (.i .u64 n11))).bind fun _ =>
 (chkE (r18.2.ld (.n σ.next) 1) (some (.i .u64 n13))).bind fun _ =>
 (chkE (r18.2.ld (.n σ.next) 2) (some (.i .u64 n15))).bind fun _ =>
 (chkE (r18.2.ld (.n σ.next) 3) (some (.i .u64 n17))).bind fun _ =>
 (k342 [(.agg [(.i .u64 n11), (.i .u64 n13), (.i .u64 n15), (.i .u64 n17)]), (.agg [(.i .u64 n20), (.i .u64 n21)])] r18.2).bind fun r22 =>
 (AV.asAgg 4 r22.1).bind fun c23 =>
 (AV.asI .u64 (c23.getD 0 .u)).bind fun n24 =>
 (AV.asI .u64 (c23.getD 1 .u)).bind fun n25 =>
 (AV.asI .u64 (c23.getD 2 .u)).bind fun n26 =>
 (AV.asI .u64 (c23.getD 3 .u)).bind fun n27 =>
 (r22.2.st (.n (σ.next + 1)) 0 [(.i .u64 n24), (.i .u64 n25), (.i .u64 n26), (.i .u64 n27)]).bind fun σ28 =>
 (σ28.ld (.n (σ.next + 1)) 0).bind fun w29 =>
 (AV.asI .u64 w29).bind fun n30 =>
 (σ28.ld (.n (σ.next + 1)) 1).bind fun w31 =>
 (AV.asI .u64 w31).bind fun n32 =>
 (σ28.ld (.n (σ.next + 1)) 2).bind fun w33 =>
 (AV.asI .u64 w33).bind fun n34 =>
 (σ28.ld (.n (σ.next + 1)) 3).bind fun w35 =>
 (AV.asI .u64 w35).bind fun n36 =>
 some ((.agg [(.i .u64 n30), (.i .u64 n32), (.i .u64 n34), (.i .u64 n36)]), σ28)
 else none
noncomputable def ledger_Ledger__Deposit {O : Type} : Sm O := ledger_Ledger__Deposit_c cost_Deposit ledger_Ledger__in
theorem ledger_Ledger__Deposit_ent : Entered Tryz.prog 266 := Tryz.call266
theorem ledger_Ledger__Deposit_run {O : Type} (k343 k342 : Sm O) : run (O := O) Tryz.prog [(343, k343), (342, k342)] Tryz.f266 (.n .z (.n (.d [] [0, 1, 2, 3, 4, 5] [0, 0, 0, 6, 15, 31]) .z)) = ledger_Ledger__Deposit_c k343 k342 := by kernel_rfl
theorem ledger_Ledger__Deposit_sound {O : Type} {RO : O → Loc → (Nat → Option Obj) → Prop} : FSound RO Tryz.prog 266 (ledger_Ledger__Deposit) :=
   have h : FSound RO Tryz.prog 266 (ledger_Ledger__Deposit_c cost_Deposit ledger_Ledger__in) := (ledger_Ledger__Deposit_run cost_Deposit ledger_Ledger__in) ▸ run_sound (gcons cost_Deposit_ent (cost_Deposit_sound) <| gcons ledger_Ledger__in_ent (ledger_Ledger__in_sound) <| gnil) mixed Tryz.func266 (by kernel_rfl) _
   h

/-- (*haymow/heap.Heap).request -/
noncomputable def heap_Heap__request_c {O : Type} (k200 k329 k266 : Sm O) : Sm O := fun xs σ =>
 bif Nat.beq xs.length 2 then
 (AV.asP (xs.getD 0 .u)).bind fun p0 =>
 (AV.asI .i64 (xs.getD 1 .u)).bind fun n1 =>
 Option.bind p0 fun q2 =>
 (σ.ld q2.1 (q2.2 + 7)).bind fun w3 =>
 (AV.asI .i64 w3).bind fun n4 =>
 (σ.ld q2.1 ((q2.2 + 7) + 1)).bind fun w5 =>
 (AV.asI .i64 w5).bind fun n6 =>
 (σ.ld q2.1 (((q2.2 + 7) + 1) + 1)).bind fun w7 =>
 (AV.asI .i64 w7).bind fun n8 =>
 (σ.ld q2.1 ((((q2.2 + 7) + 1) + 1) + 1)).bind fun w9 =>
 (AV.asI .i64 w9).bind fun n10 =>
 (σ.ld q2.1 (((((q2.2 + 7) + 1) + 1) + 1) + 1)).bind fun w11 =>
 (AV.asI .i64 w11).bind fun n12 =>
 (σ.ld q2.1 ((((((q2.2 + 7) + 1) + 1) + 1) + 1) + 1)).bind fun w13 =>
 (AV.asI .i64 w13).bind fun n14 =>
 (σ.ld q2.1 (((((((q2.2 + 7) + 1) + 1) + 1) + 1) + 1) + 1)).bind fun w15 =>
 (AV.asI .i64 w15).bind fun n16 =>
 (σ.ld q2.1 ((((((((q2.2 + 7) + 1) + 1) + 1) + 1) + 1) + 1) + 1)).bind fun w17 =>
 (AV.asI .i64 w17).bind fun n18 =>
 (k200 [(.p p0)] σ).bind fun r19 =>
 (AV.asI .i64 r19.1).bind fun n20 =>
 (chkE (r19.2.ld q2.1 (q2.2 + 7)) (some (.i .i64 n4))).bind fun _ =>
 (chkE (r19.2.ld q2.1 ((q2.2 + 7) + 1)) (some (.i .i64 n6))).bind fun _ =>
 (chkE (r19.2.ld q2.1 (((q2.2 + 7) + 1) + 1)) (some (.i .i64 n8))).bind fun _ =>
 (chkE (r19.2.ld q2.1 ((((q2.2 + 7) + 1) + 1) + 1)) (some (.i .i64 n10))).bind fun _ =>
 (chkE (r19.2.ld q2.1 (((((q2.2 + 7) + 1) + 1) + 1) + 1)) (some (.i .i64 n12))).bind fun _ =>
 (chkE (r19.2.ld q2.1 ((((((q2.2 + 7) + 1) + 1) + 1) + 1) + 1)) (some (.i .i64 n14))).bind fun _ =>
 (chkE (r19.2.ld q2.1 (((((((q2.2 + 7) + 1) + 1) + 1) + 1) + 1) + 1)) (some (.i .i64 n16))).bind fun _ =>
 (chkE (r19.2.ld q2.1 ((((((((q2.2 + 7) + 1) + 1) + 1) + 1) + 1) + 1) + 1)) (some (.i .i64 n18))).bind fun _ =>
 (k329 [(.agg (P1 n4 n6 n8 n10 n12 n14 n16 n18)), J n20, J n1] r19.2).bind fun r21 =>
 (AV.asB r21.1).bind fun b22 =>
 (bif b22 then
 none
 else Option.bind p0 fun q23 =>
 (r21.2.ld q23.1 ((q23.2 + 32) + 3)).bind fun w24 =>
 (AV.asI .i64 w24).bind fun n25 =>
 Option.bind p0 fun q26 =>
 (r21.2.st q26.1 ((q26.2 + 32) + 3) [(.i .i64 (IntKind.i64.wrap (n25 + n1)))]).bind fun σ27 =>
 Option.bind p0 fun q28 =>
 (σ27.ld q28.1 (q28.2 + 15)).bind fun w29 =>
 (AV.asI .u64 w29).bind fun n30 =>
 (σ27.ld q28.1 ((q28.2 + 15) + 1)).bind fun w31 =>
 (AV.asI .u64 w31).bind fun n32 =>
 (σ27.ld q28.1 (((q28.2 + 15) + 1) + 1)).bind fun w33 =>
 (AV.asI .u64 w33).bind fun n34 =>
 (σ27.ld q28.1 ((((q28.2 + 15) + 1) + 1) + 1)).bind fun w35 =>
 (AV.asI .u64 w35).bind fun n36 =>
 (k266 [(.agg [(.i .u64 n30), (.i .u64 n32), (.i .u64 n34), (.i .u64 n36)]), J n1, J 0] σ27).bind fun r37 =>
 (AV.asAgg 4 r37.1).bind fun c38 =>
 (AV.asI .u64 (c38.getD 0 .u)).bind fun n39 =>
 (AV.asI .u64 (c38.getD 1 .u)).bind fun n40 =>
 (AV.asI .u64 (c38.getD 2 .u)).bind fun n41 =>
 (AV.asI .u64 (c38.getD 3 .u)).bind fun n42 =>
 Option.bind p0 fun q43 =>
 (r37.2.st q43.1 (q43.2 + 15) [(.i .u64 n39), (.i .u64 n40), (.i .u64 n41), (.i .u64 n42)]).bind fun σ44 =>
 some (J 0, σ44))
 else none
noncomputable def heap_Heap__request {O : Type} : Sm O := heap_Heap__request_c heap_Heap__used gate_Gate__Asks ledger_Ledger__Deposit
theorem heap_Heap__request_ent : Entered Tryz.prog 231 := Tryz.call231
theorem heap_Heap__request_run {O : Type} (k200 k329 k266 : Sm O) : run (O := O) Tryz.prog [(200, k200), (329, k329), (266, k266)] Tryz.f231 (.n .z (.n (.n (.d [] [0, 1, 2, 3, 4, 6, 5, 7] [0, 1, 3, 7, 0, 16, 0, 127]) (.n .x .z)) (.n .z (.n .z .z)))) = heap_Heap__request_c k200 k329 k266 := by kernel_rfl
theorem heap_Heap__request_sound {O : Type} {RO : O → Loc → (Nat → Option Obj) → Prop} : FSound RO Tryz.prog 231 (heap_Heap__request) :=
   have h : FSound RO Tryz.prog 231 (heap_Heap__request_c heap_Heap__used gate_Gate__Asks ledger_Ledger__Deposit) := (heap_Heap__request_run heap_Heap__used gate_Gate__Asks ledger_Ledger__Deposit) ▸ run_sound (gcons heap_Heap__used_ent (heap_Heap__used_sound) <| gcons gate_Gate__Asks_ent (gate_Gate__Asks_sound) <| gcons ledger_Ledger__Deposit_ent (ledger_Ledger__Deposit_sound) <| gnil) mixed Tryz.func231 (by kernel_rfl) _
   h

/-- haymow/header.fields -/
noncomputable def header_fields_L1 {O : Type} (n4 : Int) (n6 : Int) (n8 : Int) (n10 : Int) (n12 : Int) : List AV × AH O → Option ((List AV × AH O) ⊕ (List AV × AH O)) := (fun r13 =>
 (AV.asSl (r13.1.getD 0 .u)).bind fun l14 =>
 (AV.asI .i64 (r13.1.getD 1 .u)).bind fun n15 =>
 (AV.asI .i64 (r13.1.getD 2 .u)).bind fun n16 =>
 (bif (decide (n16 < 5)) then
 (bif ((decide ((0 : Int) ≤ n16)) && (decide (n16 < 5))) then
 (([J n4, J n6, J n8, J n10, J n12] : List AV)[(n16.toNat * 1)]?).bind fun w17 =>
 (AV.asI .i64 w17).bind fun n18 =>
 let σ19 := r13.2.bump 2
 let σ20 := σ19.put r13.2.next (.cells true 330 [J n15, J n18])
 (σ20.rdSl (.loc (.n r13.2.next) 0 2) 1 2).bind fun new21 =>
 (bif (Nat.ble ((l14.2 + 1) * 17) 35184372088832) then
 (σ20.appSl (r13.2.next + 1) 330 2 l14.1 l14.2 1 new21).bind fun r22 =>
 (AV.asSl r22.1).bind fun l23 =>
 some (Sum.inl ([L l23, (.i .i64 (IntKind.i64.wrap (n15 + n18))), (.i .i64 (IntKind.i64.wrap (n16 + 1)))], r22.2))
 else none)
 else none)
 else some (Sum.inr ([L l14], r13.2))))
noncomputable def header_fields_c {O : Type} : Sm O := fun xs σ =>
 bif Nat.beq xs.length 0 then
 let σ0 := σ.bump 1
 let σ1 := σ0.put σ.next (.cells true 65 [J 0, J 0, J 0, J 0, J 0])
 (σ1.st (.n σ.next) 0 [J 12, J 12, J 5, J 3, J 1]).bind fun σ2 =>
 (σ2.ld (.n σ.next) 0).bind fun w3 =>
 (AV.asI .i64 w3).bind fun n4 =>
 (σ2.ld (.n σ.next) 1).bind fun w5 =>
 (AV.asI .i64 w5).bind fun n6 =>
 (σ2.ld (.n σ.next) 2).bind fun w7 =>
 (AV.asI .i64 w7).bind fun n8 =>
 (σ2.ld (.n σ.next) 3).bind fun w9 =>
 (AV.asI .i64 w9).bind fun n10 =>
 (σ2.ld (.n σ.next) 4).bind fun w11 =>
 (AV.asI .i64 w11).bind fun n12 =>
 (loopF (S := List AV × AH O) (T := List AV × AH O) (header_fields_L1 n4 n6 n8 n10 n12) ([N, J 0, J 0], σ2)).bind fun r24 =>
 (AV.asSl (r24.1.getD 0 .u)).bind fun l25 =>
 let σ26 := r24.2.bump 2
 let σ27 := σ26.put r24.2.next (.cells true 330 [J 62, J 1])
 (σ27.rdSl (.loc (.n r24.2.next) 0 2) 1 2).bind fun new28 =>
 (bif (Nat.ble ((l25.2 + 1) * 17) 35184372088832) then
 (σ27.appSl (r24.2.next + 1) 330 2 l25.1 l25.2 1 new28).bind fun r29 =>
 (AV.asSl r29.1).bind fun l30 =>
 some (L l30, r29.2)
 else none)
 else none
noncomputable def header_fields {O : Type} : Sm O := header_fields_c
theorem header_fields_ent : Entered Tryz.prog 184 := Tryz.call184
theorem header_fields_run {O : Type} : run (O := O) Tryz.prog [] Tryz.f184 (.n .z (.n .z (.n .z (.n .z (.n (.n .z (.n (.lp false 0 [(2, .one .sl), (3, .one (.i .i64)), (8, .one (.i .i64))] [(2, .one .sl)] (.n .z (.n .z (.n (.n (.n .z .z) .z) .z)))) .z)) .z))))) = header_fields_c  := by kernel_rfl
theorem header_fields_sound {O : Type} {RO : O → Loc → (Nat → Option Obj) → Prop} : FSound RO Tryz.prog 184 (header_fields) :=
   have h : FSound RO Tryz.prog 184 (header_fields_c) := (header_fields_run) ▸ run_sound (gnil) mixed Tryz.func184 (by kernel_rfl) _
   h

/-- haymow/field.Right -/
noncomputable def field_Right_c {O : Type} : Sm O := fun xs σ =>
 bif Nat.beq xs.length 1 then
 (AV.asAgg 2 (xs.getD 0 .u)).bind fun c0 =>
 I6 c0 0 fun n1 => I6 c0 1 fun n2 => let σ3 := σ.bump 1
 let σ4 := σ3.put σ.next (.cells true 330 [J n1, J n2])
 (σ4.ld (.n σ.next) 1).bind fun w5 =>
 (AV.asI .i64 w5).bind fun n6 =>
 ((bif ((decide (n6 ≥ 1)) == true) then
 (σ4.ld (.n σ.next) 1).bind fun w7 =>
 (AV.asI .i64 w7).bind fun n8 =>
 some ([(.b (decide (n8 ≤ 64)))], σ4)
 else some ([(.b false)], σ4)) : Option (List AV × AH O)).bind fun r9 =>
 (AV.asB (r9.1.getD 0 .u)).bind fun b10 =>
 ((bif (b10 == true) then
 (r9.2.ld (.n σ.next) 0).bind fun w11 =>
 (AV.asI .i64 w11).bind fun n12 =>
 some ([(.b (decide (n12 ≥ 0)))], r9.2)
 else some ([(.b false)], r9.2)) : Option (List AV × AH O)).bind fun r13 =>
 (AV.asB (r13.1.getD 0 .u)).bind fun b14 =>
 ((bif (b14 == true) then
 (r13.2.ld (.n σ.next) 0).bind fun w15 =>
 (AV.asI .i64 w15).bind fun n16 =>
 (r13.2.ld (.n σ.next) 1).bind fun w17 =>
 (AV.asI .i64 w17).bind fun n18 =>
 some ([(.b (decide (n16 ≤ (IntKind.i64.wrap (64 - n18)))))], r13.2)
 else some ([(.b false)], r13.2)) : Option (List AV × AH O)).bind fun r19 =>
 (AV.asB (r19.1.getD 0 .u)).bind fun b20 =>
 some ((.b b20), r19.2)
 else none
noncomputable def field_Right {O : Type} : Sm O := field_Right_c
theorem field_Right_ent : Entered Tryz.prog 285 := Tryz.call285
theorem field_Right_run {O : Type} : run (O := O) Tryz.prog [] Tryz.f285 (.n .z (.n (.g [(3, 3, [(10, .one .b)]), (8, 3, [(15, .one .b)]), (13, 6, [(23, .one .b)])]) .z)) = field_Right_c  := by kernel_rfl
theorem field_Right_sound {O : Type} {RO : O → Loc → (Nat → Option Obj) → Prop} : FSound RO Tryz.prog 285 (field_Right) :=
   have h : FSound RO Tryz.prog 285 (field_Right_c) := (field_Right_run) ▸ run_sound (gnil) mixed Tryz.func285 (by kernel_rfl) _
   h

/-- haymow/field.Mask -/
noncomputable def field_Mask_c {O : Type} (k285 : Sm O) : Sm O := fun xs σ =>
 bif Nat.beq xs.length 1 then
 (AV.asAgg 2 (xs.getD 0 .u)).bind fun c0 =>
 I6 c0 0 fun n1 => I6 c0 1 fun n2 => let σ3 := σ.bump 1
 let σ4 := σ3.put σ.next (.cells true 330 [J n1, J n2])
 (σ4.ld (.n σ.next) 0).bind fun w5 =>
 (AV.asI .i64 w5).bind fun n6 =>
 (σ4.ld (.n σ.next) 1).bind fun w7 =>
 (AV.asI .i64 w7).bind fun n8 =>
 (k285 [(.agg [J n6, J n8])] σ4).bind fun r9 =>
 (AV.asB r9.1).bind fun b10 =>
 (bif (!b10) then
 none
 else (r9.2.ld (.n σ.next) 1).bind fun w11 =>
 (AV.asI .i64 w11).bind fun n12 =>
 (bif (decide ((IntKind.i64.wrap (64 - n12)) < 0)) then
 none
 else let v13 : Int := (Int.fdiv 18446744073709551615 (2 ^ min (IntKind.i64.wrap (64 - n12)).toNat 64))
 (r9.2.ld (.n σ.next) 0).bind fun w14 =>
 (AV.asI .i64 w14).bind fun n15 =>
 (bif (decide (n15 < 0)) then
 none
 else some ((.i .u64 (IntKind.u64.wrap (v13 * 2 ^ min n15.toNat 64))), r9.2))))
 else none
noncomputable def field_Mask {O : Type} : Sm O := field_Mask_c field_Right
theorem field_Mask_ent : Entered Tryz.prog 286 := Tryz.call286
theorem field_Mask_run {O : Type} (k285 : Sm O) : run (O := O) Tryz.prog [(285, k285)] Tryz.f286 (.n .z (.n (.n .z (.n .x .z)) (.n (.d [] [0, 1, 2, 3, 4, 5, 6, 7] [0, 1, 3, 7, 0, 16, 63, 127]) .z))) = field_Mask_c k285 := by kernel_rfl
theorem field_Mask_sound {O : Type} {RO : O → Loc → (Nat → Option Obj) → Prop} : FSound RO Tryz.prog 286 (field_Mask) :=
   have h : FSound RO Tryz.prog 286 (field_Mask_c field_Right) := (field_Mask_run field_Right) ▸ run_sound (gcons field_Right_ent (field_Right_sound) <| gnil) mixed Tryz.func286 (by kernel_rfl) _
   h

/-- haymow/field.Apart -/
noncomputable def field_Apart_L1 {O : Type} (l0 : SA × Nat) (k286 : Sm O) : List AV × AH O → Option ((List AV × AH O) ⊕ (List AV × AH O)) := (fun r1 =>
 (AV.asI .u64 (r1.1.getD 0 .u)).bind fun n2 =>
 (AV.asI .i64 (r1.1.getD 1 .u)).bind fun n3 =>
 (bif (decide (n3 < (l0.2 : Int))) then
 let σ4 := r1.2.bump 1
 (bif ((decide ((0 : Int) ≤ n3)) && (decide (n3 < (l0.2 : Int)))) then
 (SA.ref l0.1).bind fun q5 =>
 (σ4.ld q5.1 (q5.2 + (n3.toNat * 2))).bind fun w6 =>
 (AV.asI .i64 w6).bind fun n7 =>
 (σ4.ld q5.1 ((q5.2 + (n3.toNat * 2)) + 1)).bind fun w8 =>
 (AV.asI .i64 w8).bind fun n9 =>
 let σ10 := σ4.put r1.2.next (.cells true 330 [J 0, J 0])
 (σ10.st (.n r1.2.next) 0 [J n7, J n9]).bind fun σ11 =>
 (σ11.ld (.n r1.2.next) 0).bind fun w12 =>
 (AV.asI .i64 w12).bind fun n13 =>
 (σ11.ld (.n r1.2.next) 1).bind fun w14 =>
 (AV.asI .i64 w14).bind fun n15 =>
 (k286 [(.agg [J n13, J n15])] σ11).bind fun r16 =>
 (AV.asI .u64 r16.1).bind fun n17 =>
 ((bif (((n17 : Int) == 0) == false) then
 some ([(.b (((ibits .and .u64 n2 n17) : Int) != 0))], r16.2)
 else some ([(.b true)], r16.2)) : Option (List AV × AH O)).bind fun r18 =>
 (AV.asB (r18.1.getD 0 .u)).bind fun b19 =>
 (bif b19 then
 none
 else some (Sum.inl ([(.i .u64 (ibits .or .u64 n2 n17)), (.i .i64 (IntKind.i64.wrap (n3 + 1)))], r18.2)))
 else none)
 else some (Sum.inr ([], r1.2))))
noncomputable def field_Apart_c {O : Type} (k286 : Sm O) : Sm O := fun xs σ =>
 bif Nat.beq xs.length 1 then
 (AV.asSl (xs.getD 0 .u)).bind fun l0 =>
 (loopF (S := List AV × AH O) (T := List AV × AH O) (field_Apart_L1 l0 k286) ([(.i .u64 0), J 0], σ)).bind fun r20 =>
 some ((.b true), r20.2)
 else none
noncomputable def field_Apart {O : Type} : Sm O := field_Apart_c field_Mask
theorem field_Apart_ent : Entered Tryz.prog 367 := Tryz.call367
theorem field_Apart_run {O : Type} (k286 : Sm O) : run (O := O) Tryz.prog [(286, k286)] Tryz.f367 (.n .z (.n .z (.n (.n .z (.n (.lp false 0 [(3, .one (.i .u64)), (9, .one (.i .i64))] [] (.n .z (.n .z (.n (.n (.n .z (.n .z (.n (.n (.g [(2, 4, [(22, .one .b)])]) (.n .x .z)) .z))) .z) .z)))) .z)) .z))) = field_Apart_c k286 := by kernel_rfl
theorem field_Apart_sound {O : Type} {RO : O → Loc → (Nat → Option Obj) → Prop} : FSound RO Tryz.prog 367 (field_Apart) :=
   have h : FSound RO Tryz.prog 367 (field_Apart_c field_Mask) := (field_Apart_run field_Mask) ▸ run_sound (gcons field_Mask_ent (field_Mask_sound) <| gnil) mixed Tryz.func367 (by kernel_rfl) _
   h

/-- math/bits.Len64 -/
noncomputable def bits_Len64_c {O : Type} : Sm O := fun xs σ =>
 bif Nat.beq xs.length 1 then
 (AV.asI .u64 (xs.getD 0 .u)).bind fun n0 =>
 (bif (decide (n0 ≥ 4294967296)) then
 none
 else (bif (decide (n0 ≥ 65536)) then
 none
 else (bif (decide (n0 ≥ 256)) then
 none
 else (bif (decide ((0 : Int) ≤ (IntKind.u8.wrap n0))) then
 (([0, 1, 2, 2, 3, 3, 3, 3, 4, 4, 4, 4, 4, 4, 4, 4, 5, 5, 5, 5, 5, 5, 5, 5, 5, 5, 5, 5, 5, 5, 5, 5, 6, 6, 6, 6, 6, 6, 6, 6, 6, 6, 6, 6, 6, 6, 6, 6, 6, 6, 6, 6, 6, 6, 6, 6, 6, 6, 6, 6, 6, 6, 6, 6, 7, 7, 7, 7, 7, 7, 7, 7, 7, 7, 7, 7, 7, 7, 7, 7, 7, 7, 7, 7, 7, 7, 7, 7, 7, 7, 7, 7, 7, 7, 7, 7, 7, 7, 7, 7, 7, 7, 7, 7, 7, 7, 7, 7, 7, 7, 7, 7, 7, 7, 7, 7, 7, 7, 7, 7, 7, 7, 7, 7, 7, 7, 7, 7, 8, 8, 8, 8, 8, 8, 8, 8, 8, 8, 8, 8, 8, 8, 8, 8, 8, 8, 8, 8, 8, 8, 8, 8, 8, 8, 8, 8, 8, 8, 8, 8, 8, 8, 8, 8, 8, 8, 8, 8, 8, 8, 8, 8, 8, 8, 8, 8, 8, 8, 8, 8, 8, 8, 8, 8, 8, 8, 8, 8, 8, 8, 8, 8, 8, 8, 8, 8, 8, 8, 8, 8, 8, 8, 8, 8, 8, 8, 8, 8, 8, 8, 8, 8, 8, 8, 8, 8, 8, 8, 8, 8, 8, 8, 8, 8, 8, 8, 8, 8, 8, 8, 8, 8, 8, 8, 8, 8, 8, 8, 8, 8, 8, 8, 8, 8, 8, 8, 8, 8, 8, 8, 8, 8, 8, 8, 8, 8] : List UInt8)[(IntKind.u8.wrap n0).toNat]?).bind fun y1 =>
 let v2 : Int := (IntKind.i64.wrap (0 + (IntKind.i64.wrap (y1.toNat : Int))))
 some (J v2, σ)
 else none))))
 else none
noncomputable def bits_Len64 {O : Type} : Sm O := bits_Len64_c
theorem bits_Len64_ent : Entered Tryz.prog 446 := Tryz.call446
theorem bits_Len64_run {O : Type} : run (O := O) Tryz.prog [] Tryz.f446 (.n .z (.n (.n .z (.n .x .z)) (.n (.n .z (.n .x .z)) (.n (.n .z (.n .x .z)) .z)))) = bits_Len64_c  := by kernel_rfl
theorem bits_Len64_sound {O : Type} {RO : O → Loc → (Nat → Option Obj) → Prop} : FSound RO Tryz.prog 446 (bits_Len64) :=
   have h : FSound RO Tryz.prog 446 (bits_Len64_c) := (bits_Len64_run) ▸ run_sound (gnil) mixed Tryz.func446 (by kernel_rfl) _
   h

/-- haymow/field.Put -/
noncomputable def field_Put_c {O : Type} (k285 k446 k286 : Sm O) : Sm O := fun xs σ =>
 bif Nat.beq xs.length 3 then
 (AV.asI .u64 (xs.getD 0 .u)).bind fun n0 =>
 (AV.asAgg 2 (xs.getD 1 .u)).bind fun c1 =>
 I6 c1 0 fun n2 => I6 c1 1 fun n3 => (AV.asI .u64 (xs.getD 2 .u)).bind fun n4 =>
 let σ5 := σ.bump 1
 let σ6 := σ5.put σ.next (.cells true 330 [J n2, J n3])
 (σ6.ld (.n σ.next) 0).bind fun w7 =>
 (AV.asI .i64 w7).bind fun n8 =>
 (σ6.ld (.n σ.next) 1).bind fun w9 =>
 (AV.asI .i64 w9).bind fun n10 =>
 (k285 [(.agg [J n8, J n10])] σ6).bind fun r11 =>
 (AV.asB r11.1).bind fun b12 =>
 (bif (!b12) then
 none
 else (r11.2.ld (.n σ.next) 1).bind fun w13 =>
 (AV.asI .i64 w13).bind fun n14 =>
 (k446 [(.i .u64 n4)] r11.2).bind fun r15 =>
 (AV.asI .i64 r15.1).bind fun n16 =>
 (chkE (r15.2.ld (.n σ.next) 1) (some (.i .i64 n14))).bind fun _ =>
 (bif (decide (n16 > n14)) then
 none
 else (r15.2.ld (.n σ.next) 0).bind fun w17 =>
 (AV.asI .i64 w17).bind fun n18 =>
 (r15.2.ld (.n σ.next) 1).bind fun w19 =>
 (AV.asI .i64 w19).bind fun n20 =>
 (r15.2.ld (.n σ.next) 0).bind fun w21 =>
 (AV.asI .i64 w21).bind fun n22 =>
 (bif (decide (n22 < 0)) then
 none
 else (k286 [(.agg [J n18, J n20])] r15.2).bind fun r23 =>
 (AV.asI .u64 r23.1).bind fun n24 =>
 (chkE (r23.2.ld (.n σ.next) 0) (some (.i .i64 n22))).bind fun _ =>
 let v25 : Int := (ibits .or .u64 (ibits .andNot .u64 n0 n24) (IntKind.u64.wrap (n4 * 2 ^ min n22.toNat 64)))
 some ((.tup [(.i .u64 v25), J 0]), r23.2))))
 else none
noncomputable def field_Put {O : Type} : Sm O := field_Put_c field_Right bits_Len64 field_Mask
theorem field_Put_ent : Entered Tryz.prog 368 := Tryz.call368
theorem field_Put_run {O : Type} (k285 k446 k286 : Sm O) : run (O := O) Tryz.prog [(285, k285), (446, k446), (286, k286)] Tryz.f368 (.n .z (.n (.n (.n .z (.n .x (.n (.d [] [0, 2, 3, 1, 4, 5] [0, 1, 0, 4, 15, 31]) (.n .x .z)))) .z) (.n (.d [] [0, 1, 4, 5, 6, 7, 2, 3, 8, 9, 10] [0, 0, 2, 7, 0, 0, 32, 112, 255, 511, 1023]) .z))) = field_Put_c k285 k446 k286 := by kernel_rfl
theorem field_Put_sound {O : Type} {RO : O → Loc → (Nat → Option Obj) → Prop} : FSound RO Tryz.prog 368 (field_Put) :=
   have h : FSound RO Tryz.prog 368 (field_Put_c field_Right bits_Len64 field_Mask) := (field_Put_run field_Right bits_Len64 field_Mask) ▸ run_sound (gcons field_Right_ent (field_Right_sound) <| gcons bits_Len64_ent (bits_Len64_sound) <| gcons field_Mask_ent (field_Mask_sound) <| gnil) mixed Tryz.func368 (by kernel_rfl) _
   h

/-- haymow/field.Pack -/
noncomputable def field_Pack_L1 {O : Type} (l0 : SA × Nat) (l1 : SA × Nat) (k368 : Sm O) : List AV × AH O → Option ((List AV × AH O) ⊕ (List AV × AH O)) := (fun r6 =>
 (AV.asI .u64 (r6.1.getD 0 .u)).bind fun n7 =>
 (AV.asI .i64 (r6.1.getD 1 .u)).bind fun n8 =>
 (bif (decide (n8 < (l0.2 : Int))) then
 let σ9 := r6.2.bump 1
 (bif ((decide ((0 : Int) ≤ n8)) && (decide (n8 < (l0.2 : Int)))) then
 (SA.ref l0.1).bind fun q10 =>
 (σ9.ld q10.1 (q10.2 + (n8.toNat * 2))).bind fun w11 =>
 (AV.asI .i64 w11).bind fun n12 =>
 (σ9.ld q10.1 ((q10.2 + (n8.toNat * 2)) + 1)).bind fun w13 =>
 (AV.asI .i64 w13).bind fun n14 =>
 let σ15 := σ9.put r6.2.next (.cells true 330 [J 0, J 0])
 (σ15.st (.n r6.2.next) 0 [J n12, J n14]).bind fun σ16 =>
 (σ16.ld (.n r6.2.next) 0).bind fun w17 =>
 (AV.asI .i64 w17).bind fun n18 =>
 (σ16.ld (.n r6.2.next) 1).bind fun w19 =>
 (AV.asI .i64 w19).bind fun n20 =>
 (bif ((decide ((0 : Int) ≤ n8)) && (decide (n8 < (l1.2 : Int)))) then
 (SA.ref l1.1).bind fun q21 =>
 (σ16.ld q21.1 (q21.2 + (n8.toNat * 1))).bind fun w22 =>
 (AV.asI .u64 w22).bind fun n23 =>
 (k368 [(.i .u64 n7), (.agg [J n18, J n20]), (.i .u64 n23)] σ16).bind fun r24 =>
 (AV.asTup 2 r24.1).bind fun c25 =>
 (AV.asI .u64 (c25.getD 0 .u)).bind fun n26 =>
 I6 c25 1 fun n27 => (bif ((n27 : Int) != 0) then
 none
 else some (Sum.inl ([(.i .u64 n26), (.i .i64 (IntKind.i64.wrap (n8 + 1)))], r24.2)))
 else none)
 else none)
 else some (Sum.inr ([(.i .u64 n7)], r6.2))))
noncomputable def field_Pack_c {O : Type} (k367 k368 : Sm O) : Sm O := fun xs σ =>
 bif Nat.beq xs.length 2 then
 (AV.asSl (xs.getD 0 .u)).bind fun l0 =>
 (AV.asSl (xs.getD 1 .u)).bind fun l1 =>
 (k367 [L l0] σ).bind fun r2 =>
 (AV.asB r2.1).bind fun b3 =>
 ((bif ((!b3) == false) then
 some ([(.b (((l0.2 : Int) : Int) != (l1.2 : Int)))], r2.2)
 else some ([(.b true)], r2.2)) : Option (List AV × AH O)).bind fun r4 =>
 (AV.asB (r4.1.getD 0 .u)).bind fun b5 =>
 (bif b5 then
 none
 else (loopF (S := List AV × AH O) (T := List AV × AH O) (field_Pack_L1 l0 l1 k368) ([(.i .u64 0), J 0], r4.2)).bind fun r28 =>
 (AV.asI .u64 (r28.1.getD 0 .u)).bind fun n29 =>
 some ((.tup [(.i .u64 n29), J 0]), r28.2))
 else none
noncomputable def field_Pack {O : Type} : Sm O := field_Pack_c field_Apart field_Put
theorem field_Pack_ent : Entered Tryz.prog 287 := Tryz.call287
theorem field_Pack_run {O : Type} (k367 k368 : Sm O) : run (O := O) Tryz.prog [(367, k367), (368, k368)] Tryz.f287 (.n .z (.n (.n (.g [(3, 5, [(20, .one .b)])]) (.n .x .z)) (.n .z (.n (.n .z (.n (.lp false 0 [(6, .one (.i .u64)), (23, .one (.i .i64))] [(6, .one (.i .u64))] (.n .z (.n .z (.n (.n (.n .z (.n (.d [] [0, 1, 2, 3, 4, 5, 6, 7, 8, 9, 10, 11] [0, 0, 0, 0, 12, 28, 63, 127, 255, 255, 511, 2047]) (.n (.n .z (.n .x .z)) .z))) .z) .z)))) .z)) .z)))) = field_Pack_c k367 k368 := by kernel_rfl
theorem field_Pack_sound {O : Type} {RO : O → Loc → (Nat → Option Obj) → Prop} : FSound RO Tryz.prog 287 (field_Pack) :=
   have h : FSound RO Tryz.prog 287 (field_Pack_c field_Apart field_Put) := (field_Pack_run field_Apart field_Put) ▸ run_sound (gcons field_Apart_ent (field_Apart_sound) <| gcons field_Put_ent (field_Put_sound) <| gnil) mixed Tryz.func287 (by kernel_rfl) _
   h

/-- haymow/header.Pack -/
noncomputable def header_Pack_c {O : Type} (k27 k184 k287 : Sm O) : Sm O := fun xs σ =>
 bif Nat.beq xs.length 1 then
 (AV.asAgg 5 (xs.getD 0 .u)).bind fun c0 =>
 I6 c0 0 fun n1 => I6 c0 1 fun n2 => I6 c0 2 fun n3 => I6 c0 3 fun n4 => (AV.asB (c0.getD 4 .u)).bind fun b5 =>
 let σ6 := σ.bump 1
 let σ7 := σ6.put σ.next (.cells true 77 [J n1, J n2, J n3, J n4, (.b b5)])
 (σ7.ld (.n σ.next) 0).bind fun w8 =>
 (AV.asI .i64 w8).bind fun n9 =>
 (σ7.ld (.n σ.next) 1).bind fun w10 =>
 (AV.asI .i64 w10).bind fun n11 =>
 (σ7.ld (.n σ.next) 2).bind fun w12 =>
 (AV.asI .i64 w12).bind fun n13 =>
 (σ7.ld (.n σ.next) 3).bind fun w14 =>
 (AV.asI .i64 w14).bind fun n15 =>
 (σ7.ld (.n σ.next) 4).bind fun w16 =>
 (AV.asB w16).bind fun b17 =>
 (k27 [(.agg [J n9, J n11, J n13, J n15, (.b b17)])] σ7).bind fun r18 =>
 (AV.asI .i64 r18.1).bind fun n19 =>
 (bif ((n19 : Int) != 0) then
 none
 else (r18.2.ld (.n σ.next) 4).bind fun w20 =>
 (AV.asB w20).bind fun b21 =>
 (bif b21 then
 none
 else let σ22 := r18.2.bump 1
 (σ22.ld (.n σ.next) 0).bind fun w23 =>
 (AV.asI .i64 w23).bind fun n24 =>
 (σ22.ld (.n σ.next) 1).bind fun w25 =>
 (AV.asI .i64 w25).bind fun n26 =>
 (σ22.ld (.n σ.next) 2).bind fun w27 =>
 (AV.asI .i64 w27).bind fun n28 =>
 (σ22.ld (.n σ.next) 3).bind fun w29 =>
 (AV.asI .i64 w29).bind fun n30 =>
 (k184 [] σ22).bind fun r31 =>
 (AV.asSl r31.1).bind fun l32 =>
 (chkE (r31.2.ld (.n σ.next) 0) (some (.i .i64 n24))).bind fun _ =>
 (chkE (r31.2.ld (.n σ.next) 1) (some (.i .i64 n26))).bind fun _ =>
 (chkE (r31.2.ld (.n σ.next) 2) (some (.i .i64 n28))).bind fun _ =>
 (chkE (r31.2.ld (.n σ.next) 3) (some (.i .i64 n30))).bind fun _ =>
 let σ33 := r31.2.put r18.2.next (.cells true 95 [(.i .u64 (IntKind.u64.wrap n24)), (.i .u64 (IntKind.u64.wrap n26)), (.i .u64 (IntKind.u64.wrap n28)), (.i .u64 (IntKind.u64.wrap n30)), (.i .u64 0), (.i .u64 1)])
 (k287 [L l32, (.sl (.loc (.n r18.2.next) 0 1) 6)] σ33).bind fun r34 =>
 (AV.asTup 2 r34.1).bind fun c35 =>
 (AV.asI .u64 (c35.getD 0 .u)).bind fun n36 =>
 I6 c35 1 fun n37 => some ((.tup [(.i .u64 n36), J n37]), r34.2)))
 else none
noncomputable def header_Pack {O : Type} : Sm O := header_Pack_c header_Check header_fields field_Pack
theorem header_Pack_ent : Entered Tryz.prog 186 := Tryz.call186
theorem header_Pack_run {O : Type} (k27 k184 k287 : Sm O) : run (O := O) Tryz.prog [(27, k27), (184, k184), (287, k287)] Tryz.f186 (.n .z (.n (.n .z (.n .z (.n .x .z))) (.n .z (.n (.n .z (.n .x .z)) (.n (.d [] [1, 2, 3, 4, 5, 6, 7, 8, 9, 10, 11, 12, 13, 14, 15, 0, 16, 17, 18, 19, 20, 21] [0, 0, 2, 6, 14, 0, 32, 96, 224, 0, 512, 1536, 0, 4096, 12288, 0, 65534, 131071, 262143, 262143, 1048575, 2097151]) .z))))) = header_Pack_c k27 k184 k287 := by kernel_rfl
theorem header_Pack_sound {O : Type} {RO : O → Loc → (Nat → Option Obj) → Prop} : FSound RO Tryz.prog 186 (header_Pack) :=
   have h : FSound RO Tryz.prog 186 (header_Pack_c header_Check header_fields field_Pack) := (header_Pack_run header_Check header_fields field_Pack) ▸ run_sound (gcons header_Check_ent (header_Check_sound) <| gcons header_fields_ent (header_fields_sound) <| gcons field_Pack_ent (field_Pack_sound) <| gnil) mixed Tryz.func186 (by kernel_rfl) _
   h

/-- (*haymow/mem.Mem).Size -/
noncomputable def mem_Mem__Size_c {O : Type} (k291 : Sm O) : Sm O := fun xs σ =>
 bif Nat.beq xs.length 2 then
 (AV.asP (xs.getD 0 .u)).bind fun p0 =>
 (AV.asI .i64 (xs.getD 1 .u)).bind fun n1 =>
 (k291 [(.p p0), J n1] σ).bind fun r2 =>
 (AV.asP r2.1).bind fun p3 =>
 (bif (Option.isNone p3) then
 none
 else Option.bind p3 fun q4 =>
 (r2.2.ld q4.1 q4.2).bind fun w5 =>
 (AV.asSl w5).bind fun l6 =>
 some ((.tup [(.i .i64 (l6.2 : Int)), J 0]), r2.2))
 else none
noncomputable def mem_Mem__Size {O : Type} : Sm O := mem_Mem__Size_c mem_Mem__at
theorem mem_Mem__Size_ent : Entered Tryz.prog 422 := Tryz.call422
theorem mem_Mem__Size_run {O : Type} (k291 : Sm O) : run (O := O) Tryz.prog [(291, k291)] Tryz.f422 (.n .z (.n .z (.n (.n .z (.n .x .z)) .z))) = mem_Mem__Size_c k291 := by kernel_rfl
theorem mem_Mem__Size_sound {O : Type} {RO : O → Loc → (Nat → Option Obj) → Prop} : FSound RO Tryz.prog 422 (mem_Mem__Size) :=
   have h : FSound RO Tryz.prog 422 (mem_Mem__Size_c mem_Mem__at) := (mem_Mem__Size_run mem_Mem__at) ▸ run_sound (gcons mem_Mem__at_ent (mem_Mem__at_sound) <| gnil) mixed Tryz.func422 (by kernel_rfl) _
   h

/-- (*haymow/semi.Semi).Size -/
noncomputable def semi_Semi__Size_c {O : Type} (k422 : Sm O) : Sm O := fun xs σ =>
 bif Nat.beq xs.length 1 then
 (AV.asP (xs.getD 0 .u)).bind fun p0 =>
 Option.bind p0 fun q1 =>
 (σ.ld q1.1 q1.2).bind fun w2 =>
 (AV.asP w2).bind fun p3 =>
 Option.bind p0 fun q4 =>
 (σ.ld q4.1 (q4.2 + 1)).bind fun w5 =>
 (AV.asI .i64 w5).bind fun n6 =>
 (k422 [(.p p3), J n6] σ).bind fun r7 =>
 (AV.asTup 2 r7.1).bind fun c8 =>
 I6 c8 0 fun n9 => I6 c8 1 fun n10 => some (J n9, r7.2)
 else none
noncomputable def semi_Semi__Size {O : Type} : Sm O := semi_Semi__Size_c mem_Mem__Size
theorem semi_Semi__Size_ent : Entered Tryz.prog 347 := Tryz.call347
theorem semi_Semi__Size_run {O : Type} (k422 : Sm O) : run (O := O) Tryz.prog [(422, k422)] Tryz.f347 (.n .z (.n (.d [] [0, 1, 2, 3, 4, 5, 6, 7, 8, 9, 10, 11, 12, 13, 14] [0, 1, 3, 7, 0, 16, 48, 112, 240, 511, 1023, 2047, 2047, 4095, 16383]) .z)) = semi_Semi__Size_c k422 := by kernel_rfl
theorem semi_Semi__Size_sound {O : Type} {RO : O → Loc → (Nat → Option Obj) → Prop} : FSound RO Tryz.prog 347 (semi_Semi__Size) :=
   have h : FSound RO Tryz.prog 347 (semi_Semi__Size_c mem_Mem__Size) := (semi_Semi__Size_run mem_Mem__Size) ▸ run_sound (gcons mem_Mem__Size_ent (mem_Mem__Size_sound) <| gnil) mixed Tryz.func347 (by kernel_rfl) _
   h

/-- (*haymow/semi.Semi).Room -/
noncomputable def semi_Semi__Room_c {O : Type} (k347 : Sm O) : Sm O := fun xs σ =>
 bif Nat.beq xs.length 1 then
 (AV.asP (xs.getD 0 .u)).bind fun p0 =>
 Option.bind p0 fun q1 =>
 (σ.ld q1.1 ((q1.2 + 1) + 1)).bind fun w2 =>
 (AV.asI .i64 w2).bind fun n3 =>
 (k347 [(.p p0)] σ).bind fun r4 =>
 (AV.asI .i64 r4.1).bind fun n5 =>
 (chkE (r4.2.ld q1.1 ((q1.2 + 1) + 1)) (some (.i .i64 n3))).bind fun _ =>
 some ((.i .i64 (IntKind.i64.wrap (n5 - n3))), r4.2)
 else none
noncomputable def semi_Semi__Room {O : Type} : Sm O := semi_Semi__Room_c semi_Semi__Size
theorem semi_Semi__Room_ent : Entered Tryz.prog 466 := Tryz.call466
theorem semi_Semi__Room_run {O : Type} (k347 : Sm O) : run (O := O) Tryz.prog [(347, k347)] Tryz.f466 (.n .z (.n (.d [] [0, 2, 3, 4, 5, 6, 1, 7, 8] [0, 1, 0, 4, 12, 28, 60, 127, 255]) .z)) = semi_Semi__Room_c k347 := by kernel_rfl
theorem semi_Semi__Room_sound {O : Type} {RO : O → Loc → (Nat → Option Obj) → Prop} : FSound RO Tryz.prog 466 (semi_Semi__Room) :=
   have h : FSound RO Tryz.prog 466 (semi_Semi__Room_c semi_Semi__Size) := (semi_Semi__Room_run semi_Semi__Size) ▸ run_sound (gcons semi_Semi__Size_ent (semi_Semi__Size_sound) <| gnil) mixed Tryz.func466 (by kernel_rfl) _
   h

/-- (*haymow/semi.Semi).Take -/
noncomputable def semi_Semi__Take_c {O : Type} (k466 : Sm O) : Sm O := fun xs σ =>
 bif Nat.beq xs.length 2 then
 (AV.asP (xs.getD 0 .u)).bind fun p0 =>
 (AV.asI .i64 (xs.getD 1 .u)).bind fun n1 =>
 (bif (decide (n1 < 1)) then
 none
 else (k466 [(.p p0)] σ).bind fun r2 =>
 (AV.asI .i64 r2.1).bind fun n3 =>
 (bif (decide (n1 > n3)) then
 none
 else Option.bind p0 fun q4 =>
 (r2.2.ld q4.1 ((q4.2 + 1) + 1)).bind fun w5 =>
 (AV.asI .i64 w5).bind fun n6 =>
 Option.bind p0 fun q7 =>
 (r2.2.ld q7.1 ((q7.2 + 1) + 1)).bind fun w8 =>
 (AV.asI .i64 w8).bind fun n9 =>
 Option.bind p0 fun q10 =>
 (r2.2.st q10.1 ((q10.2 + 1) + 1) [(.i .i64 (IntKind.i64.wrap (n9 + n1)))]).bind fun σ11 =>
 some ((.tup [J n6, J 0]), σ11)))
 else none
noncomputable def semi_Semi__Take {O : Type} : Sm O := semi_Semi__Take_c semi_Semi__Room
theorem semi_Semi__Take_ent : Entered Tryz.prog 406 := Tryz.call406
theorem semi_Semi__Take_run {O : Type} (k466 : Sm O) : run (O := O) Tryz.prog [(466, k466)] Tryz.f406 (.n .z (.n (.n (.n .z (.n .x (.n .z (.n .x .z)))) .z) (.n .z (.n .z .z)))) = semi_Semi__Take_c k466 := by kernel_rfl
theorem semi_Semi__Take_sound {O : Type} {RO : O → Loc → (Nat → Option Obj) → Prop} : FSound RO Tryz.prog 406 (semi_Semi__Take) :=
   have h : FSound RO Tryz.prog 406 (semi_Semi__Take_c semi_Semi__Room) := (semi_Semi__Take_run semi_Semi__Room) ▸ run_sound (gcons semi_Semi__Room_ent (semi_Semi__Room_sound) <| gnil) mixed Tryz.func406 (by kernel_rfl) _
   h

/-- (haymow/semi.side).within -/
noncomputable def semi_side__within_c {O : Type} : Sm O := fun xs σ =>
 bif Nat.beq xs.length 3 then
 (AV.asAgg 2 (xs.getD 0 .u)).bind fun c0 =>
 I6 c0 0 fun n1 => I6 c0 1 fun n2 => (AV.asI .i64 (xs.getD 1 .u)).bind fun n3 =>
 (AV.asI .i64 (xs.getD 2 .u)).bind fun n4 =>
 let σ5 := σ.bump 1
 let σ6 := σ5.put σ.next (.cells true 227 [J n1, J n2])
 ((bif ((decide (n4 ≥ 0)) == true) then
 some ([(.b (decide (n3 ≥ 0)))], σ6)
 else some ([(.b false)], σ6)) : Option (List AV × AH O)).bind fun r7 =>
 (AV.asB (r7.1.getD 0 .u)).bind fun b8 =>
 ((bif (b8 == true) then
 (r7.2.ld (.n σ.next) 1).bind fun w9 =>
 (AV.asI .i64 w9).bind fun n10 =>
 some ([(.b (decide (n3 ≤ n10)))], r7.2)
 else some ([(.b false)], r7.2)) : Option (List AV × AH O)).bind fun r11 =>
 (AV.asB (r11.1.getD 0 .u)).bind fun b12 =>
 ((bif (b12 == true) then
 (r11.2.ld (.n σ.next) 1).bind fun w13 =>
 (AV.asI .i64 w13).bind fun n14 =>
 some ([(.b (decide (n4 ≤ (IntKind.i64.wrap (n14 - n3)))))], r11.2)
 else some ([(.b false)], r11.2)) : Option (List AV × AH O)).bind fun r15 =>
 (AV.asB (r15.1.getD 0 .u)).bind fun b16 =>
 some ((.b b16), r15.2)
 else none
noncomputable def semi_side__within {O : Type} : Sm O := semi_side__within_c
theorem semi_side__within_ent : Entered Tryz.prog 114 := Tryz.call114
theorem semi_side__within_run {O : Type} : run (O := O) Tryz.prog [] Tryz.f114 (.n .z (.n (.g [(2, 2, [(12, .one .b)]), (6, 4, [(18, .one .b)]), (12, 6, [(26, .one .b)])]) .z)) = semi_side__within_c  := by kernel_rfl
theorem semi_side__within_sound {O : Type} {RO : O → Loc → (Nat → Option Obj) → Prop} : FSound RO Tryz.prog 114 (semi_side__within) :=
   have h : FSound RO Tryz.prog 114 (semi_side__within_c) := (semi_side__within_run) ▸ run_sound (gnil) mixed Tryz.func114 (by kernel_rfl) _
   h

/-- (*haymow/mem.Mem).Write -/
noncomputable def mem_Mem__Write_c {O : Type} (k201 k202 : Sm O) : Sm O := fun xs σ =>
 bif Nat.beq xs.length 4 then
 (AV.asP (xs.getD 0 .u)).bind fun p0 =>
 (AV.asI .i64 (xs.getD 1 .u)).bind fun n1 =>
 (AV.asI .i64 (xs.getD 2 .u)).bind fun n2 =>
 (AV.asI .u64 (xs.getD 3 .u)).bind fun n3 =>
 (k201 [(.p p0), J n1, J n2, J 1] σ).bind fun r4 =>
 (AV.asTup 2 r4.1).bind fun c5 =>
 Is c5 0 fun l6 => I6 c5 1 fun n7 => (bif ((n7 : Int) != 0) then
 none
 else Option.bind p0 fun q8 =>
 (r4.2.ld q8.1 q8.2).bind fun w9 =>
 (AV.asP w9).bind fun p10 =>
 (k202 [(.p p10), J 1, J 1] r4.2).bind fun r11 =>
 (AV.asTup 0 r11.1).bind fun c12 =>
 (bif (decide ((0 : Int) < (l6.2 : Int))) then
 (SA.ref l6.1).bind fun q13 =>
 (r11.2.st q13.1 q13.2 [(.i .u64 n3)]).bind fun σ14 =>
 some (J 0, σ14)
 else none))
 else none
noncomputable def mem_Mem__Write {O : Type} : Sm O := mem_Mem__Write_c mem_Mem__within meter_Meter__Step
theorem mem_Mem__Write_ent : Entered Tryz.prog 115 := Tryz.call115
theorem mem_Mem__Write_run {O : Type} (k201 k202 : Sm O) : run (O := O) Tryz.prog [(201, k201), (202, k202)] Tryz.f115 (.n .z (.n .z (.n (.n .z (.n .x .z)) (.n .z (.n .z .z))))) = mem_Mem__Write_c k201 k202 := by kernel_rfl
theorem mem_Mem__Write_sound {O : Type} {RO : O → Loc → (Nat → Option Obj) → Prop} : FSound RO Tryz.prog 115 (mem_Mem__Write) :=
   have h : FSound RO Tryz.prog 115 (mem_Mem__Write_c mem_Mem__within meter_Meter__Step) := (mem_Mem__Write_run mem_Mem__within meter_Meter__Step) ▸ run_sound (gcons mem_Mem__within_ent (mem_Mem__within_sound) <| gcons meter_Meter__Step_ent (meter_Meter__Step_sound) <| gnil) mixed Tryz.func115 (by kernel_rfl) _
   h

/-- (*haymow/semi.Semi).Write -/
noncomputable def semi_Semi__Write_c {O : Type} (k114 k115 : Sm O) : Sm O := fun xs σ =>
 bif Nat.beq xs.length 3 then
 (AV.asP (xs.getD 0 .u)).bind fun p0 =>
 (AV.asI .i64 (xs.getD 1 .u)).bind fun n1 =>
 (AV.asI .u64 (xs.getD 2 .u)).bind fun n2 =>
 Option.bind p0 fun q3 =>
 (σ.ld q3.1 (q3.2 + 1)).bind fun w4 =>
 (AV.asI .i64 w4).bind fun n5 =>
 (σ.ld q3.1 ((q3.2 + 1) + 1)).bind fun w6 =>
 (AV.asI .i64 w6).bind fun n7 =>
 (k114 [(.agg [J n5, J n7]), J n1, J 1] σ).bind fun r8 =>
 (AV.asB r8.1).bind fun b9 =>
 (bif (!b9) then
 none
 else Option.bind p0 fun q10 =>
 (r8.2.ld q10.1 q10.2).bind fun w11 =>
 (AV.asP w11).bind fun p12 =>
 Option.bind p0 fun q13 =>
 (r8.2.ld q13.1 (q13.2 + 1)).bind fun w14 =>
 (AV.asI .i64 w14).bind fun n15 =>
 (k115 [(.p p12), J n15, J n1, (.i .u64 n2)] r8.2).bind fun r16 =>
 (AV.asI .i64 r16.1).bind fun n17 =>
 some (J n17, r16.2))
 else none
noncomputable def semi_Semi__Write {O : Type} : Sm O := semi_Semi__Write_c semi_side__within mem_Mem__Write
theorem semi_Semi__Write_ent : Entered Tryz.prog 68 := Tryz.call68
theorem semi_Semi__Write_run {O : Type} (k114 k115 : Sm O) : run (O := O) Tryz.prog [(114, k114), (115, k115)] Tryz.f68 (.n .z (.n (.n .z (.n .x .z)) (.n (.d [] [0, 1, 2, 3, 4, 5, 6, 7, 8, 9, 10, 11, 12] [0, 1, 3, 7, 0, 16, 48, 112, 240, 0, 0, 2047, 4095]) .z))) = semi_Semi__Write_c k114 k115 := by kernel_rfl
theorem semi_Semi__Write_sound {O : Type} {RO : O → Loc → (Nat → Option Obj) → Prop} : FSound RO Tryz.prog 68 (semi_Semi__Write) :=
   have h : FSound RO Tryz.prog 68 (semi_Semi__Write_c semi_side__within mem_Mem__Write) := (semi_Semi__Write_run semi_side__within mem_Mem__Write) ▸ run_sound (gcons semi_side__within_ent (semi_side__within_sound) <| gcons mem_Mem__Write_ent (mem_Mem__Write_sound) <| gnil) mixed Tryz.func68 (by kernel_rfl) _
   h

/-- haymow/ref.ToSmall -/
noncomputable def ref_ToSmall_c {O : Type} : Sm O := fun xs σ =>
 bif Nat.beq xs.length 1 then
 (AV.asI .i64 (xs.getD 0 .u)).bind fun n0 =>
 ((bif ((decide (n0 < 0)) == false) then
 some ([(.b (decide (n0 ≥ 4194304)))], σ)
 else some ([(.b true)], σ)) : Option (List AV × AH O)).bind fun r1 =>
 (AV.asB (r1.1.getD 0 .u)).bind fun b2 =>
 (bif b2 then
 none
 else let v3 : Int := (IntKind.u64.wrap ((IntKind.u64.wrap n0) * 2 ^ 1))
 some ((.tup [(.i .u64 (ibits .or .u64 v3 1)), J 0]), r1.2))
 else none
noncomputable def ref_ToSmall {O : Type} : Sm O := ref_ToSmall_c
theorem ref_ToSmall_ent : Entered Tryz.prog 189 := Tryz.call189
theorem ref_ToSmall_run {O : Type} : run (O := O) Tryz.prog [] Tryz.f189 (.n .z (.n (.n (.g [(2, 2, [(9, .one .b)])]) (.n .x .z)) .z)) = ref_ToSmall_c  := by kernel_rfl
theorem ref_ToSmall_sound {O : Type} {RO : O → Loc → (Nat → Option Obj) → Prop} : FSound RO Tryz.prog 189 (ref_ToSmall) :=
   have h : FSound RO Tryz.prog 189 (ref_ToSmall_c) := (ref_ToSmall_run) ▸ run_sound (gnil) mixed Tryz.func189 (by kernel_rfl) _
   h

/-- (*haymow/store.Store).Make -/
noncomputable def store_Store__Make_c {O : Type} (k64 k186 k105 k406 k68 k189 : Sm O) : Sm O := fun xs σ =>
 bif Nat.beq xs.length 3 then
 (AV.asP (xs.getD 0 .u)).bind fun p0 =>
 (AV.asAgg 2 (xs.getD 1 .u)).bind fun c1 =>
 I6 c1 0 fun n2 => I6 c1 1 fun n3 => (AV.asI .i64 (xs.getD 2 .u)).bind fun n4 =>
 let σ5 := σ.bump 1
 let σ6 := σ5.put σ.next (.cells true 75 [J n2, J n3])
 let σ7 := σ6.bump 1
 (σ7.ld (.n σ.next) 0).bind fun w8 =>
 (AV.asI .i64 w8).bind fun n9 =>
 (σ7.ld (.n σ.next) 1).bind fun w10 =>
 (AV.asI .i64 w10).bind fun n11 =>
 (σ7.ld (.n σ.next) 0).bind fun w12 =>
 (AV.asI .i64 w12).bind fun n13 =>
 (σ7.ld (.n σ.next) 1).bind fun w14 =>
 (AV.asI .i64 w14).bind fun n15 =>
 Option.bind p0 fun q16 =>
 (σ7.ld q16.1 (q16.2 + 3)).bind fun w17 =>
 (AV.asI .i64 w17).bind fun n18 =>
 (k64 [(.agg [J n13, J n15]), J n18] σ7).bind fun r19 =>
 (AV.asB r19.1).bind fun b20 =>
 (chkE (r19.2.ld (.n σ.next) 0) (some (.i .i64 n9))).bind fun _ =>
 (chkE (r19.2.ld (.n σ.next) 1) (some (.i .i64 n11))).bind fun _ =>
 let σ21 := r19.2.put σ6.next (.cells true 77 [J 0, J 0, J 0, J 0, (.b false)])
 (σ21.st (.n σ6.next) 0 [J n9, J n11, J n4, J 0, (.b b20)]).bind fun σ22 =>
 (σ22.ld (.n σ6.next) 0).bind fun w23 =>
 (AV.asI .i64 w23).bind fun n24 =>
 (σ22.ld (.n σ6.next) 1).bind fun w25 =>
 (AV.asI .i64 w25).bind fun n26 =>
 (σ22.ld (.n σ6.next) 2).bind fun w27 =>
 (AV.asI .i64 w27).bind fun n28 =>
 (σ22.ld (.n σ6.next) 3).bind fun w29 =>
 (AV.asI .i64 w29).bind fun n30 =>
 (σ22.ld (.n σ6.next) 4).bind fun w31 =>
 (AV.asB w31).bind fun b32 =>
 (k186 [(.agg [J n24, J n26, J n28, J n30, (.b b32)])] σ22).bind fun r33 =>
 (AV.asTup 2 r33.1).bind fun c34 =>
 (AV.asI .u64 (c34.getD 0 .u)).bind fun n35 =>
 I6 c34 1 fun n36 => (bif ((n36 : Int) != 0) then
 none
 else (r33.2.ld (.n σ6.next) 4).bind fun w37 =>
 (AV.asB w37).bind fun b38 =>
 (bif b38 then
 none
 else Option.bind p0 fun q39 =>
 (r33.2.ld q39.1 (q39.2 + 1)).bind fun w40 =>
 (AV.asP w40).bind fun p41 =>
 (r33.2.ld (.n σ6.next) 0).bind fun w42 =>
 (AV.asI .i64 w42).bind fun n43 =>
 (r33.2.ld (.n σ6.next) 1).bind fun w44 =>
 (AV.asI .i64 w44).bind fun n45 =>
 (r33.2.ld (.n σ6.next) 2).bind fun w46 =>
 (AV.asI .i64 w46).bind fun n47 =>
 (r33.2.ld (.n σ6.next) 3).bind fun w48 =>
 (AV.asI .i64 w48).bind fun n49 =>
 (r33.2.ld (.n σ6.next) 4).bind fun w50 =>
 (AV.asB w50).bind fun b51 =>
 (k105 [(.agg [J n43, J n45, J n47, J n49, (.b b51)])] r33.2).bind fun r52 =>
 (AV.asI .i64 r52.1).bind fun n53 =>
 (chkE (r52.2.ld q39.1 (q39.2 + 1)) (some (.p p41))).bind fun _ =>
 (k406 [(.p p41), J n53] r52.2).bind fun r54 =>
 (AV.asTup 2 r54.1).bind fun c55 =>
 I6 c55 0 fun n56 => I6 c55 1 fun n57 => (bif ((n57 : Int) != 0) then
 none
 else Option.bind p0 fun q58 =>
 (r54.2.ld q58.1 (q58.2 + 1)).bind fun w59 =>
 (AV.asP w59).bind fun p60 =>
 (k68 [(.p p60), J n56, (.i .u64 n35)] r54.2).bind fun r61 =>
 (AV.asI .i64 r61.1).bind fun n62 =>
 (k189 [J n56] r61.2).bind fun r63 =>
 (AV.asTup 2 r63.1).bind fun c64 =>
 (AV.asI .u64 (c64.getD 0 .u)).bind fun n65 =>
 I6 c64 1 fun n66 => some ((.tup [(.i .u64 n65), J n66]), r63.2))))
 else none
noncomputable def store_Store__Make {O : Type} : Sm O := store_Store__Make_c shape_Large header_Pack header_Words semi_Semi__Take semi_Semi__Write ref_ToSmall
theorem store_Store__Make_ent : Entered Tryz.prog 323 := Tryz.call323
theorem store_Store__Make_run {O : Type} (k64 k186 k105 k406 k68 k189 : Sm O) : run (O := O) Tryz.prog [(64, k64), (186, k186), (105, k105), (406, k406), (68, k68), (189, k189)] Tryz.f323 (.n .z (.n (.d [] [0, 1, 2, 3, 4, 5, 6, 7, 8, 9, 10] [0, 0, 0, 0, 8, 24, 56, 124, 255, 0, 1023]) (.n .z (.n (.n .z (.n .x .z)) (.n (.n .z (.n .x .z)) (.n (.d [] [0, 1, 2, 3, 4, 5, 6, 7, 8, 9, 10, 11, 12] [0, 1, 3, 7, 15, 0, 32, 127, 255, 511, 511, 1023, 4095]) (.n (.n .z (.n .x .z)) (.n .z .z)))))))) = store_Store__Make_c k64 k186 k105 k406 k68 k189 := by kernel_rfl
theorem store_Store__Make_sound {O : Type} {RO : O → Loc → (Nat → Option Obj) → Prop} : FSound RO Tryz.prog 323 (store_Store__Make) :=
   have h : FSound RO Tryz.prog 323 (store_Store__Make_c shape_Large header_Pack header_Words semi_Semi__Take semi_Semi__Write ref_ToSmall) := (store_Store__Make_run shape_Large header_Pack header_Words semi_Semi__Take semi_Semi__Write ref_ToSmall) ▸ run_sound (gcons shape_Large_ent (shape_Large_sound) <| gcons header_Pack_ent (header_Pack_sound) <| gcons header_Words_ent (header_Words_sound) <| gcons semi_Semi__Take_ent (semi_Semi__Take_sound) <| gcons semi_Semi__Write_ent (semi_Semi__Write_sound) <| gcons ref_ToSmall_ent (ref_ToSmall_sound) <| gnil) mixed Tryz.func323 (by kernel_rfl) _
   h

/-- (*haymow/sites.Sites).Add -/
noncomputable def sites_Sites__Add_c {O : Type} (k322 : Sm O) : Sm O := fun xs σ =>
 bif Nat.beq xs.length 3 then
 (AV.asP (xs.getD 0 .u)).bind fun p0 =>
 (AV.asI .i64 (xs.getD 1 .u)).bind fun n1 =>
 (AV.asI .i64 (xs.getD 2 .u)).bind fun n2 =>
 (k322 [(.p p0), J n1] σ).bind fun r3 =>
 (AV.asB r3.1).bind fun b4 =>
 (bif (!b4) then
 none
 else (bif (decide (n2 < 1)) then
 none
 else Option.bind p0 fun q5 =>
 (bif ((decide ((0 : Int) ≤ n1)) && (decide (n1 < 32))) then
 (r3.2.ld q5.1 ((q5.2 + 1) + (n1.toNat * 2))).bind fun w6 =>
 (AV.asI .i64 w6).bind fun n7 =>
 Option.bind p0 fun q8 =>
 (bif ((decide ((0 : Int) ≤ n1)) && (decide (n1 < 32))) then
 (r3.2.st q8.1 ((q8.2 + 1) + (n1.toNat * 2)) [(.i .i64 (IntKind.i64.wrap (n7 + 1)))]).bind fun σ9 =>
 Option.bind p0 fun q10 =>
 (bif ((decide ((0 : Int) ≤ n1)) && (decide (n1 < 32))) then
 (σ9.ld q10.1 (((q10.2 + 1) + (n1.toNat * 2)) + 1)).bind fun w11 =>
 (AV.asI .i64 w11).bind fun n12 =>
 Option.bind p0 fun q13 =>
 (bif ((decide ((0 : Int) ≤ n1)) && (decide (n1 < 32))) then
 (σ9.st q13.1 (((q13.2 + 1) + (n1.toNat * 2)) + 1) [(.i .i64 (IntKind.i64.wrap (n12 + n2)))]).bind fun σ14 =>
 some (J 0, σ14)
 else none)
 else none)
 else none)
 else none)))
 else none
noncomputable def sites_Sites__Add {O : Type} : Sm O := sites_Sites__Add_c sites_Sites__Is
theorem sites_Sites__Add_ent : Entered Tryz.prog 324 := Tryz.call324
theorem sites_Sites__Add_run {O : Type} (k322 : Sm O) : run (O := O) Tryz.prog [(322, k322)] Tryz.f324 (.n .z (.n (.n (.n .z (.n .x (.n .z (.n .x .z)))) .z) (.n (.d [] [0, 1, 2, 3, 4, 5, 6, 7, 8, 9, 10, 11, 12] [0, 0, 1, 5, 15, 31, 63, 127, 1, 257, 1023, 2047, 4095]) (.n (.d [] [0, 1, 2, 3, 4, 5, 6, 7, 8, 9, 10, 11, 12, 13] [0, 0, 1, 5, 15, 31, 63, 0, 255, 1, 513, 2047, 4095, 8191]) .z)))) = sites_Sites__Add_c k322 := by kernel_rfl
theorem sites_Sites__Add_sound {O : Type} {RO : O → Loc → (Nat → Option Obj) → Prop} : FSound RO Tryz.prog 324 (sites_Sites__Add) :=
   have h : FSound RO Tryz.prog 324 (sites_Sites__Add_c sites_Sites__Is) := (sites_Sites__Add_run sites_Sites__Is) ▸ run_sound (gcons sites_Sites__Is_ent (sites_Sites__Is_sound) <| gnil) mixed Tryz.func324 (by kernel_rfl) _
   h

/-- haymow/survive.is -/
noncomputable def survive_is_c {O : Type} : Sm O := fun xs σ =>
 bif Nat.beq xs.length 2 then
 (AV.asI .i64 (xs.getD 0 .u)).bind fun n0 =>
 (AV.asI .i64 (xs.getD 1 .u)).bind fun n1 =>
 ((bif ((decide (n0 ≥ 0)) == true) then
 some ([(.b (decide (n0 < 32)))], σ)
 else some ([(.b false)], σ)) : Option (List AV × AH O)).bind fun r2 =>
 (AV.asB (r2.1.getD 0 .u)).bind fun b3 =>
 ((bif (b3 == true) then
 some ([(.b (decide (n1 ≥ 0)))], r2.2)
 else some ([(.b false)], r2.2)) : Option (List AV × AH O)).bind fun r4 =>
 (AV.asB (r4.1.getD 0 .u)).bind fun b5 =>
 ((bif (b5 == true) then
 some ([(.b (decide (n1 < 7)))], r4.2)
 else some ([(.b false)], r4.2)) : Option (List AV × AH O)).bind fun r6 =>
 (AV.asB (r6.1.getD 0 .u)).bind fun b7 =>
 some ((.b b7), r6.2)
 else none
noncomputable def survive_is {O : Type} : Sm O := survive_is_c
theorem survive_is_ent : Entered Tryz.prog 359 := Tryz.call359
theorem survive_is_run {O : Type} : run (O := O) Tryz.prog [] Tryz.f359 (.n .z (.n (.g [(2, 2, [(10, .one .b)]), (6, 2, [(14, .one .b)]), (10, 2, [(18, .one .b)])]) .z)) = survive_is_c  := by kernel_rfl
theorem survive_is_sound {O : Type} {RO : O → Loc → (Nat → Option Obj) → Prop} : FSound RO Tryz.prog 359 (survive_is) :=
   have h : FSound RO Tryz.prog 359 (survive_is_c) := (survive_is_run) ▸ run_sound (gnil) mixed Tryz.func359 (by kernel_rfl) _
   h

/-- (*haymow/survive.Survive).Ask -/
noncomputable def survive_Survive__Ask_c {O : Type} (k359 : Sm O) : Sm O := fun xs σ =>
 bif Nat.beq xs.length 2 then
 (AV.asP (xs.getD 0 .u)).bind fun p0 =>
 (AV.asI .i64 (xs.getD 1 .u)).bind fun n1 =>
 (k359 [J n1, J 0] σ).bind fun r2 =>
 (AV.asB r2.1).bind fun b3 =>
 (bif (!b3) then
 none
 else Option.bind p0 fun q4 =>
 (bif ((decide ((0 : Int) ≤ n1)) && (decide (n1 < 32))) then
 (r2.2.ld q4.1 (q4.2 + (n1.toNat * 7))).bind fun w5 =>
 (AV.asI .i64 w5).bind fun n6 =>
 Option.bind p0 fun q7 =>
 (bif ((decide ((0 : Int) ≤ n1)) && (decide (n1 < 32))) then
 (r2.2.st q7.1 (q7.2 + (n1.toNat * 7)) [(.i .i64 (IntKind.i64.wrap (n6 + 1)))]).bind fun σ8 =>
 some (J 0, σ8)
 else none)
 else none))
 else none
noncomputable def survive_Survive__Ask {O : Type} : Sm O := survive_Survive__Ask_c survive_is
theorem survive_Survive__Ask_ent : Entered Tryz.prog 325 := Tryz.call325
theorem survive_Survive__Ask_run {O : Type} (k359 : Sm O) : run (O := O) Tryz.prog [(359, k359)] Tryz.f325 (.n .z (.n (.n .z (.n .x .z)) (.n (.d [] [0, 1, 2, 3, 4, 5, 6, 7, 8, 9, 10, 11, 12] [0, 0, 1, 5, 15, 31, 63, 127, 1, 257, 771, 2047, 4095]) .z))) = survive_Survive__Ask_c k359 := by kernel_rfl
theorem survive_Survive__Ask_sound {O : Type} {RO : O → Loc → (Nat → Option Obj) → Prop} : FSound RO Tryz.prog 325 (survive_Survive__Ask) :=
   have h : FSound RO Tryz.prog 325 (survive_Survive__Ask_c survive_is) := (survive_Survive__Ask_run survive_is) ▸ run_sound (gcons survive_is_ent (survive_is_sound) <| gnil) mixed Tryz.func325 (by kernel_rfl) _
   h

/-- (*haymow/pool.Pool).Set -/
noncomputable def pool_Pool__Set_c {O : Type} (k203 k204 k115 : Sm O) : Sm O := fun xs σ =>
 bif Nat.beq xs.length 4 then
 (AV.asP (xs.getD 0 .u)).bind fun p0 =>
 (AV.asI .i64 (xs.getD 1 .u)).bind fun n1 =>
 (AV.asI .i64 (xs.getD 2 .u)).bind fun n2 =>
 (AV.asI .u64 (xs.getD 3 .u)).bind fun n3 =>
 (k203 [(.p p0), J n1, J n2] σ).bind fun r4 =>
 (AV.asI .i64 r4.1).bind fun n5 =>
 (bif ((n5 : Int) != 0) then
 none
 else Option.bind p0 fun q6 =>
 (r4.2.ld q6.1 q6.2).bind fun w7 =>
 (AV.asP w7).bind fun p8 =>
 Option.bind p0 fun q9 =>
 (r4.2.ld q9.1 (q9.2 + 1)).bind fun w10 =>
 (AV.asI .i64 w10).bind fun n11 =>
 (k204 [(.p p0), J n1, J n2] r4.2).bind fun r12 =>
 (AV.asI .i64 r12.1).bind fun n13 =>
 (chkE (r12.2.ld q6.1 q6.2) (some (.p p8))).bind fun _ =>
 (chkE (r12.2.ld q9.1 (q9.2 + 1)) (some (.i .i64 n11))).bind fun _ =>
 (k115 [(.p p8), J n11, J n13, (.i .u64 n3)] r12.2).bind fun r14 =>
 (AV.asI .i64 r14.1).bind fun n15 =>
 some (J n15, r14.2))
 else none
noncomputable def pool_Pool__Set {O : Type} : Sm O := pool_Pool__Set_c pool_Pool__check pool_Pool__at mem_Mem__Write
theorem pool_Pool__Set_ent : Entered Tryz.prog 181 := Tryz.call181
theorem pool_Pool__Set_run {O : Type} (k203 k204 k115 : Sm O) : run (O := O) Tryz.prog [(203, k203), (204, k204), (115, k115)] Tryz.f181 (.n .z (.n (.n .z (.n .z (.n .x .z))) (.n (.d [] [0, 1, 2, 3, 4, 5, 6, 7, 8, 9, 10, 12, 11, 13, 14] [0, 1, 3, 7, 0, 16, 48, 112, 0, 0, 0, 1792, 0, 8191, 16383]) .z))) = pool_Pool__Set_c k203 k204 k115 := by kernel_rfl
theorem pool_Pool__Set_sound {O : Type} {RO : O → Loc → (Nat → Option Obj) → Prop} : FSound RO Tryz.prog 181 (pool_Pool__Set) :=
   have h : FSound RO Tryz.prog 181 (pool_Pool__Set_c pool_Pool__check pool_Pool__at mem_Mem__Write) := (pool_Pool__Set_run pool_Pool__check pool_Pool__at mem_Mem__Write) ▸ run_sound (gcons pool_Pool__check_ent (pool_Pool__check_sound) <| gcons pool_Pool__at_ent (pool_Pool__at_sound) <| gcons mem_Mem__Write_ent (mem_Mem__Write_sound) <| gnil) mixed Tryz.func181 (by kernel_rfl) _
   h

/-- (*haymow/handles.Handles).Set -/
noncomputable def handles_Handles__Set_c {O : Type} (k416 k181 : Sm O) : Sm O := fun xs σ =>
 bif Nat.beq xs.length 3 then
 (AV.asP (xs.getD 0 .u)).bind fun p0 =>
 (AV.asI .i64 (xs.getD 1 .u)).bind fun n1 =>
 (AV.asI .u64 (xs.getD 2 .u)).bind fun n2 =>
 (k416 [(.p p0), J n1] σ).bind fun r3 =>
 (AV.asTup 2 r3.1).bind fun c4 =>
 I6 c4 0 fun n5 => I6 c4 1 fun n6 => (bif ((n6 : Int) != 0) then
 none
 else Option.bind p0 fun q7 =>
 (r3.2.ld q7.1 q7.2).bind fun w8 =>
 (AV.asP w8).bind fun p9 =>
 (k181 [(.p p9), J n5, J 0, (.i .u64 n2)] r3.2).bind fun r10 =>
 (AV.asI .i64 r10.1).bind fun n11 =>
 some (J n11, r10.2))
 else none
noncomputable def handles_Handles__Set {O : Type} : Sm O := handles_Handles__Set_c handles_Handles__id pool_Pool__Set
theorem handles_Handles__Set_ent : Entered Tryz.prog 340 := Tryz.call340
theorem handles_Handles__Set_run {O : Type} (k416 k181 : Sm O) : run (O := O) Tryz.prog [(416, k416), (181, k181)] Tryz.f340 (.n .z (.n .z (.n (.n .z (.n .x .z)) .z))) = handles_Handles__Set_c k416 k181 := by kernel_rfl
theorem handles_Handles__Set_sound {O : Type} {RO : O → Loc → (Nat → Option Obj) → Prop} : FSound RO Tryz.prog 340 (handles_Handles__Set) :=
   have h : FSound RO Tryz.prog 340 (handles_Handles__Set_c handles_Handles__id pool_Pool__Set) := (handles_Handles__Set_run handles_Handles__id pool_Pool__Set) ▸ run_sound (gcons handles_Handles__id_ent (handles_Handles__id_sound) <| gcons pool_Pool__Set_ent (pool_Pool__Set_sound) <| gnil) mixed Tryz.func340 (by kernel_rfl) _
   h

/-- (*haymow/roots.Roots).Set -/
noncomputable def roots_Roots__Set_c {O : Type} (k340 : Sm O) : Sm O := fun xs σ =>
 bif Nat.beq xs.length 3 then
 (AV.asP (xs.getD 0 .u)).bind fun p0 =>
 (AV.asI .i64 (xs.getD 1 .u)).bind fun n1 =>
 (AV.asI .u64 (xs.getD 2 .u)).bind fun n2 =>
 (bif (decide (n1 ≥ 0)) then
 Option.bind p0 fun q3 =>
 (σ.ld q3.1 (q3.2 + 1)).bind fun w4 =>
 (AV.asP w4).bind fun p5 =>
 (k340 [(.p p5), J n1, (.i .u64 n2)] σ).bind fun r6 =>
 (AV.asI .i64 r6.1).bind fun n7 =>
 some (J n7, r6.2)
 else none)
 else none
noncomputable def roots_Roots__Set {O : Type} : Sm O := roots_Roots__Set_c handles_Handles__Set
theorem roots_Roots__Set_ent : Entered Tryz.prog 253 := Tryz.call253
theorem roots_Roots__Set_run {O : Type} (k340 : Sm O) : run (O := O) Tryz.prog [(340, k340)] Tryz.f253 (.n .z (.n (.n .z (.n .z .x)) (.n (.d [] [0, 1, 2, 3, 4, 6, 5, 7, 8] [0, 1, 3, 7, 0, 16, 0, 127, 255]) .z))) = roots_Roots__Set_c k340 := by kernel_rfl
theorem roots_Roots__Set_sound {O : Type} {RO : O → Loc → (Nat → Option Obj) → Prop} : FSound RO Tryz.prog 253 (roots_Roots__Set) :=
   have h : FSound RO Tryz.prog 253 (roots_Roots__Set_c handles_Handles__Set) := (roots_Roots__Set_run handles_Handles__Set) ▸ run_sound (gcons handles_Handles__Set_ent (handles_Handles__Set_sound) <| gnil) mixed Tryz.func253 (by kernel_rfl) _
   h

/-- (*haymow/heap.Heap).make -/
noncomputable def heap_Heap__make_c {O : Type} (k322 k104 k241 k36 k231 k323 k63 k324 k325 k253 : Sm O) : Sm O := fun xs σ =>
 bif Nat.beq xs.length 4 then
 (AV.asP (xs.getD 0 .u)).bind fun p0 =>
 (AV.asI .i64 (xs.getD 1 .u)).bind fun n1 =>
 (AV.asAgg 2 (xs.getD 2 .u)).bind fun c2 =>
 I6 c2 0 fun n3 => I6 c2 1 fun n4 => (AV.asI .i64 (xs.getD 3 .u)).bind fun n5 =>
 let σ6 := σ.bump 1
 let σ7 := σ6.put σ.next (.cells true 75 [J n3, J n4])
 Option.bind p0 fun q8 =>
 (σ7.ld q8.1 (q8.2 + 19)).bind fun w9 =>
 (AV.asP w9).bind fun p10 =>
 (k322 [(.p p10), J n5] σ7).bind fun r11 =>
 (AV.asB r11.1).bind fun b12 =>
 (bif (!b12) then
 none
 else (r11.2.ld (.n σ.next) 0).bind fun w13 =>
 (AV.asI .i64 w13).bind fun n14 =>
 (r11.2.ld (.n σ.next) 1).bind fun w15 =>
 (AV.asI .i64 w15).bind fun n16 =>
 (k104 [(.agg [J n14, J n16])] r11.2).bind fun r17 =>
 (AV.asB r17.1).bind fun b18 =>
 (bif (!b18) then
 none
 else Option.bind p0 fun q19 =>
 (r17.2.ld q19.1 (q19.2 + 6)).bind fun w20 =>
 (AV.asP w20).bind fun p21 =>
 (k241 [(.p p21), J n1] r17.2).bind fun r22 =>
 (AV.asTup 2 r22.1).bind fun c23 =>
 (AV.asI .u64 (c23.getD 0 .u)).bind fun n24 =>
 I6 c23 1 fun n25 => (bif ((n25 : Int) != 0) then
 none
 else (r22.2.ld (.n σ.next) 0).bind fun w26 =>
 (AV.asI .i64 w26).bind fun n27 =>
 (r22.2.ld (.n σ.next) 1).bind fun w28 =>
 (AV.asI .i64 w28).bind fun n29 =>
 Option.bind p0 fun q30 =>
 (r22.2.ld q30.1 (q30.2 + 2)).bind fun w31 =>
 (AV.asI .i64 w31).bind fun n32 =>
 (k36 [(.agg [J n27, J n29]), J n32] r22.2).bind fun r33 =>
 (AV.asI .i64 r33.1).bind fun n34 =>
 (k231 [(.p p0), J n34] r33.2).bind fun r35 =>
 (AV.asI .i64 r35.1).bind fun n36 =>
 (bif ((n36 : Int) != 0) then
 none
 else Option.bind p0 fun q37 =>
 (r35.2.ld q37.1 (q37.2 + 5)).bind fun w38 =>
 (AV.asP w38).bind fun p39 =>
 (r35.2.ld (.n σ.next) 0).bind fun w40 =>
 (AV.asI .i64 w40).bind fun n41 =>
 (r35.2.ld (.n σ.next) 1).bind fun w42 =>
 (AV.asI .i64 w42).bind fun n43 =>
 (k323 [(.p p39), (.agg [J n41, J n43]), J n5] r35.2).bind fun r44 =>
 (AV.asTup 2 r44.1).bind fun c45 =>
 (AV.asI .u64 (c45.getD 0 .u)).bind fun n46 =>
 I6 c45 1 fun n47 => (bif ((n47 : Int) != 0) then
 none
 else Option.bind p0 fun q48 =>
 (r44.2.ld q48.1 (q48.2 + 31)).bind fun w49 =>
 (AV.asI .i64 w49).bind fun n50 =>
 Option.bind p0 fun q51 =>
 (r44.2.st q51.1 (q51.2 + 31) [(.i .i64 (IntKind.i64.wrap (n50 + n34)))]).bind fun σ52 =>
 Option.bind p0 fun q53 =>
 (σ52.ld q53.1 (q53.2 + 19)).bind fun w54 =>
 (AV.asP w54).bind fun p55 =>
 (σ52.ld (.n σ.next) 0).bind fun w56 =>
 (AV.asI .i64 w56).bind fun n57 =>
 (σ52.ld (.n σ.next) 1).bind fun w58 =>
 (AV.asI .i64 w58).bind fun n59 =>
 (k63 [(.agg [J n57, J n59])] σ52).bind fun r60 =>
 (AV.asI .i64 r60.1).bind fun n61 =>
 (chkE (r60.2.ld q53.1 (q53.2 + 19)) (some (.p p55))).bind fun _ =>
 (k324 [(.p p55), J n5, J n61] r60.2).bind fun r62 =>
 (AV.asI .i64 r62.1).bind fun n63 =>
 Option.bind p0 fun q64 =>
 (r62.2.ld q64.1 (q64.2 + 20)).bind fun w65 =>
 (AV.asP w65).bind fun p66 =>
 (k325 [(.p p66), J n5] r62.2).bind fun r67 =>
 (AV.asI .i64 r67.1).bind fun n68 =>
 Option.bind p0 fun q69 =>
 (r67.2.ld q69.1 (q69.2 + 6)).bind fun w70 =>
 (AV.asP w70).bind fun p71 =>
 (k253 [(.p p71), J n1, (.i .u64 n46)] r67.2).bind fun r72 =>
 (AV.asI .i64 r72.1).bind fun n73 =>
 some (J n73, r72.2))))))
 else none
noncomputable def heap_Heap__make {O : Type} : Sm O := heap_Heap__make_c sites_Sites__Is shape_Right roots_Roots__Get shape_Charge heap_Heap__request store_Store__Make shape_Words sites_Sites__Add survive_Survive__Ask roots_Roots__Set
theorem heap_Heap__make_ent : Entered Tryz.prog 225 := Tryz.call225
theorem heap_Heap__make_run {O : Type} (k322 k104 k241 k36 k231 k323 k63 k324 k325 k253 : Sm O) : run (O := O) Tryz.prog [(322, k322), (104, k104), (241, k241), (36, k36), (231, k231), (323, k323), (63, k63), (324, k324), (325, k325), (253, k253)] Tryz.f225 (.n .z (.n (.n (.n .z (.n .x (.n .z (.n .x .z)))) .z) (.n (.n .z (.n .z (.n .x .z))) (.n (.d [] [0, 1, 2, 3, 4, 5, 6, 7] [0, 0, 2, 6, 14, 30, 63, 127]) (.n (.n .z (.n .z (.n .x .z))) (.n (.d [] [0, 1, 2, 3, 4, 5, 6, 7, 8, 9, 10, 11] [0, 1, 3, 7, 0, 0, 63, 127, 255, 255, 511, 2047]) (.n (.n .z (.n .x .z)) (.n .z (.n (.d [] [0, 1, 2, 3, 4, 5, 6, 7] [0, 1, 3, 7, 0, 0, 32, 127]) (.n .z .z)))))))))) = heap_Heap__make_c k322 k104 k241 k36 k231 k323 k63 k324 k325 k253 := by kernel_rfl
theorem heap_Heap__make_sound {O : Type} {RO : O → Loc → (Nat → Option Obj) → Prop} : FSound RO Tryz.prog 225 (heap_Heap__make) :=
   have h : FSound RO Tryz.prog 225 (heap_Heap__make_c sites_Sites__Is shape_Right roots_Roots__Get shape_Charge heap_Heap__request store_Store__Make shape_Words sites_Sites__Add survive_Survive__Ask roots_Roots__Set) := (heap_Heap__make_run sites_Sites__Is shape_Right roots_Roots__Get shape_Charge heap_Heap__request store_Store__Make shape_Words sites_Sites__Add survive_Survive__Ask roots_Roots__Set) ▸ run_sound (gcons sites_Sites__Is_ent (sites_Sites__Is_sound) <| gcons shape_Right_ent (shape_Right_sound) <| gcons roots_Roots__Get_ent (roots_Roots__Get_sound) <| gcons shape_Charge_ent (shape_Charge_sound) <| gcons heap_Heap__request_ent (heap_Heap__request_sound) <| gcons store_Store__Make_ent (store_Store__Make_sound) <| gcons shape_Words_ent (shape_Words_sound) <| gcons sites_Sites__Add_ent (sites_Sites__Add_sound) <| gcons survive_Survive__Ask_ent (survive_Survive__Ask_sound) <| gcons roots_Roots__Set_ent (roots_Roots__Set_sound) <| gnil) mixed Tryz.func225 (by kernel_rfl) _
   h

/-- (*haymow/heap.Heap).Alloc$1 -/
noncomputable def heap_Heap__Alloc_1_c {O : Type} (k225 : Sm O) : Sm O := fun xs σ =>
 bif Nat.beq xs.length 4 then
 (AV.asPS (xs.getD 0 .u)).bind fun q0 =>
 (σ.ld q0.1 q0.2).bind fun w1 =>
 (AV.asP w1).bind fun p2 =>
 (AV.asPS (xs.getD 1 .u)).bind fun q3 =>
 (σ.ld q3.1 q3.2).bind fun w4 =>
 (AV.asI .i64 w4).bind fun n5 =>
 (AV.asPS (xs.getD 2 .u)).bind fun q6 =>
 (σ.ld q6.1 q6.2).bind fun w7 =>
 (AV.asI .i64 w7).bind fun n8 =>
 (σ.ld q6.1 (q6.2 + 1)).bind fun w9 =>
 (AV.asI .i64 w9).bind fun n10 =>
 (AV.asPS (xs.getD 3 .u)).bind fun q11 =>
 (σ.ld q11.1 q11.2).bind fun w12 =>
 (AV.asI .i64 w12).bind fun n13 =>
 (k225 [(.p p2), J n5, (.agg [J n8, J n10]), J n13] σ).bind fun r14 =>
 (AV.asI .i64 r14.1).bind fun n15 =>
 some (J n15, r14.2)
 else none
noncomputable def heap_Heap__Alloc_1 {O : Type} : Sm O := heap_Heap__Alloc_1_c heap_Heap__make
theorem heap_Heap__Alloc_1_ent : Entered Tryz.prog 224 := Tryz.call224
theorem heap_Heap__Alloc_1_run {O : Type} (k225 : Sm O) : run (O := O) Tryz.prog [(225, k225)] Tryz.f224 (.n .z .z) = heap_Heap__Alloc_1_c k225 := by kernel_rfl
theorem heap_Heap__Alloc_1_sound {O : Type} {RO : O → Loc → (Nat → Option Obj) → Prop} : FSound RO Tryz.prog 224 (heap_Heap__Alloc_1) :=
   have h : FSound RO Tryz.prog 224 (heap_Heap__Alloc_1_c heap_Heap__make) := (heap_Heap__Alloc_1_run heap_Heap__make) ▸ run_sound (gcons heap_Heap__make_ent (heap_Heap__make_sound) <| gnil) mixed Tryz.func224 (by kernel_rfl) _
   h

/-- (*haymow/mem.Mem).Grow -/
noncomputable def mem_Mem__Grow_c {O : Type} (k291 k321 : Sm O) : Sm O := fun xs σ =>
 bif Nat.beq xs.length 3 then
 (AV.asP (xs.getD 0 .u)).bind fun p0 =>
 (AV.asI .i64 (xs.getD 1 .u)).bind fun n1 =>
 (AV.asI .i64 (xs.getD 2 .u)).bind fun n2 =>
 (k291 [(.p p0), J n1] σ).bind fun r3 =>
 (AV.asP r3.1).bind fun p4 =>
 (bif (Option.isNone p4) then
 none
 else Option.bind p4 fun q5 =>
 (r3.2.ld q5.1 q5.2).bind fun w6 =>
 (AV.asSl w6).bind fun l7 =>
 (bif (decide (n2 < (l7.2 : Int))) then
 none
 else (bif (decide (n2 > 4194304)) then
 none
 else Option.bind p0 fun q8 =>
 (r3.2.ld q8.1 q8.2).bind fun w9 =>
 (AV.asP w9).bind fun p10 =>
 Option.bind p4 fun q11 =>
 (r3.2.ld q11.1 q11.2).bind fun w12 =>
 (AV.asSl w12).bind fun l13 =>
 (k321 [(.p p10), (.i .i64 (IntKind.i64.wrap (n2 - (l13.2 : Int))))] r3.2).bind fun r14 =>
 (AV.asI .i64 r14.1).bind fun n15 =>
 let σ16 := r14.2.bump 1
 (bif ((((decide ((0 : Int) ≤ n2)) && (decide (n2 ≤ n2))) && (decide ((n2 * 8) ≤ 140737488355328))) && (decide (n2 ≤ 140737488355328))) then
 let σ17 := σ16.put r14.2.next (.cells true 95 ((List.replicate n2.toNat [(.i .u64 0)]).flatten))
 Option.bind p4 fun q18 =>
 (σ17.ld q18.1 q18.2).bind fun w19 =>
 (AV.asSl w19).bind fun l20 =>
 (bif Nat.beq (min l20.2 n2.toNat) 0 then
 Option.bind p4 fun q24 =>
 (σ17.st q24.1 q24.2 [(.sl (.loc (.n r14.2.next) 0 1) n2.toNat)]).bind fun σ25 =>
 some (J 0, σ25)
 else
 (σ17.rdSl l20.1 (min l20.2 n2.toNat) 1).bind fun c22 =>
 (σ17.wrSl (.loc (.n r14.2.next) 0 1) c22).bind fun σ23 =>
 Option.bind p4 fun q26 =>
 (σ23.st q26.1 q26.2 [(.sl (.loc (.n r14.2.next) 0 1) n2.toNat)]).bind fun σ27 =>
 some (J 0, σ27))
 else none))))
 else none
noncomputable def mem_Mem__Grow {O : Type} : Sm O := mem_Mem__Grow_c mem_Mem__at meter_Meter__Hold
theorem mem_Mem__Grow_ent : Entered Tryz.prog 346 := Tryz.call346
theorem mem_Mem__Grow_run {O : Type} (k291 k321 : Sm O) : run (O := O) Tryz.prog [(291, k291), (321, k321)] Tryz.f346 (.n .z (.n .z (.n (.n (.n .z (.n .x (.n .z (.n .x (.n .z (.n .x .z)))))) .z) (.n (.d [] [0, 1, 2, 3, 4, 5, 6, 7, 8, 9, 10, 11] [0, 1, 3, 7, 0, 0, 32, 96, 224, 480, 1008, 2047]) (.n .z (.n .z (.n .z .z))))))) = mem_Mem__Grow_c k291 k321 := by kernel_rfl
theorem mem_Mem__Grow_sound {O : Type} {RO : O → Loc → (Nat → Option Obj) → Prop} : FSound RO Tryz.prog 346 (mem_Mem__Grow) :=
   have h : FSound RO Tryz.prog 346 (mem_Mem__Grow_c mem_Mem__at meter_Meter__Hold) := (mem_Mem__Grow_run mem_Mem__at meter_Meter__Hold) ▸ run_sound (gcons mem_Mem__at_ent (mem_Mem__at_sound) <| gcons meter_Meter__Hold_ent (meter_Meter__Hold_sound) <| gnil) mixed Tryz.func346 (by kernel_rfl) _
   h

/-- (*haymow/pool.Pool).grow -/
noncomputable def pool_Pool__grow_c {O : Type} (k293 k346 : Sm O) : Sm O := fun xs σ =>
 bif Nat.beq xs.length 1 then
 (AV.asP (xs.getD 0 .u)).bind fun p0 =>
 Option.bind p0 fun q1 =>
 (σ.ld q1.1 (q1.2 + 3)).bind fun w2 =>
 (AV.asI .i64 w2).bind fun n3 =>
 (bif (decide (n3 ≥ 1048576)) then
 none
 else Option.bind p0 fun q4 =>
 (σ.ld q4.1 (q4.2 + 3)).bind fun w5 =>
 (AV.asI .i64 w5).bind fun n6 =>
 Option.bind p0 fun q7 =>
 (σ.ld q7.1 (q7.2 + 4)).bind fun w8 =>
 (AV.asI .i64 w8).bind fun n9 =>
 (bif (decide (n6 < n9)) then
 none
 else Option.bind p0 fun q10 =>
 (σ.ld q10.1 (q10.2 + 4)).bind fun w11 =>
 (AV.asI .i64 w11).bind fun n12 =>
 let v13 : Int := (if (IntKind.i64.wrap (2 * n12)) > 8 then (IntKind.i64.wrap (2 * n12)) else 8)
 Option.bind p0 fun q14 =>
 (σ.ld q14.1 q14.2).bind fun w15 =>
 (AV.asP w15).bind fun p16 =>
 Option.bind p0 fun q17 =>
 (σ.ld q17.1 (q17.2 + 1)).bind fun w18 =>
 (AV.asI .i64 w18).bind fun n19 =>
 (k293 [(.p p0)] σ).bind fun r20 =>
 (AV.asI .i64 r20.1).bind fun n21 =>
 (chkE (r20.2.ld q14.1 q14.2) (some (.p p16))).bind fun _ =>
 (chkE (r20.2.ld q17.1 (q17.2 + 1)) (some (.i .i64 n19))).bind fun _ =>
 (k346 [(.p p16), J n19, (.i .i64 (IntKind.i64.wrap (v13 * n21)))] r20.2).bind fun r22 =>
 (AV.asI .i64 r22.1).bind fun n23 =>
 (bif ((n23 : Int) != 0) then
 none
 else Option.bind p0 fun q24 =>
 (r22.2.st q24.1 (q24.2 + 4) [J v13]).bind fun σ25 =>
 some (J 0, σ25))))
 else none
noncomputable def pool_Pool__grow {O : Type} : Sm O := pool_Pool__grow_c pool_Pool__width mem_Mem__Grow
theorem pool_Pool__grow_ent : Entered Tryz.prog 467 := Tryz.call467
theorem pool_Pool__grow_run {O : Type} (k293 k346 : Sm O) : run (O := O) Tryz.prog [(293, k293), (346, k346)] Tryz.f467 (.n .z (.n (.n (.n .z (.n .x (.n (.d [] [0, 1, 2, 3, 4, 5, 6, 7, 8, 9] [0, 1, 3, 7, 0, 16, 48, 112, 255, 511]) (.n .x .z)))) .z) (.n .z (.n (.n (.d [] [0, 1, 2, 3, 4, 5, 6, 7, 8, 9, 10, 11, 12, 13] [0, 1, 3, 7, 0, 16, 48, 112, 0, 0, 512, 1792, 4095, 8191]) (.n .z (.n .x .z))) (.n .z .z))))) = pool_Pool__grow_c k293 k346 := by kernel_rfl
theorem pool_Pool__grow_sound {O : Type} {RO : O → Loc → (Nat → Option Obj) → Prop} : FSound RO Tryz.prog 467 (pool_Pool__grow) :=
   have h : FSound RO Tryz.prog 467 (pool_Pool__grow_c pool_Pool__width mem_Mem__Grow) := (pool_Pool__grow_run pool_Pool__width mem_Mem__Grow) ▸ run_sound (gcons pool_Pool__width_ent (pool_Pool__width_sound) <| gcons mem_Mem__Grow_ent (mem_Mem__Grow_sound) <| gnil) mixed Tryz.func467 (by kernel_rfl) _
   h

/-- (*haymow/pool.Pool).Take -/
noncomputable def pool_Pool__Take_c {O : Type} (k467 k204 k115 k177 : Sm O) : Sm O := fun xs σ =>
 bif Nat.beq xs.length 1 then
 (AV.asP (xs.getD 0 .u)).bind fun p0 =>
 Option.bind p0 fun q1 =>
 (σ.ld q1.1 (q1.2 + 5)).bind fun w2 =>
 (AV.asI .i64 w2).bind fun n3 =>
 (bif ((n3 : Int) == 0) then
 (k467 [(.p p0)] σ).bind fun r4 =>
 (AV.asI .i64 r4.1).bind fun n5 =>
 (bif ((n5 : Int) != 0) then
 none
 else Option.bind p0 fun q6 =>
 (r4.2.ld q6.1 (q6.2 + 3)).bind fun w7 =>
 (AV.asI .i64 w7).bind fun n8 =>
 Option.bind p0 fun q9 =>
 (r4.2.st q9.1 (q9.2 + 3) [(.i .i64 (IntKind.i64.wrap (n8 + 1)))]).bind fun σ10 =>
 Option.bind p0 fun q11 =>
 (σ10.ld q11.1 (q11.2 + 3)).bind fun w12 =>
 (AV.asI .i64 w12).bind fun n13 =>
 Option.bind p0 fun q14 =>
 (σ10.ld q14.1 q14.2).bind fun w15 =>
 (AV.asP w15).bind fun p16 =>
 Option.bind p0 fun q17 =>
 (σ10.ld q17.1 (q17.2 + 1)).bind fun w18 =>
 (AV.asI .i64 w18).bind fun n19 =>
 (k204 [(.p p0), J n13, (.i .i64 (-1))] σ10).bind fun r20 =>
 (AV.asI .i64 r20.1).bind fun n21 =>
 (chkE (r20.2.ld q14.1 q14.2) (some (.p p16))).bind fun _ =>
 (chkE (r20.2.ld q17.1 (q17.2 + 1)) (some (.i .i64 n19))).bind fun _ =>
 (k115 [(.p p16), J n19, J n21, (.i .u64 1)] r20.2).bind fun r22 =>
 (AV.asI .i64 r22.1).bind fun n23 =>
 Option.bind p0 fun q24 =>
 (r22.2.ld q24.1 (q24.2 + 6)).bind fun w25 =>
 (AV.asI .i64 w25).bind fun n26 =>
 Option.bind p0 fun q27 =>
 (r22.2.st q27.1 (q27.2 + 6) [(.i .i64 (IntKind.i64.wrap (n26 + 1)))]).bind fun σ28 =>
 some ((.tup [J n13, J 0]), σ28))
 else none)
 else none
noncomputable def pool_Pool__Take {O : Type} : Sm O := pool_Pool__Take_c pool_Pool__grow pool_Pool__at mem_Mem__Write mem_Mem__Read
theorem pool_Pool__Take_ent : Entered Tryz.prog 411 := Tryz.call411
theorem pool_Pool__Take_run {O : Type} (k467 k204 k115 k177 : Sm O) : run (O := O) Tryz.prog [(467, k467), (204, k204), (115, k115), (177, k177)] Tryz.f411 (.n .z (.n .z (.n (.n .z (.n (.n (.n .z (.n .z (.n .x .z))) (.n .z (.n .z (.n (.d [] [0, 1, 2, 3, 4, 5, 6, 7, 8, 9, 10, 11] [0, 1, 3, 7, 0, 16, 48, 112, 0, 0, 768, 2047]) (.n .z .z))))) .x)) (.n (.d [] [0, 1, 2, 3, 4, 5, 6, 7, 8, 9, 10, 11, 12, 13, 14, 15, 16] [0, 1, 3, 7, 0, 16, 48, 112, 0, 0, 768, 2047, 4095, 8191, 8191, 16383, 65535]) (.n (.d [] [0, 1, 2, 3, 4, 5, 6, 7, 8, 9, 10, 11, 12, 13, 14, 15, 16] [0, 1, 3, 7, 0, 16, 48, 112, 0, 0, 768, 2047, 4095, 8191, 8191, 16383, 65535]) (.n (.d [] [0, 1, 2, 3, 4, 5, 6, 7, 8, 9, 11, 12, 10, 13] [0, 1, 3, 7, 0, 16, 48, 112, 0, 0, 768, 0, 2048, 8191]) (.n (.d [] [0, 1, 2, 3, 4, 5, 6, 7, 8, 9, 11, 12, 13, 14, 10, 15] [0, 1, 3, 7, 0, 16, 48, 112, 0, 0, 768, 0, 2048, 6144, 14336, 32767]) (.n .z (.n .z .z))))))))) = pool_Pool__Take_c k467 k204 k115 k177 := by kernel_rfl
theorem pool_Pool__Take_sound {O : Type} {RO : O → Loc → (Nat → Option Obj) → Prop} : FSound RO Tryz.prog 411 (pool_Pool__Take) :=
   have h : FSound RO Tryz.prog 411 (pool_Pool__Take_c pool_Pool__grow pool_Pool__at mem_Mem__Write mem_Mem__Read) := (pool_Pool__Take_run pool_Pool__grow pool_Pool__at mem_Mem__Write mem_Mem__Read) ▸ run_sound (gcons pool_Pool__grow_ent (pool_Pool__grow_sound) <| gcons pool_Pool__at_ent (pool_Pool__at_sound) <| gcons mem_Mem__Write_ent (mem_Mem__Write_sound) <| gcons mem_Mem__Read_ent (mem_Mem__Read_sound) <| gnil) mixed Tryz.func411 (by kernel_rfl) _
   h

/-- (*haymow/pool.Pool).Table -/
noncomputable def pool_Pool__Table_c {O : Type} (k293 : Sm O) : Sm O := fun xs σ =>
 bif Nat.beq xs.length 3 then
 (AV.asP (xs.getD 0 .u)).bind fun p0 =>
 (AV.asI .i64 (xs.getD 1 .u)).bind fun n1 =>
 (AV.asI .i64 (xs.getD 2 .u)).bind fun n2 =>
 let σ3 := σ.bump 1
 let σ4 := σ3.put σ.next (.cells true 321 [(.p none), J 0, J 0, J 0, J 0])
 Option.bind p0 fun q5 =>
 (σ4.ld q5.1 q5.2).bind fun w6 =>
 (AV.asP w6).bind fun p7 =>
 Option.bind p0 fun q8 =>
 (σ4.ld q8.1 (q8.2 + 1)).bind fun w9 =>
 (AV.asI .i64 w9).bind fun n10 =>
 (k293 [(.p p0)] σ4).bind fun r11 =>
 (AV.asI .i64 r11.1).bind fun n12 =>
 (chkE (r11.2.ld q5.1 q5.2) (some (.p p7))).bind fun _ =>
 (chkE (r11.2.ld q8.1 (q8.2 + 1)) (some (.i .i64 n10))).bind fun _ =>
 (r11.2.st (.n σ.next) 0 [(.p p7), J n10, J n12, (.i .i64 (IntKind.i64.wrap (n1 + 1))), (.i .i64 (IntKind.i64.wrap (n2 + 1)))]).bind fun σ13 =>
 (σ13.ld (.n σ.next) 0).bind fun w14 =>
 (AV.asP w14).bind fun p15 =>
 (σ13.ld (.n σ.next) 1).bind fun w16 =>
 (AV.asI .i64 w16).bind fun n17 =>
 (σ13.ld (.n σ.next) 2).bind fun w18 =>
 (AV.asI .i64 w18).bind fun n19 =>
 (σ13.ld (.n σ.next) 3).bind fun w20 =>
 (AV.asI .i64 w20).bind fun n21 =>
 (σ13.ld (.n σ.next) 4).bind fun w22 =>
 (AV.asI .i64 w22).bind fun n23 =>
 some ((.agg [(.p p15), J n17, J n19, J n21, J n23]), σ13)
 else none
noncomputable def pool_Pool__Table {O : Type} : Sm O := pool_Pool__Table_c pool_Pool__width
theorem pool_Pool__Table_ent : Entered Tryz.prog 282 := Tryz.call282
theorem pool_Pool__Table_run {O : Type} (k293 : Sm O) : run (O := O) Tryz.prog [(293, k293)] Tryz.f282 (.n .z (.n (.d [] [0, 1, 2, 3, 4, 5, 6, 7, 8, 10, 11, 12, 13, 9, 14, 15] [0, 1, 3, 7, 0, 16, 48, 112, 0, 256, 0, 1024, 0, 4096, 16383, 32767]) .z)) = pool_Pool__Table_c k293 := by kernel_rfl
theorem pool_Pool__Table_sound {O : Type} {RO : O → Loc → (Nat → Option Obj) → Prop} : FSound RO Tryz.prog 282 (pool_Pool__Table) :=
   have h : FSound RO Tryz.prog 282 (pool_Pool__Table_c pool_Pool__width) := (pool_Pool__Table_run pool_Pool__width) ▸ run_sound (gcons pool_Pool__width_ent (pool_Pool__width_sound) <| gnil) mixed Tryz.func282 (by kernel_rfl) _
   h

/-- (*haymow/handles.Handles).table -/
noncomputable def handles_Handles__table_c {O : Type} (k282 : Sm O) : Sm O := fun xs σ =>
 bif Nat.beq xs.length 1 then
 (AV.asP (xs.getD 0 .u)).bind fun p0 =>
 let σ1 := σ.bump 1
 let σ2 := σ1.put σ.next (.cells true 321 [(.p none), J 0, J 0, J 0, J 0])
 Option.bind p0 fun q3 =>
 (σ2.ld q3.1 q3.2).bind fun w4 =>
 (AV.asP w4).bind fun p5 =>
 (k282 [(.p p5), J 1, J 2] σ2).bind fun r6 =>
 (AV.asAgg 5 r6.1).bind fun c7 =>
 (AV.asP (c7.getD 0 .u)).bind fun p8 =>
 I6 c7 1 fun n9 => I6 c7 2 fun n10 => I6 c7 3 fun n11 => I6 c7 4 fun n12 => (r6.2.st (.n σ.next) 0 [(.p p8), J n9, J n10, J n11, J n12]).bind fun σ13 =>
 (σ13.ld (.n σ.next) 0).bind fun w14 =>
 (AV.asP w14).bind fun p15 =>
 (σ13.ld (.n σ.next) 1).bind fun w16 =>
 (AV.asI .i64 w16).bind fun n17 =>
 (σ13.ld (.n σ.next) 2).bind fun w18 =>
 (AV.asI .i64 w18).bind fun n19 =>
 (σ13.ld (.n σ.next) 3).bind fun w20 =>
 (AV.asI .i64 w20).bind fun n21 =>
 (σ13.ld (.n σ.next) 4).bind fun w22 =>
 (AV.asI .i64 w22).bind fun n23 =>
 some ((.agg [(.p p15), J n17, J n19, J n21, J n23]), σ13)
 else none
noncomputable def handles_Handles__table {O : Type} : Sm O := handles_Handles__table_c pool_Pool__Table
theorem handles_Handles__table_ent : Entered Tryz.prog 179 := Tryz.call179
theorem handles_Handles__table_run {O : Type} (k282 : Sm O) : run (O := O) Tryz.prog [(282, k282)] Tryz.f179 (.n .z .z) = handles_Handles__table_c k282 := by kernel_rfl
theorem handles_Handles__table_sound {O : Type} {RO : O → Loc → (Nat → Option Obj) → Prop} : FSound RO Tryz.prog 179 (handles_Handles__table) :=
   have h : FSound RO Tryz.prog 179 (handles_Handles__table_c pool_Pool__Table) := (handles_Handles__table_run pool_Pool__Table) ▸ run_sound (gcons pool_Pool__Table_ent (pool_Pool__Table_sound) <| gnil) mixed Tryz.func179 (by kernel_rfl) _
   h

/-- (haymow/chain.Table).Right$1 -/
noncomputable def chain_Table__Right_1_c {O : Type} : Sm O := fun xs σ =>
 bif Nat.beq xs.length 2 then
 (AV.asI .i64 (xs.getD 0 .u)).bind fun n0 =>
 ((bif ((decide (n0 ≥ 0)) == true) then
 (AV.asPS (xs.getD 1 .u)).bind fun q1 =>
 (σ.ld q1.1 (q1.2 + 2)).bind fun w2 =>
 (AV.asI .i64 w2).bind fun n3 =>
 some ([(.b (decide (n0 < n3)))], σ)
 else some ([(.b false)], σ)) : Option (List AV × AH O)).bind fun r4 =>
 (AV.asB (r4.1.getD 0 .u)).bind fun b5 =>
 some ((.b b5), r4.2)
 else none
noncomputable def chain_Table__Right_1 {O : Type} : Sm O := chain_Table__Right_1_c
theorem chain_Table__Right_1_ent : Entered Tryz.prog 487 := Tryz.call487
theorem chain_Table__Right_1_run {O : Type} : run (O := O) Tryz.prog [] Tryz.f487 (.n .z (.n (.g [(2, 4, [(11, .one .b)])]) .z)) = chain_Table__Right_1_c  := by kernel_rfl
theorem chain_Table__Right_1_sound {O : Type} {RO : O → Loc → (Nat → Option Obj) → Prop} : FSound RO Tryz.prog 487 (chain_Table__Right_1) :=
   have h : FSound RO Tryz.prog 487 (chain_Table__Right_1_c) := (chain_Table__Right_1_run) ▸ run_sound (gnil) mixed Tryz.func487 (by kernel_rfl) _
   h

/-- (haymow/chain.Table).Right -/
noncomputable def chain_Table__Right_c {O : Type} (k487 : Sm O) : Sm O := fun xs σ =>
 bif Nat.beq xs.length 1 then
 (AV.asAgg 5 (xs.getD 0 .u)).bind fun c0 =>
 (AV.asP (c0.getD 0 .u)).bind fun p1 =>
 I6 c0 1 fun n2 => I6 c0 2 fun n3 => I6 c0 3 fun n4 => I6 c0 4 fun n5 => let σ6 := σ.bump 1
 let σ7 := σ6.put σ.next (.cells true 321 [(.p p1), J n2, J n3, J n4, J n5])
 (σ7.ld (.n σ.next) 0).bind fun w8 =>
 (AV.asP w8).bind fun p9 =>
 ((bif ((!(Option.isNone p9)) == true) then
 (σ7.ld (.n σ.next) 2).bind fun w10 =>
 (AV.asI .i64 w10).bind fun n11 =>
 some ([(.b (decide (n11 ≥ 2)))], σ7)
 else some ([(.b false)], σ7)) : Option (List AV × AH O)).bind fun r12 =>
 (AV.asB (r12.1.getD 0 .u)).bind fun b13 =>
 ((bif (b13 == true) then
 (r12.2.ld (.n σ.next) 2).bind fun w14 =>
 (AV.asI .i64 w14).bind fun n15 =>
 some ([(.b (decide (n15 ≤ 64)))], r12.2)
 else some ([(.b false)], r12.2)) : Option (List AV × AH O)).bind fun r16 =>
 (AV.asB (r16.1.getD 0 .u)).bind fun b17 =>
 ((bif (b17 == true) then
 (r16.2.ld (.n σ.next) 3).bind fun w18 =>
 (AV.asI .i64 w18).bind fun n19 =>
 (k487 [J n19, (.p (some ((.n σ.next), 0)))] r16.2).bind fun r20 =>
 (AV.asB r20.1).bind fun b21 =>
 some ([(.b b21)], r20.2)
 else some ([(.b false)], r16.2)) : Option (List AV × AH O)).bind fun r22 =>
 (AV.asB (r22.1.getD 0 .u)).bind fun b23 =>
 ((bif (b23 == true) then
 (r22.2.ld (.n σ.next) 4).bind fun w24 =>
 (AV.asI .i64 w24).bind fun n25 =>
 (k487 [J n25, (.p (some ((.n σ.next), 0)))] r22.2).bind fun r26 =>
 (AV.asB r26.1).bind fun b27 =>
 some ([(.b b27)], r26.2)
 else some ([(.b false)], r22.2)) : Option (List AV × AH O)).bind fun r28 =>
 (AV.asB (r28.1.getD 0 .u)).bind fun b29 =>
 ((bif (b29 == true) then
 (r28.2.ld (.n σ.next) 3).bind fun w30 =>
 (AV.asI .i64 w30).bind fun n31 =>
 (r28.2.ld (.n σ.next) 4).bind fun w32 =>
 (AV.asI .i64 w32).bind fun n33 =>
 some ([(.b ((n31 : Int) != n33))], r28.2)
 else some ([(.b false)], r28.2)) : Option (List AV × AH O)).bind fun r34 =>
 (AV.asB (r34.1.getD 0 .u)).bind fun b35 =>
 some ((.b b35), r34.2)
 else none
noncomputable def chain_Table__Right {O : Type} : Sm O := chain_Table__Right_c chain_Table__Right_1
theorem chain_Table__Right_ent : Entered Tryz.prog 443 := Tryz.call443
theorem chain_Table__Right_run {O : Type} (k487 : Sm O) : run (O := O) Tryz.prog [(487, k487)] Tryz.f443 (.n .z (.n .z (.n (.g [(3, 3, [(12, .one .b)]), (8, 3, [(17, .one .b)]), (13, 4, [(23, .one .b)]), (19, 4, [(29, .one .b)]), (25, 5, [(36, .one .b)])]) .z))) = chain_Table__Right_c k487 := by kernel_rfl
theorem chain_Table__Right_sound {O : Type} {RO : O → Loc → (Nat → Option Obj) → Prop} : FSound RO Tryz.prog 443 (chain_Table__Right) :=
   have h : FSound RO Tryz.prog 443 (chain_Table__Right_c chain_Table__Right_1) := (chain_Table__Right_run chain_Table__Right_1) ▸ run_sound (gcons chain_Table__Right_1_ent (chain_Table__Right_1_sound) <| gnil) mixed Tryz.func443 (by kernel_rfl) _
   h

/-- (haymow/chain.Table).Entries -/
noncomputable def chain_Table__Entries_c {O : Type} (k443 k422 : Sm O) : Sm O := fun xs σ =>
 bif Nat.beq xs.length 1 then
 (AV.asAgg 5 (xs.getD 0 .u)).bind fun c0 =>
 (AV.asP (c0.getD 0 .u)).bind fun p1 =>
 I6 c0 1 fun n2 => I6 c0 2 fun n3 => I6 c0 3 fun n4 => I6 c0 4 fun n5 => let σ6 := σ.bump 1
 let σ7 := σ6.put σ.next (.cells true 321 [(.p p1), J n2, J n3, J n4, J n5])
 (σ7.ld (.n σ.next) 0).bind fun w8 =>
 (AV.asP w8).bind fun p9 =>
 (σ7.ld (.n σ.next) 1).bind fun w10 =>
 (AV.asI .i64 w10).bind fun n11 =>
 (σ7.ld (.n σ.next) 2).bind fun w12 =>
 (AV.asI .i64 w12).bind fun n13 =>
 (σ7.ld (.n σ.next) 3).bind fun w14 =>
 (AV.asI .i64 w14).bind fun n15 =>
 (σ7.ld (.n σ.next) 4).bind fun w16 =>
 (AV.asI .i64 w16).bind fun n17 =>
 (k443 [(.agg [(.p p9), J n11, J n13, J n15, J n17])] σ7).bind fun r18 =>
 (AV.asB r18.1).bind fun b19 =>
 (bif (!b19) then
 none
 else (r18.2.ld (.n σ.next) 0).bind fun w20 =>
 (AV.asP w20).bind fun p21 =>
 (r18.2.ld (.n σ.next) 1).bind fun w22 =>
 (AV.asI .i64 w22).bind fun n23 =>
 (k422 [(.p p21), J n23] r18.2).bind fun r24 =>
 (AV.asTup 2 r24.1).bind fun c25 =>
 I6 c25 0 fun n26 => I6 c25 1 fun n27 => (r24.2.ld (.n σ.next) 2).bind fun w28 =>
 (AV.asI .i64 w28).bind fun n29 =>
 (bif (n29 == 0) then
 none
 else some ((.i .i64 (IntKind.i64.wrap (Int.tdiv n26 n29))), r24.2)))
 else none
noncomputable def chain_Table__Entries {O : Type} : Sm O := chain_Table__Entries_c chain_Table__Right mem_Mem__Size
theorem chain_Table__Entries_ent : Entered Tryz.prog 444 := Tryz.call444
theorem chain_Table__Entries_run {O : Type} (k443 k422 : Sm O) : run (O := O) Tryz.prog [(443, k443), (422, k422)] Tryz.f444 (.n .z (.n (.n .z (.n .x .z)) (.n .z .z))) = chain_Table__Entries_c k443 k422 := by kernel_rfl
theorem chain_Table__Entries_sound {O : Type} {RO : O → Loc → (Nat → Option Obj) → Prop} : FSound RO Tryz.prog 444 (chain_Table__Entries) :=
   have h : FSound RO Tryz.prog 444 (chain_Table__Entries_c chain_Table__Right mem_Mem__Size) := (chain_Table__Entries_run chain_Table__Right mem_Mem__Size) ▸ run_sound (gcons chain_Table__Right_ent (chain_Table__Right_sound) <| gcons mem_Mem__Size_ent (mem_Mem__Size_sound) <| gnil) mixed Tryz.func444 (by kernel_rfl) _
   h

/-- (haymow/chain.Table).check -/
noncomputable def chain_Table__check_c {O : Type} (k443 k444 : Sm O) : Sm O := fun xs σ =>
 bif Nat.beq xs.length 2 then
 (AV.asAgg 5 (xs.getD 0 .u)).bind fun c0 =>
 (AV.asP (c0.getD 0 .u)).bind fun p1 =>
 I6 c0 1 fun n2 => I6 c0 2 fun n3 => I6 c0 3 fun n4 => I6 c0 4 fun n5 => (AV.asI .i64 (xs.getD 1 .u)).bind fun n6 =>
 let σ7 := σ.bump 1
 let σ8 := σ7.put σ.next (.cells true 321 [(.p p1), J n2, J n3, J n4, J n5])
 (σ8.ld (.n σ.next) 0).bind fun w9 =>
 (AV.asP w9).bind fun p10 =>
 (σ8.ld (.n σ.next) 1).bind fun w11 =>
 (AV.asI .i64 w11).bind fun n12 =>
 (σ8.ld (.n σ.next) 2).bind fun w13 =>
 (AV.asI .i64 w13).bind fun n14 =>
 (σ8.ld (.n σ.next) 3).bind fun w15 =>
 (AV.asI .i64 w15).bind fun n16 =>
 (σ8.ld (.n σ.next) 4).bind fun w17 =>
 (AV.asI .i64 w17).bind fun n18 =>
 (k443 [(.agg [(.p p10), J n12, J n14, J n16, J n18])] σ8).bind fun r19 =>
 (AV.asB r19.1).bind fun b20 =>
 (bif (!b20) then
 none
 else ((bif ((decide (n6 < 1)) == false) then
 (r19.2.ld (.n σ.next) 0).bind fun w21 =>
 (AV.asP w21).bind fun p22 =>
 (r19.2.ld (.n σ.next) 1).bind fun w23 =>
 (AV.asI .i64 w23).bind fun n24 =>
 (r19.2.ld (.n σ.next) 2).bind fun w25 =>
 (AV.asI .i64 w25).bind fun n26 =>
 (r19.2.ld (.n σ.next) 3).bind fun w27 =>
 (AV.asI .i64 w27).bind fun n28 =>
 (r19.2.ld (.n σ.next) 4).bind fun w29 =>
 (AV.asI .i64 w29).bind fun n30 =>
 (k444 [(.agg [(.p p22), J n24, J n26, J n28, J n30])] r19.2).bind fun r31 =>
 (AV.asI .i64 r31.1).bind fun n32 =>
 some ([(.b (decide (n6 > n32)))], r31.2)
 else some ([(.b true)], r19.2)) : Option (List AV × AH O)).bind fun r33 =>
 (AV.asB (r33.1.getD 0 .u)).bind fun b34 =>
 (bif b34 then
 none
 else some (J 0, r33.2)))
 else none
noncomputable def chain_Table__check {O : Type} : Sm O := chain_Table__check_c chain_Table__Right chain_Table__Entries
theorem chain_Table__check_ent : Entered Tryz.prog 365 := Tryz.call365
theorem chain_Table__check_run {O : Type} (k443 k444 : Sm O) : run (O := O) Tryz.prog [(443, k443), (444, k444)] Tryz.f365 (.n .z (.n (.n (.n .z (.n .x (.n (.g [(2, 4, [(17, .one .b)])]) (.n .x .z)))) .z) .z)) = chain_Table__check_c k443 k444 := by kernel_rfl
theorem chain_Table__check_sound {O : Type} {RO : O → Loc → (Nat → Option Obj) → Prop} : FSound RO Tryz.prog 365 (chain_Table__check) :=
   have h : FSound RO Tryz.prog 365 (chain_Table__check_c chain_Table__Right chain_Table__Entries) := (chain_Table__check_run chain_Table__Right chain_Table__Entries) ▸ run_sound (gcons chain_Table__Right_ent (chain_Table__Right_sound) <| gcons chain_Table__Entries_ent (chain_Table__Entries_sound) <| gnil) mixed Tryz.func365 (by kernel_rfl) _
   h

/-- (haymow/chain.Table).at -/
noncomputable def chain_Table__at_c {O : Type} : Sm O := fun xs σ =>
 bif Nat.beq xs.length 3 then
 (AV.asAgg 5 (xs.getD 0 .u)).bind fun c0 =>
 (AV.asP (c0.getD 0 .u)).bind fun p1 =>
 I6 c0 1 fun n2 => I6 c0 2 fun n3 => I6 c0 3 fun n4 => I6 c0 4 fun n5 => (AV.asI .i64 (xs.getD 1 .u)).bind fun n6 =>
 (AV.asI .i64 (xs.getD 2 .u)).bind fun n7 =>
 let σ8 := σ.bump 1
 let σ9 := σ8.put σ.next (.cells true 321 [(.p p1), J n2, J n3, J n4, J n5])
 (σ9.ld (.n σ.next) 2).bind fun w10 =>
 (AV.asI .i64 w10).bind fun n11 =>
 let v12 : Int := (IntKind.i64.wrap ((IntKind.i64.wrap (n6 - 1)) * n11))
 some ((.i .i64 (IntKind.i64.wrap (v12 + n7))), σ9)
 else none
noncomputable def chain_Table__at {O : Type} : Sm O := chain_Table__at_c
theorem chain_Table__at_ent : Entered Tryz.prog 445 := Tryz.call445
theorem chain_Table__at_run {O : Type} : run (O := O) Tryz.prog [] Tryz.f445 (.n .z .z) = chain_Table__at_c  := by kernel_rfl
theorem chain_Table__at_sound {O : Type} {RO : O → Loc → (Nat → Option Obj) → Prop} : FSound RO Tryz.prog 445 (chain_Table__at) :=
   have h : FSound RO Tryz.prog 445 (chain_Table__at_c) := (chain_Table__at_run) ▸ run_sound (gnil) mixed Tryz.func445 (by kernel_rfl) _
   h

/-- (haymow/chain.Table).set -/
noncomputable def chain_Table__set_c {O : Type} (k445 k115 : Sm O) : Sm O := fun xs σ =>
 bif Nat.beq xs.length 4 then
 (AV.asAgg 5 (xs.getD 0 .u)).bind fun c0 =>
 (AV.asP (c0.getD 0 .u)).bind fun p1 =>
 I6 c0 1 fun n2 => I6 c0 2 fun n3 => I6 c0 3 fun n4 => I6 c0 4 fun n5 => (AV.asI .i64 (xs.getD 1 .u)).bind fun n6 =>
 (AV.asI .i64 (xs.getD 2 .u)).bind fun n7 =>
 (AV.asI .i64 (xs.getD 3 .u)).bind fun n8 =>
 let σ9 := σ.bump 1
 let σ10 := σ9.put σ.next (.cells true 321 [(.p p1), J n2, J n3, J n4, J n5])
 (σ10.ld (.n σ.next) 0).bind fun w11 =>
 (AV.asP w11).bind fun p12 =>
 (σ10.ld (.n σ.next) 1).bind fun w13 =>
 (AV.asI .i64 w13).bind fun n14 =>
 (σ10.ld (.n σ.next) 0).bind fun w15 =>
 (AV.asP w15).bind fun p16 =>
 (σ10.ld (.n σ.next) 1).bind fun w17 =>
 (AV.asI .i64 w17).bind fun n18 =>
 (σ10.ld (.n σ.next) 2).bind fun w19 =>
 (AV.asI .i64 w19).bind fun n20 =>
 (σ10.ld (.n σ.next) 3).bind fun w21 =>
 (AV.asI .i64 w21).bind fun n22 =>
 (σ10.ld (.n σ.next) 4).bind fun w23 =>
 (AV.asI .i64 w23).bind fun n24 =>
 (k445 [(.agg [(.p p16), J n18, J n20, J n22, J n24]), J n6, J n7] σ10).bind fun r25 =>
 (AV.asI .i64 r25.1).bind fun n26 =>
 (chkE (r25.2.ld (.n σ.next) 0) (some (.p p12))).bind fun _ =>
 (chkE (r25.2.ld (.n σ.next) 1) (some (.i .i64 n14))).bind fun _ =>
 (k115 [(.p p12), J n14, J n26, (.i .u64 (IntKind.u64.wrap n8))] r25.2).bind fun r27 =>
 (AV.asI .i64 r27.1).bind fun n28 =>
 some ((.tup []), r27.2)
 else none
noncomputable def chain_Table__set {O : Type} : Sm O := chain_Table__set_c chain_Table__at mem_Mem__Write
theorem chain_Table__set_ent : Entered Tryz.prog 468 := Tryz.call468
theorem chain_Table__set_run {O : Type} (k445 k115 : Sm O) : run (O := O) Tryz.prog [(445, k445), (115, k115)] Tryz.f468 (.n .z (.d [] [0, 1, 2, 3, 4, 5, 6, 8, 9, 7, 10] [0, 1, 0, 4, 0, 0, 0, 112, 0, 256, 1023])) = chain_Table__set_c k445 k115 := by kernel_rfl
theorem chain_Table__set_sound {O : Type} {RO : O → Loc → (Nat → Option Obj) → Prop} : FSound RO Tryz.prog 468 (chain_Table__set) :=
   have h : FSound RO Tryz.prog 468 (chain_Table__set_c chain_Table__at mem_Mem__Write) := (chain_Table__set_run chain_Table__at mem_Mem__Write) ▸ run_sound (gcons chain_Table__at_ent (chain_Table__at_sound) <| gcons mem_Mem__Write_ent (mem_Mem__Write_sound) <| gnil) mixed Tryz.func468 (by kernel_rfl) _
   h

/-- (haymow/chain.Table).Push -/
noncomputable def chain_Table__Push_c {O : Type} (k365 k468 : Sm O) : Sm O := fun xs σ =>
 bif Nat.beq xs.length 3 then
 (AV.asAgg 5 (xs.getD 0 .u)).bind fun c0 =>
 (AV.asP (c0.getD 0 .u)).bind fun p1 =>
 I6 c0 1 fun n2 => I6 c0 2 fun n3 => I6 c0 3 fun n4 => I6 c0 4 fun n5 => (AV.asAgg 3 (xs.getD 1 .u)).bind fun c6 =>
 I6 c6 0 fun n7 => I6 c6 1 fun n8 => I6 c6 2 fun n9 => (AV.asI .i64 (xs.getD 2 .u)).bind fun n10 =>
 let σ11 := σ.bump 3
 let σ12 := σ11.put σ.next (.cells true 321 [(.p p1), J n2, J n3, J n4, J n5])
 let σ13 := σ12.put (σ.next + 1) (.cells true 232 [J n7, J n8, J n9])
 let σ14 := σ13.put ((σ.next + 1) + 1) (.cells true 232 [J 0, J 0, J 0])
 (σ14.ld (.n σ.next) 0).bind fun w15 =>
 (AV.asP w15).bind fun p16 =>
 (σ14.ld (.n σ.next) 1).bind fun w17 =>
 (AV.asI .i64 w17).bind fun n18 =>
 (σ14.ld (.n σ.next) 2).bind fun w19 =>
 (AV.asI .i64 w19).bind fun n20 =>
 (σ14.ld (.n σ.next) 3).bind fun w21 =>
 (AV.asI .i64 w21).bind fun n22 =>
 (σ14.ld (.n σ.next) 4).bind fun w23 =>
 (AV.asI .i64 w23).bind fun n24 =>
 (k365 [(.agg [(.p p16), J n18, J n20, J n22, J n24]), J n10] σ14).bind fun r25 =>
 (AV.asI .i64 r25.1).bind fun n26 =>
 (bif ((n26 : Int) != 0) then
 none
 else (r25.2.ld (.n σ.next) 0).bind fun w27 =>
 (AV.asP w27).bind fun p28 =>
 (r25.2.ld (.n σ.next) 1).bind fun w29 =>
 (AV.asI .i64 w29).bind fun n30 =>
 (r25.2.ld (.n σ.next) 2).bind fun w31 =>
 (AV.asI .i64 w31).bind fun n32 =>
 (r25.2.ld (.n σ.next) 3).bind fun w33 =>
 (AV.asI .i64 w33).bind fun n34 =>
 (r25.2.ld (.n σ.next) 4).bind fun w35 =>
 (AV.asI .i64 w35).bind fun n36 =>
 (r25.2.ld (.n σ.next) 4).bind fun w37 =>
 (AV.asI .i64 w37).bind fun n38 =>
 (r25.2.ld (.n (σ.next + 1)) 1).bind fun w39 =>
 (AV.asI .i64 w39).bind fun n40 =>
 (k468 [(.agg [(.p p28), J n30, J n32, J n34, J n36]), J n10, J n38, J n40] r25.2).bind fun r41 =>
 (AV.asTup 0 r41.1).bind fun c42 =>
 (r41.2.ld (.n σ.next) 0).bind fun w43 =>
 (AV.asP w43).bind fun p44 =>
 (r41.2.ld (.n σ.next) 1).bind fun w45 =>
 (AV.asI .i64 w45).bind fun n46 =>
 (r41.2.ld (.n σ.next) 2).bind fun w47 =>
 (AV.asI .i64 w47).bind fun n48 =>
 (r41.2.ld (.n σ.next) 3).bind fun w49 =>
 (AV.asI .i64 w49).bind fun n50 =>
 (r41.2.ld (.n σ.next) 4).bind fun w51 =>
 (AV.asI .i64 w51).bind fun n52 =>
 (r41.2.ld (.n σ.next) 3).bind fun w53 =>
 (AV.asI .i64 w53).bind fun n54 =>
 (k468 [(.agg [(.p p44), J n46, J n48, J n50, J n52]), J n10, J n54, J 0] r41.2).bind fun r55 =>
 (AV.asTup 0 r55.1).bind fun c56 =>
 (r55.2.ld (.n (σ.next + 1)) 2).bind fun w57 =>
 (AV.asI .i64 w57).bind fun n58 =>
 (bif ((n58 : Int) == 0) then
 (r55.2.st (.n ((σ.next + 1) + 1)) 0 [J n10, J n10, J 1]).bind fun σ59 =>
 (σ59.ld (.n ((σ.next + 1) + 1)) 0).bind fun w60 =>
 (AV.asI .i64 w60).bind fun n61 =>
 (σ59.ld (.n ((σ.next + 1) + 1)) 1).bind fun w62 =>
 (AV.asI .i64 w62).bind fun n63 =>
 (σ59.ld (.n ((σ.next + 1) + 1)) 2).bind fun w64 =>
 (AV.asI .i64 w64).bind fun n65 =>
 some ((.tup [(.agg [J n61, J n63, J n65]), J 0]), σ59)
 else none))
 else none
noncomputable def chain_Table__Push {O : Type} : Sm O := chain_Table__Push_c chain_Table__check chain_Table__set
theorem chain_Table__Push_ent : Entered Tryz.prog 412 := Tryz.call412
theorem chain_Table__Push_run {O : Type} (k365 k468 : Sm O) : run (O := O) Tryz.prog [(365, k365), (468, k468)] Tryz.f412 (.n .z (.n (.n .z (.n .z (.n .x .z))) (.n .z (.n .z (.n (.n .z (.n .z .x)) (.n .z .z)))))) = chain_Table__Push_c k365 k468 := by kernel_rfl
theorem chain_Table__Push_sound {O : Type} {RO : O → Loc → (Nat → Option Obj) → Prop} : FSound RO Tryz.prog 412 (chain_Table__Push) :=
   have h : FSound RO Tryz.prog 412 (chain_Table__Push_c chain_Table__check chain_Table__set) := (chain_Table__Push_run chain_Table__check chain_Table__set) ▸ run_sound (gcons chain_Table__check_ent (chain_Table__check_sound) <| gcons chain_Table__set_ent (chain_Table__set_sound) <| gnil) mixed Tryz.func412 (by kernel_rfl) _
   h

/-- haymow/handles.token -/
noncomputable def handles_token_c {O : Type} : Sm O := fun xs σ =>
 bif Nat.beq xs.length 2 then
 (AV.asI .i64 (xs.getD 0 .u)).bind fun n0 =>
 (AV.asI .i64 (xs.getD 1 .u)).bind fun n1 =>
 let v2 : Int := (ibits .or .i64 (IntKind.i64.wrap (n1 * 2 ^ 20)) (IntKind.i64.wrap (n0 - 1)))
 some (J v2, σ)
 else none
noncomputable def handles_token {O : Type} : Sm O := handles_token_c
theorem handles_token_ent : Entered Tryz.prog 413 := Tryz.call413
theorem handles_token_run {O : Type} : run (O := O) Tryz.prog [] Tryz.f413 (.n .z .z) = handles_token_c  := by kernel_rfl
theorem handles_token_sound {O : Type} {RO : O → Loc → (Nat → Option Obj) → Prop} : FSound RO Tryz.prog 413 (handles_token) :=
   have h : FSound RO Tryz.prog 413 (handles_token_c) := (handles_token_run) ▸ run_sound (gnil) mixed Tryz.func413 (by kernel_rfl) _
   h

/-- (*haymow/handles.Handles).Add -/
noncomputable def handles_Handles__Add_c {O : Type} (k411 k181 k179 k412 k414 k413 : Sm O) : Sm O := fun xs σ =>
 bif Nat.beq xs.length 2 then
 (AV.asP (xs.getD 0 .u)).bind fun p0 =>
 (AV.asI .u64 (xs.getD 1 .u)).bind fun n1 =>
 Option.bind p0 fun q2 =>
 (σ.ld q2.1 q2.2).bind fun w3 =>
 (AV.asP w3).bind fun p4 =>
 (k411 [(.p p4)] σ).bind fun r5 =>
 (AV.asTup 2 r5.1).bind fun c6 =>
 I6 c6 0 fun n7 => I6 c6 1 fun n8 => (bif ((n8 : Int) != 0) then
 none
 else Option.bind p0 fun q9 =>
 (r5.2.ld q9.1 q9.2).bind fun w10 =>
 (AV.asP w10).bind fun p11 =>
 (k181 [(.p p11), J n7, J 0, (.i .u64 n1)] r5.2).bind fun r12 =>
 (AV.asI .i64 r12.1).bind fun n13 =>
 Option.bind p0 fun q14 =>
 (r12.2.ld q14.1 (q14.2 + 1)).bind fun w15 =>
 (AV.asI .i64 w15).bind fun n16 =>
 (r12.2.ld q14.1 ((q14.2 + 1) + 1)).bind fun w17 =>
 (AV.asI .i64 w17).bind fun n18 =>
 (r12.2.ld q14.1 (((q14.2 + 1) + 1) + 1)).bind fun w19 =>
 (AV.asI .i64 w19).bind fun n20 =>
 (k179 [(.p p0)] r12.2).bind fun r21 =>
 (AV.asAgg 5 r21.1).bind fun c22 =>
 (AV.asP (c22.getD 0 .u)).bind fun p23 =>
 I6 c22 1 fun n24 => I6 c22 2 fun n25 => I6 c22 3 fun n26 => I6 c22 4 fun n27 => (chkE (r21.2.ld q14.1 (q14.2 + 1)) (some (.i .i64 n16))).bind fun _ =>
 (chkE (r21.2.ld q14.1 ((q14.2 + 1) + 1)) (some (.i .i64 n18))).bind fun _ =>
 (chkE (r21.2.ld q14.1 (((q14.2 + 1) + 1) + 1)) (some (.i .i64 n20))).bind fun _ =>
 (k412 [(.agg [(.p p23), J n24, J n25, J n26, J n27]), (.agg [J n16, J n18, J n20]), J n7] r21.2).bind fun r28 =>
 (AV.asTup 2 r28.1).bind fun c29 =>
 (AV.asAgg 3 (c29.getD 0 .u)).bind fun c30 =>
 I6 c30 0 fun n31 => I6 c30 1 fun n32 => I6 c30 2 fun n33 => I6 c29 1 fun n34 => Option.bind p0 fun q35 =>
 (r28.2.st q35.1 (q35.2 + 1) [J n31, J n32, J n33]).bind fun σ36 =>
 Option.bind p0 fun q37 =>
 (σ36.ld q37.1 q37.2).bind fun w38 =>
 (AV.asP w38).bind fun p39 =>
 (k414 [(.p p39), J n7] σ36).bind fun r40 =>
 (AV.asI .i64 r40.1).bind fun n41 =>
 (k413 [J n7, J n41] r40.2).bind fun r42 =>
 (AV.asI .i64 r42.1).bind fun n43 =>
 some ((.tup [J n43, J 0]), r42.2))
 else none
noncomputable def handles_Handles__Add {O : Type} : Sm O := handles_Handles__Add_c pool_Pool__Take pool_Pool__Set handles_Handles__table chain_Table__Push pool_Pool__Gen handles_token
theorem handles_Handles__Add_ent : Entered Tryz.prog 331 := Tryz.call331
theorem handles_Handles__Add_run {O : Type} (k411 k181 k179 k412 k414 k413 : Sm O) : run (O := O) Tryz.prog [(411, k411), (181, k181), (179, k179), (412, k412), (414, k414), (413, k413)] Tryz.f331 (.n .z (.n .z (.n (.n .z (.n .x .z)) (.n .z (.n (.d [] [0, 1, 3, 4, 5, 6, 7, 2, 8, 9, 10, 11, 12, 13, 14] [0, 0, 2, 0, 8, 24, 56, 0, 254, 510, 1022, 1022, 2047, 6143, 14335]) .z))))) = handles_Handles__Add_c k411 k181 k179 k412 k414 k413 := by kernel_rfl
theorem handles_Handles__Add_sound {O : Type} {RO : O → Loc → (Nat → Option Obj) → Prop} : FSound RO Tryz.prog 331 (handles_Handles__Add) :=
   have h : FSound RO Tryz.prog 331 (handles_Handles__Add_c pool_Pool__Take pool_Pool__Set handles_Handles__table chain_Table__Push pool_Pool__Gen handles_token) := (handles_Handles__Add_run pool_Pool__Take pool_Pool__Set handles_Handles__table chain_Table__Push pool_Pool__Gen handles_token) ▸ run_sound (gcons pool_Pool__Take_ent (pool_Pool__Take_sound) <| gcons pool_Pool__Set_ent (pool_Pool__Set_sound) <| gcons handles_Handles__table_ent (handles_Handles__table_sound) <| gcons chain_Table__Push_ent (chain_Table__Push_sound) <| gcons pool_Pool__Gen_ent (pool_Pool__Gen_sound) <| gcons handles_token_ent (handles_token_sound) <| gnil) mixed Tryz.func331 (by kernel_rfl) _
   h

/-- (*haymow/roots.Roots).Add -/
noncomputable def roots_Roots__Add_c {O : Type} (k331 : Sm O) : Sm O := fun xs σ =>
 bif Nat.beq xs.length 1 then
 (AV.asP (xs.getD 0 .u)).bind fun p0 =>
 Option.bind p0 fun q1 =>
 (σ.ld q1.1 (q1.2 + 1)).bind fun w2 =>
 (AV.asP w2).bind fun p3 =>
 (k331 [(.p p3), (.i .u64 0)] σ).bind fun r4 =>
 (AV.asTup 2 r4.1).bind fun c5 =>
 I6 c5 0 fun n6 => I6 c5 1 fun n7 => some ((.tup [J n6, J n7]), r4.2)
 else none
noncomputable def roots_Roots__Add {O : Type} : Sm O := roots_Roots__Add_c handles_Handles__Add
theorem roots_Roots__Add_ent : Entered Tryz.prog 232 := Tryz.call232
theorem roots_Roots__Add_run {O : Type} (k331 : Sm O) : run (O := O) Tryz.prog [(331, k331)] Tryz.f232 (.n .z .z) = roots_Roots__Add_c k331 := by kernel_rfl
theorem roots_Roots__Add_sound {O : Type} {RO : O → Loc → (Nat → Option Obj) → Prop} : FSound RO Tryz.prog 232 (roots_Roots__Add) :=
   have h : FSound RO Tryz.prog 232 (roots_Roots__Add_c handles_Handles__Add) := (roots_Roots__Add_run handles_Handles__Add) ▸ run_sound (gcons handles_Handles__Add_ent (handles_Handles__Add_sound) <| gnil) mixed Tryz.func232 (by kernel_rfl) _
   h

/-- (*haymow/heap.Heap).Global$1 -/
noncomputable def heap_Heap__Global_1_c {O : Type} (k231 k232 : Sm O) : Sm O := fun xs σ =>
 bif Nat.beq xs.length 2 then
 (AV.asPS (xs.getD 0 .u)).bind fun q0 =>
 (σ.ld q0.1 q0.2).bind fun w1 =>
 (AV.asP w1).bind fun p2 =>
 (k231 [(.p p2), J 4] σ).bind fun r3 =>
 (AV.asI .i64 r3.1).bind fun n4 =>
 (bif ((n4 : Int) != 0) then
 none
 else (AV.asPS (xs.getD 0 .u)).bind fun q5 =>
 (r3.2.ld q5.1 q5.2).bind fun w6 =>
 (AV.asP w6).bind fun p7 =>
 Option.bind p7 fun q8 =>
 (r3.2.ld q8.1 (q8.2 + 6)).bind fun w9 =>
 (AV.asP w9).bind fun p10 =>
 (k232 [(.p p10)] r3.2).bind fun r11 =>
 (AV.asTup 2 r11.1).bind fun c12 =>
 I6 c12 0 fun n13 => I6 c12 1 fun n14 => (AV.asPS (xs.getD 1 .u)).bind fun q15 =>
 (r11.2.st q15.1 q15.2 [J n13]).bind fun σ16 =>
 some (J n14, σ16))
 else none
noncomputable def heap_Heap__Global_1 {O : Type} : Sm O := heap_Heap__Global_1_c heap_Heap__request roots_Roots__Add
theorem heap_Heap__Global_1_ent : Entered Tryz.prog 230 := Tryz.call230
theorem heap_Heap__Global_1_run {O : Type} (k231 k232 : Sm O) : run (O := O) Tryz.prog [(231, k231), (232, k232)] Tryz.f230 (.n .z (.n (.n .z (.n .z (.n .x .z))) (.n .z (.n .z .z)))) = heap_Heap__Global_1_c k231 k232 := by kernel_rfl
theorem heap_Heap__Global_1_sound {O : Type} {RO : O → Loc → (Nat → Option Obj) → Prop} : FSound RO Tryz.prog 230 (heap_Heap__Global_1) :=
   have h : FSound RO Tryz.prog 230 (heap_Heap__Global_1_c heap_Heap__request roots_Roots__Add) := (heap_Heap__Global_1_run heap_Heap__request roots_Roots__Add) ▸ run_sound (gcons heap_Heap__request_ent (heap_Heap__request_sound) <| gcons roots_Roots__Add_ent (roots_Roots__Add_sound) <| gnil) mixed Tryz.func230 (by kernel_rfl) _
   h

/-- (haymow/ledger.Ledger).Sides -/
noncomputable def ledger_Ledger__Sides_c {O : Type} : Sm O := fun xs σ =>
 bif Nat.beq xs.length 1 then
 (AV.asAgg 4 (xs.getD 0 .u)).bind fun c0 =>
 (AV.asI .u64 (c0.getD 0 .u)).bind fun n1 =>
 (AV.asI .u64 (c0.getD 1 .u)).bind fun n2 =>
 (AV.asI .u64 (c0.getD 2 .u)).bind fun n3 =>
 (AV.asI .u64 (c0.getD 3 .u)).bind fun n4 =>
 let σ5 := σ.bump 3
 let σ6 := σ5.put σ.next (.cells true 154 [(.i .u64 n1), (.i .u64 n2), (.i .u64 n3), (.i .u64 n4)])
 let σ7 := σ6.put (σ.next + 1) (.cells true 150 [(.i .u64 0), (.i .u64 0)])
 let σ8 := σ7.put ((σ.next + 1) + 1) (.cells true 150 [(.i .u64 0), (.i .u64 0)])
 (σ8.ld (.n σ.next) 0).bind fun w9 =>
 (AV.asI .u64 w9).bind fun n10 =>
 (σ8.ld (.n σ.next) 1).bind fun w11 =>
 (AV.asI .u64 w11).bind fun n12 =>
 (σ8.ld (.n σ.next) 2).bind fun w13 =>
 (AV.asI .u64 w13).bind fun n14 =>
 (σ8.ld (.n σ.next) 3).bind fun w15 =>
 (AV.asI .u64 w15).bind fun n16 =>
 (σ8.st (.n (σ.next + 1)) 0 [(.i .u64 n10), (.i .u64 n12)]).bind fun σ17 =>
 (chkE (σ17.ld (.n σ.next) 2) (some (.i .u64 n14))).bind fun _ =>
 (chkE (σ17.ld (.n σ.next) 3) (some (.i .u64 n16))).bind fun _ =>
 (σ17.st (.n ((σ.next + 1) + 1)) 0 [(.i .u64 n14), (.i .u64 n16)]).bind fun σ18 =>
 (σ18.ld (.n (σ.next + 1)) 0).bind fun w19 =>
 (AV.asI .u64 w19).bind fun n20 =>
 (σ18.ld (.n (σ.next + 1)) 1).bind fun w21 =>
 (AV.asI .u64 w21).bind fun n22 =>
 (σ18.ld (.n ((σ.next + 1) + 1)) 0).bind fun w23 =>
 (AV.asI .u64 w23).bind fun n24 =>
 (σ18.ld (.n ((σ.next + 1) + 1)) 1).bind fun w25 =>
 (AV.asI .u64 w25).bind fun n26 =>
 some ((.tup [(.agg [(.i .u64 n20), (.i .u64 n22)]), (.agg [(.i .u64 n24), (.i .u64 n26)])]), σ18)
 else none
noncomputable def ledger_Ledger__Sides {O : Type} : Sm O := ledger_Ledger__Sides_c
theorem ledger_Ledger__Sides_ent : Entered Tryz.prog 267 := Tryz.call267
theorem ledger_Ledger__Sides_run {O : Type} : run (O := O) Tryz.prog [] Tryz.f267 (.n .z (.n (.d [] [0, 1, 2, 3, 4, 5, 6, 7] [0, 1, 3, 0, 8, 24, 7, 127]) .z)) = ledger_Ledger__Sides_c  := by kernel_rfl
theorem ledger_Ledger__Sides_sound {O : Type} {RO : O → Loc → (Nat → Option Obj) → Prop} : FSound RO Tryz.prog 267 (ledger_Ledger__Sides) :=
   have h : FSound RO Tryz.prog 267 (ledger_Ledger__Sides_c) := (ledger_Ledger__Sides_run) ▸ run_sound (gnil) mixed Tryz.func267 (by kernel_rfl) _
   h

/-- (*haymow/meter.Meter).Of -/
noncomputable def meter_Meter__Of_c {O : Type} : Sm O := fun xs σ =>
 bif Nat.beq xs.length 2 then
 (AV.asP (xs.getD 0 .u)).bind fun p0 =>
 (AV.asI .i64 (xs.getD 1 .u)).bind fun n1 =>
 let σ2 := σ.bump 1
 let σ3 := σ2.put σ.next (.cells true 150 [(.i .u64 0), (.i .u64 0)])
 ((bif ((Option.isNone p0) == false) then
 some ([(.b (decide (n1 < 0)))], σ3)
 else some ([(.b true)], σ3)) : Option (List AV × AH O)).bind fun r4 =>
 (AV.asB (r4.1.getD 0 .u)).bind fun b5 =>
 ((bif (b5 == false) then
 some ([(.b (decide (n1 ≥ 2)))], r4.2)
 else some ([(.b true)], r4.2)) : Option (List AV × AH O)).bind fun r6 =>
 (AV.asB (r6.1.getD 0 .u)).bind fun b7 =>
 (bif b7 then
 none
 else Option.bind p0 fun q8 =>
 (bif ((decide ((0 : Int) ≤ n1)) && (decide (n1 < 2))) then
 (r6.2.ld q8.1 (q8.2 + (n1.toNat * 2))).bind fun w9 =>
 (AV.asI .u64 w9).bind fun n10 =>
 (r6.2.ld q8.1 ((q8.2 + (n1.toNat * 2)) + 1)).bind fun w11 =>
 (AV.asI .u64 w11).bind fun n12 =>
 (r6.2.st (.n σ.next) 0 [(.i .u64 n10), (.i .u64 n12)]).bind fun σ13 =>
 (σ13.ld (.n σ.next) 0).bind fun w14 =>
 (AV.asI .u64 w14).bind fun n15 =>
 (σ13.ld (.n σ.next) 1).bind fun w16 =>
 (AV.asI .u64 w16).bind fun n17 =>
 some ((.agg [(.i .u64 n15), (.i .u64 n17)]), σ13)
 else none))
 else none
noncomputable def meter_Meter__Of {O : Type} : Sm O := meter_Meter__Of_c
theorem meter_Meter__Of_ent : Entered Tryz.prog 209 := Tryz.call209
theorem meter_Meter__Of_run {O : Type} : run (O := O) Tryz.prog [] Tryz.f209 (.n .z (.n (.n (.g [(2, 2, [(10, .one .b)]), (6, 2, [(14, .one .b)])]) (.n .x .z)) .z)) = meter_Meter__Of_c  := by kernel_rfl
theorem meter_Meter__Of_sound {O : Type} {RO : O → Loc → (Nat → Option Obj) → Prop} : FSound RO Tryz.prog 209 (meter_Meter__Of) :=
   have h : FSound RO Tryz.prog 209 (meter_Meter__Of_c) := (meter_Meter__Of_run) ▸ run_sound (gnil) mixed Tryz.func209 (by kernel_rfl) _
   h

/-- (*haymow/meter.Meter).Steps -/
noncomputable def meter_Meter__Steps_c {O : Type} (k209 k208 : Sm O) : Sm O := fun xs σ =>
 bif Nat.beq xs.length 1 then
 (AV.asP (xs.getD 0 .u)).bind fun p0 =>
 let σ1 := σ.bump 1
 let σ2 := σ1.put σ.next (.cells true 150 [(.i .u64 0), (.i .u64 0)])
 let σ3 := σ2.bump 1
 (k209 [(.p p0), J 0] σ3).bind fun r4 =>
 (AV.asAgg 2 r4.1).bind fun c5 =>
 (AV.asI .u64 (c5.getD 0 .u)).bind fun n6 =>
 (AV.asI .u64 (c5.getD 1 .u)).bind fun n7 =>
 (k209 [(.p p0), J 1] r4.2).bind fun r8 =>
 (AV.asAgg 2 r8.1).bind fun c9 =>
 (AV.asI .u64 (c9.getD 0 .u)).bind fun n10 =>
 (AV.asI .u64 (c9.getD 1 .u)).bind fun n11 =>
 (k208 [(.agg [(.i .u64 n6), (.i .u64 n7)]), (.agg [(.i .u64 n10), (.i .u64 n11)])] r8.2).bind fun r12 =>
 (AV.asTup 2 r12.1).bind fun c13 =>
 (AV.asAgg 2 (c13.getD 0 .u)).bind fun c14 =>
 (AV.asI .u64 (c14.getD 0 .u)).bind fun n15 =>
 (AV.asI .u64 (c14.getD 1 .u)).bind fun n16 =>
 (AV.asB (c13.getD 1 .u)).bind fun b17 =>
 let σ18 := r12.2.put σ2.next (.cells true 150 [(.i .u64 0), (.i .u64 0)])
 (σ18.st (.n σ2.next) 0 [(.i .u64 n15), (.i .u64 n16)]).bind fun σ19 =>
 (σ19.ld (.n σ2.next) 0).bind fun w20 =>
 (AV.asI .u64 w20).bind fun n21 =>
 (σ19.ld (.n σ2.next) 1).bind fun w22 =>
 (AV.asI .u64 w22).bind fun n23 =>
 (σ19.st (.n σ.next) 0 [(.i .u64 n21), (.i .u64 n23)]).bind fun σ24 =>
 (σ24.ld (.n σ.next) 0).bind fun w25 =>
 (AV.asI .u64 w25).bind fun n26 =>
 (σ24.ld (.n σ.next) 1).bind fun w27 =>
 (AV.asI .u64 w27).bind fun n28 =>
 some ((.agg [(.i .u64 n26), (.i .u64 n28)]), σ24)
 else none
noncomputable def meter_Meter__Steps {O : Type} : Sm O := meter_Meter__Steps_c meter_Meter__Of wide_Add
theorem meter_Meter__Steps_ent : Entered Tryz.prog 122 := Tryz.call122
theorem meter_Meter__Steps_run {O : Type} (k209 k208 : Sm O) : run (O := O) Tryz.prog [(209, k209), (208, k208)] Tryz.f122 (.n .z (.n .z .z)) = meter_Meter__Steps_c k209 k208 := by kernel_rfl
theorem meter_Meter__Steps_sound {O : Type} {RO : O → Loc → (Nat → Option Obj) → Prop} : FSound RO Tryz.prog 122 (meter_Meter__Steps) :=
   have h : FSound RO Tryz.prog 122 (meter_Meter__Steps_c meter_Meter__Of wide_Add) := (meter_Meter__Steps_run meter_Meter__Of wide_Add) ▸ run_sound (gcons meter_Meter__Of_ent (meter_Meter__Of_sound) <| gcons wide_Add_ent (wide_Add_sound) <| gnil) mixed Tryz.func122 (by kernel_rfl) _
   h

/-- haymow/wide.Cmp -/
noncomputable def wide_Cmp_c {O : Type} : Sm O := fun xs σ =>
 bif Nat.beq xs.length 2 then
 (AV.asAgg 2 (xs.getD 0 .u)).bind fun c0 =>
 (AV.asI .u64 (c0.getD 0 .u)).bind fun n1 =>
 (AV.asI .u64 (c0.getD 1 .u)).bind fun n2 =>
 (AV.asAgg 2 (xs.getD 1 .u)).bind fun c3 =>
 (AV.asI .u64 (c3.getD 0 .u)).bind fun n4 =>
 (AV.asI .u64 (c3.getD 1 .u)).bind fun n5 =>
 let σ6 := σ.bump 2
 let σ7 := σ6.put σ.next (.cells true 150 [(.i .u64 n1), (.i .u64 n2)])
 let σ8 := σ7.put (σ.next + 1) (.cells true 150 [(.i .u64 n4), (.i .u64 n5)])
 (σ8.ld (.n σ.next) 0).bind fun w9 =>
 (AV.asI .u64 w9).bind fun n10 =>
 (σ8.ld (.n σ.next) 1).bind fun w11 =>
 (AV.asI .u64 w11).bind fun n12 =>
 (σ8.ld (.n (σ.next + 1)) 0).bind fun w13 =>
 (AV.asI .u64 w13).bind fun n14 =>
 (σ8.ld (.n (σ.next + 1)) 1).bind fun w15 =>
 (AV.asI .u64 w15).bind fun n16 =>
 (bif (((n10 : Int) == n14) && (((n12 : Int) == n16) && true)) then
 none
 else (σ8.ld (.n σ.next) 0).bind fun w17 =>
 (AV.asI .u64 w17).bind fun n18 =>
 (σ8.ld (.n (σ.next + 1)) 0).bind fun w19 =>
 (AV.asI .u64 w19).bind fun n20 =>
 ((bif ((decide (n18 < n20)) == false) then
 (σ8.ld (.n σ.next) 0).bind fun w21 =>
 (AV.asI .u64 w21).bind fun n22 =>
 (σ8.ld (.n (σ.next + 1)) 0).bind fun w23 =>
 (AV.asI .u64 w23).bind fun n24 =>
 ((bif (((n22 : Int) == n24) == true) then
 (σ8.ld (.n σ.next) 1).bind fun w25 =>
 (AV.asI .u64 w25).bind fun n26 =>
 (σ8.ld (.n (σ.next + 1)) 1).bind fun w27 =>
 (AV.asI .u64 w27).bind fun n28 =>
 some ([(.b (decide (n26 < n28)))], σ8)
 else some ([(.b false)], σ8)) : Option (List AV × AH O)).bind fun r29 =>
 (AV.asB (r29.1.getD 0 .u)).bind fun b30 =>
 some ([(.b b30)], r29.2)
 else some ([(.b true)], σ8)) : Option (List AV × AH O)).bind fun r31 =>
 (AV.asB (r31.1.getD 0 .u)).bind fun b32 =>
 (bif b32 then
 none
 else some (J 1, r31.2)))
 else none
noncomputable def wide_Cmp {O : Type} : Sm O := wide_Cmp_c
theorem wide_Cmp_ent : Entered Tryz.prog 319 := Tryz.call319
theorem wide_Cmp_run {O : Type} : run (O := O) Tryz.prog [] Tryz.f319 (.n .z (.n (.n (.n .z (.n .x (.n (.g [(5, 12, [(28, .one .b)]), (11, 5, [(27, .one .b)])]) (.n .x .z)))) .z) .z)) = wide_Cmp_c  := by kernel_rfl
theorem wide_Cmp_sound {O : Type} {RO : O → Loc → (Nat → Option Obj) → Prop} : FSound RO Tryz.prog 319 (wide_Cmp) :=
   have h : FSound RO Tryz.prog 319 (wide_Cmp_c) := (wide_Cmp_run) ▸ run_sound (gnil) mixed Tryz.func319 (by kernel_rfl) _
   h

/-- haymow/wide.Less -/
noncomputable def wide_Less_c {O : Type} (k319 : Sm O) : Sm O := fun xs σ =>
 bif Nat.beq xs.length 2 then
 (AV.asAgg 2 (xs.getD 0 .u)).bind fun c0 =>
 (AV.asI .u64 (c0.getD 0 .u)).bind fun n1 =>
 (AV.asI .u64 (c0.getD 1 .u)).bind fun n2 =>
 (AV.asAgg 2 (xs.getD 1 .u)).bind fun c3 =>
 (AV.asI .u64 (c3.getD 0 .u)).bind fun n4 =>
 (AV.asI .u64 (c3.getD 1 .u)).bind fun n5 =>
 let σ6 := σ.bump 2
 let σ7 := σ6.put σ.next (.cells true 150 [(.i .u64 n1), (.i .u64 n2)])
 let σ8 := σ7.put (σ.next + 1) (.cells true 150 [(.i .u64 n4), (.i .u64 n5)])
 (σ8.ld (.n σ.next) 0).bind fun w9 =>
 (AV.asI .u64 w9).bind fun n10 =>
 (σ8.ld (.n σ.next) 1).bind fun w11 =>
 (AV.asI .u64 w11).bind fun n12 =>
 (σ8.ld (.n (σ.next + 1)) 0).bind fun w13 =>
 (AV.asI .u64 w13).bind fun n14 =>
 (σ8.ld (.n (σ.next + 1)) 1).bind fun w15 =>
 (AV.asI .u64 w15).bind fun n16 =>
 (k319 [(.agg [(.i .u64 n10), (.i .u64 n12)]), (.agg [(.i .u64 n14), (.i .u64 n16)])] σ8).bind fun r17 =>
 (AV.asI .i64 r17.1).bind fun n18 =>
 some ((.b (decide (n18 < 0))), r17.2)
 else none
noncomputable def wide_Less {O : Type} : Sm O := wide_Less_c wide_Cmp
theorem wide_Less_ent : Entered Tryz.prog 217 := Tryz.call217
theorem wide_Less_run {O : Type} (k319 : Sm O) : run (O := O) Tryz.prog [(319, k319)] Tryz.f217 (.n .z .z) = wide_Less_c k319 := by kernel_rfl
theorem wide_Less_sound {O : Type} {RO : O → Loc → (Nat → Option Obj) → Prop} : FSound RO Tryz.prog 217 (wide_Less) :=
   have h : FSound RO Tryz.prog 217 (wide_Less_c wide_Cmp) := (wide_Less_run wide_Cmp) ▸ run_sound (gcons wide_Cmp_ent (wide_Cmp_sound) <| gnil) mixed Tryz.func217 (by kernel_rfl) _
   h

/-- haymow/wide.Sub -/
noncomputable def wide_Sub_c {O : Type} (k217 k320 : Sm O) : Sm O := fun xs σ =>
 bif Nat.beq xs.length 2 then
 (AV.asAgg 2 (xs.getD 0 .u)).bind fun c0 =>
 (AV.asI .u64 (c0.getD 0 .u)).bind fun n1 =>
 (AV.asI .u64 (c0.getD 1 .u)).bind fun n2 =>
 (AV.asAgg 2 (xs.getD 1 .u)).bind fun c3 =>
 (AV.asI .u64 (c3.getD 0 .u)).bind fun n4 =>
 (AV.asI .u64 (c3.getD 1 .u)).bind fun n5 =>
 let σ6 := σ.bump 3
 let σ7 := σ6.put σ.next (.cells true 150 [(.i .u64 n1), (.i .u64 n2)])
 let σ8 := σ7.put (σ.next + 1) (.cells true 150 [(.i .u64 n4), (.i .u64 n5)])
 let σ9 := σ8.put ((σ.next + 1) + 1) (.cells true 150 [(.i .u64 0), (.i .u64 0)])
 (σ9.ld (.n σ.next) 0).bind fun w10 =>
 (AV.asI .u64 w10).bind fun n11 =>
 (σ9.ld (.n σ.next) 1).bind fun w12 =>
 (AV.asI .u64 w12).bind fun n13 =>
 (σ9.ld (.n (σ.next + 1)) 0).bind fun w14 =>
 (AV.asI .u64 w14).bind fun n15 =>
 (σ9.ld (.n (σ.next + 1)) 1).bind fun w16 =>
 (AV.asI .u64 w16).bind fun n17 =>
 (k217 [(.agg [(.i .u64 n11), (.i .u64 n13)]), (.agg [(.i .u64 n15), (.i .u64 n17)])] σ9).bind fun r18 =>
 (AV.asB r18.1).bind fun b19 =>
 (bif b19 then
 none
 else (r18.2.ld (.n σ.next) 1).bind fun w20 =>
 (AV.asI .u64 w20).bind fun n21 =>
 (r18.2.ld (.n (σ.next + 1)) 1).bind fun w22 =>
 (AV.asI .u64 w22).bind fun n23 =>
 (k320 [(.i .u64 n21), (.i .u64 n23), (.i .u64 0)] r18.2).bind fun r24 =>
 (AV.asTup 2 r24.1).bind fun c25 =>
 (AV.asI .u64 (c25.getD 0 .u)).bind fun n26 =>
 (AV.asI .u64 (c25.getD 1 .u)).bind fun n27 =>
 (r24.2.ld (.n σ.next) 0).bind fun w28 =>
 (AV.asI .u64 w28).bind fun n29 =>
 (r24.2.ld (.n (σ.next + 1)) 0).bind fun w30 =>
 (AV.asI .u64 w30).bind fun n31 =>
 (k320 [(.i .u64 n29), (.i .u64 n31), (.i .u64 n27)] r24.2).bind fun r32 =>
 (AV.asTup 2 r32.1).bind fun c33 =>
 (AV.asI .u64 (c33.getD 0 .u)).bind fun n34 =>
 (AV.asI .u64 (c33.getD 1 .u)).bind fun n35 =>
 (r32.2.st (.n ((σ.next + 1) + 1)) 0 [(.i .u64 n34), (.i .u64 n26)]).bind fun σ36 =>
 (σ36.ld (.n ((σ.next + 1) + 1)) 0).bind fun w37 =>
 (AV.asI .u64 w37).bind fun n38 =>
 (σ36.ld (.n ((σ.next + 1) + 1)) 1).bind fun w39 =>
 (AV.asI .u64 w39).bind fun n40 =>
 some ((.tup [(.agg [(.i .u64 n38), (.i .u64 n40)]), (.b true)]), σ36))
 else none
noncomputable def wide_Sub {O : Type} : Sm O := wide_Sub_c wide_Less bits_Sub64
theorem wide_Sub_ent : Entered Tryz.prog 220 := Tryz.call220
theorem wide_Sub_run {O : Type} (k217 k320 : Sm O) : run (O := O) Tryz.prog [(217, k217), (320, k320)] Tryz.f220 (.n .z (.n (.n .z (.n .x .z)) (.n .z (.n .z .z)))) = wide_Sub_c k217 k320 := by kernel_rfl
theorem wide_Sub_sound {O : Type} {RO : O → Loc → (Nat → Option Obj) → Prop} : FSound RO Tryz.prog 220 (wide_Sub) :=
   have h : FSound RO Tryz.prog 220 (wide_Sub_c wide_Less bits_Sub64) := (wide_Sub_run wide_Less bits_Sub64) ▸ run_sound (gcons wide_Less_ent (wide_Less_sound) <| gext bits_Sub64_ext <| gnil) mixed Tryz.func220 (by kernel_rfl) _
   h

/-- (*haymow/meter.Meter).Since -/
noncomputable def meter_Meter__Since_c {O : Type} (k122 k220 : Sm O) : Sm O := fun xs σ =>
 bif Nat.beq xs.length 2 then
 (AV.asP (xs.getD 0 .u)).bind fun p0 =>
 (AV.asAgg 2 (xs.getD 1 .u)).bind fun c1 =>
 (AV.asI .u64 (c1.getD 0 .u)).bind fun n2 =>
 (AV.asI .u64 (c1.getD 1 .u)).bind fun n3 =>
 let σ4 := σ.bump 2
 let σ5 := σ4.put σ.next (.cells true 150 [(.i .u64 n2), (.i .u64 n3)])
 let σ6 := σ5.put (σ.next + 1) (.cells true 150 [(.i .u64 0), (.i .u64 0)])
 let σ7 := σ6.bump 1
 (σ7.ld (.n σ.next) 0).bind fun w8 =>
 (AV.asI .u64 w8).bind fun n9 =>
 (σ7.ld (.n σ.next) 1).bind fun w10 =>
 (AV.asI .u64 w10).bind fun n11 =>
 (k122 [(.p p0)] σ7).bind fun r12 =>
 (AV.asAgg 2 r12.1).bind fun c13 =>
 (AV.asI .u64 (c13.getD 0 .u)).bind fun n14 =>
 (AV.asI .u64 (c13.getD 1 .u)).bind fun n15 =>
 (chkE (r12.2.ld (.n σ.next) 0) (some (.i .u64 n9))).bind fun _ =>
 (chkE (r12.2.ld (.n σ.next) 1) (some (.i .u64 n11))).bind fun _ =>
 (k220 [(.agg [(.i .u64 n14), (.i .u64 n15)]), (.agg [(.i .u64 n9), (.i .u64 n11)])] r12.2).bind fun r16 =>
 (AV.asTup 2 r16.1).bind fun c17 =>
 (AV.asAgg 2 (c17.getD 0 .u)).bind fun c18 =>
 (AV.asI .u64 (c18.getD 0 .u)).bind fun n19 =>
 (AV.asI .u64 (c18.getD 1 .u)).bind fun n20 =>
 (AV.asB (c17.getD 1 .u)).bind fun b21 =>
 let σ22 := r16.2.put σ6.next (.cells true 150 [(.i .u64 0), (.i .u64 0)])
 (σ22.st (.n σ6.next) 0 [(.i .u64 n19), (.i .u64 n20)]).bind fun σ23 =>
 (σ23.ld (.n σ6.next) 0).bind fun w24 =>
 (AV.asI .u64 w24).bind fun n25 =>
 (σ23.ld (.n σ6.next) 1).bind fun w26 =>
 (AV.asI .u64 w26).bind fun n27 =>
 (σ23.st (.n (σ.next + 1)) 0 [(.i .u64 n25), (.i .u64 n27)]).bind fun σ28 =>
 (σ28.ld (.n (σ.next + 1)) 0).bind fun w29 =>
 (AV.asI .u64 w29).bind fun n30 =>
 (σ28.ld (.n (σ.next + 1)) 1).bind fun w31 =>
 (AV.asI .u64 w31).bind fun n32 =>
 some ((.agg [(.i .u64 n30), (.i .u64 n32)]), σ28)
 else none
noncomputable def meter_Meter__Since {O : Type} : Sm O := meter_Meter__Since_c meter_Meter__Steps wide_Sub
theorem meter_Meter__Since_ent : Entered Tryz.prog 218 := Tryz.call218
theorem meter_Meter__Since_run {O : Type} (k122 k220 : Sm O) : run (O := O) Tryz.prog [(122, k122), (220, k220)] Tryz.f218 (.n .z (.n (.d [] [0, 2, 1, 3, 4, 5, 6, 7, 8, 9] [0, 1, 0, 7, 15, 31, 31, 0, 191, 511]) .z)) = meter_Meter__Since_c k122 k220 := by kernel_rfl
theorem meter_Meter__Since_sound {O : Type} {RO : O → Loc → (Nat → Option Obj) → Prop} : FSound RO Tryz.prog 218 (meter_Meter__Since) :=
   have h : FSound RO Tryz.prog 218 (meter_Meter__Since_c meter_Meter__Steps wide_Sub) := (meter_Meter__Since_run meter_Meter__Steps wide_Sub) ▸ run_sound (gcons meter_Meter__Steps_ent (meter_Meter__Steps_sound) <| gcons wide_Sub_ent (wide_Sub_sound) <| gnil) mixed Tryz.func218 (by kernel_rfl) _
   h

/-- (haymow/ledger.Ledger).Pay -/
noncomputable def ledger_Ledger__Pay_c {O : Type} (k208 : Sm O) : Sm O := fun xs σ =>
 bif Nat.beq xs.length 2 then
 (AV.asAgg 4 (xs.getD 0 .u)).bind fun c0 =>
 (AV.asI .u64 (c0.getD 0 .u)).bind fun n1 =>
 (AV.asI .u64 (c0.getD 1 .u)).bind fun n2 =>
 (AV.asI .u64 (c0.getD 2 .u)).bind fun n3 =>
 (AV.asI .u64 (c0.getD 3 .u)).bind fun n4 =>
 (AV.asAgg 2 (xs.getD 1 .u)).bind fun c5 =>
 (AV.asI .u64 (c5.getD 0 .u)).bind fun n6 =>
 (AV.asI .u64 (c5.getD 1 .u)).bind fun n7 =>
 let σ8 := σ.bump 3
 let σ9 := σ8.put σ.next (.cells true 154 [(.i .u64 n1), (.i .u64 n2), (.i .u64 n3), (.i .u64 n4)])
 let σ10 := σ9.put (σ.next + 1) (.cells true 150 [(.i .u64 n6), (.i .u64 n7)])
 let σ11 := σ10.put ((σ.next + 1) + 1) (.cells true 154 [(.i .u64 0), (.i .u64 0), (.i .u64 0), (.i .u64 0)])
 (σ11.ld (.n σ.next) 2).bind fun w12 =>
 (AV.asI .u64 w12).bind fun n13 =>
 (σ11.ld (.n σ.next) 3).bind fun w14 =>
 (AV.asI .u64 w14).bind fun n15 =>
 (σ11.ld (.n (σ.next + 1)) 0).bind fun w16 =>
 (AV.asI .u64 w16).bind fun n17 =>
 (σ11.ld (.n (σ.next + 1)) 1).bind fun w18 =>
 (AV.asI .u64 w18).bind fun n19 =>
 (k208 [(.agg [(.i .u64 n13), (.i .u64 n15)]), (.agg [(.i .u64 n17), (.i .u64 n19)])] σ11).bind fun r20 =>
 (AV.asTup 2 r20.1).bind fun c21 =>
 (AV.asAgg 2 (c21.getD 0 .u)).bind fun c22 =>
 (AV.asI .u64 (c22.getD 0 .u)).bind fun n23 =>
 (AV.asI .u64 (c22.getD 1 .u)).bind fun n24 =>
 (AV.asB (c21.getD 1 .u)).bind fun b25 =>
 (r20.2.st (.n σ.next) 2 [(.i .u64 n23), (.i .u64 n24)]).bind fun σ26 =>
 (σ26.ld (.n σ.next) 0).bind fun w27 =>
 (AV.asI .u64 w27).bind fun n28 =>
 (σ26.ld (.n σ.next) 1).bind fun w29 =>
 (AV.asI .u64 w29).bind fun n30 =>
 (σ26.ld (.n σ.next) 2).bind fun w31 =>
 (AV.asI .u64 w31).bind fun n32 =>
 (σ26.ld (.n σ.next) 3).bind fun w33 =>
 (AV.asI .u64 w33).bind fun n34 =>
 (σ26.st (.n ((σ.next + 1) + 1)) 0 [(.i .u64 n28), (.i .u64 n30), (.i .u64 n32), (.i .u64 n34)]).bind fun σ35 =>
 (σ35.ld (.n ((σ.next + 1) + 1)) 0).bind fun w36 =>
 (AV.asI .u64 w36).bind fun n37 =>
 (σ35.ld (.n ((σ.next + 1) + 1)) 1).bind fun w38 =>
 (AV.asI .u64 w38).bind fun n39 =>
 (σ35.ld (.n ((σ.next + 1) + 1)) 2).bind fun w40 =>
 (AV.asI .u64 w40).bind fun n41 =>
 (σ35.ld (.n ((σ.next + 1) + 1)) 3).bind fun w42 =>
 (AV.asI .u64 w42).bind fun n43 =>
 some ((.agg [(.i .u64 n37), (.i .u64 n39), (.i .u64 n41), (.i .u64 n43)]), σ35)
 else none
noncomputable def ledger_Ledger__Pay {O : Type} : Sm O := ledger_Ledger__Pay_c wide_Add
theorem ledger_Ledger__Pay_ent : Entered Tryz.prog 268 := Tryz.call268
theorem ledger_Ledger__Pay_run {O : Type} (k208 : Sm O) : run (O := O) Tryz.prog [(208, k208)] Tryz.f268 (.n .z (.n .z .z)) = ledger_Ledger__Pay_c k208 := by kernel_rfl
theorem ledger_Ledger__Pay_sound {O : Type} {RO : O → Loc → (Nat → Option Obj) → Prop} : FSound RO Tryz.prog 268 (ledger_Ledger__Pay) :=
   have h : FSound RO Tryz.prog 268 (ledger_Ledger__Pay_c wide_Add) := (ledger_Ledger__Pay_run wide_Add) ▸ run_sound (gcons wide_Add_ent (wide_Add_sound) <| gnil) mixed Tryz.func268 (by kernel_rfl) _
   h

/-- (*haymow/heap.Heap).call -/
noncomputable def heap_Heap__call_c {O : Type} (k266 k267 k85 k218 k268 k224 k230 : Sm O) : Sm O := fun xs σ =>
 bif Nat.beq xs.length 2 then
 (AV.asP (xs.getD 0 .u)).bind fun p0 =>
 (AV.asF (xs.getD 1 .u)).bind fun f1 =>
 Option.bind p0 fun q2 =>
 (σ.ld q2.1 (q2.2 + 15)).bind fun w3 =>
 (AV.asI .u64 w3).bind fun n4 =>
 (σ.ld q2.1 ((q2.2 + 15) + 1)).bind fun w5 =>
 (AV.asI .u64 w5).bind fun n6 =>
 (σ.ld q2.1 (((q2.2 + 15) + 1) + 1)).bind fun w7 =>
 (AV.asI .u64 w7).bind fun n8 =>
 (σ.ld q2.1 ((((q2.2 + 15) + 1) + 1) + 1)).bind fun w9 =>
 (AV.asI .u64 w9).bind fun n10 =>
 (k266 [(.agg [(.i .u64 n4), (.i .u64 n6), (.i .u64 n8), (.i .u64 n10)]), J 0, J 1] σ).bind fun r11 =>
 (AV.asAgg 4 r11.1).bind fun c12 =>
 (AV.asI .u64 (c12.getD 0 .u)).bind fun n13 =>
 (AV.asI .u64 (c12.getD 1 .u)).bind fun n14 =>
 (AV.asI .u64 (c12.getD 2 .u)).bind fun n15 =>
 (AV.asI .u64 (c12.getD 3 .u)).bind fun n16 =>
 Option.bind p0 fun q17 =>
 (r11.2.st q17.1 (q17.2 + 15) [(.i .u64 n13), (.i .u64 n14), (.i .u64 n15), (.i .u64 n16)]).bind fun σ18 =>
 (callV [(266, k266), (267, k267), (85, k85), (218, k218), (268, k268), (224, k224), (230, k230)] f1 [] σ18).bind fun r19 =>
 (AV.asI .i64 r19.1).bind fun n20 =>
 let σ21 := r19.2.bump 2
 Option.bind p0 fun q22 =>
 (σ21.ld q22.1 (q22.2 + 15)).bind fun w23 =>
 (AV.asI .u64 w23).bind fun n24 =>
 (σ21.ld q22.1 ((q22.2 + 15) + 1)).bind fun w25 =>
 (AV.asI .u64 w25).bind fun n26 =>
 (σ21.ld q22.1 (((q22.2 + 15) + 1) + 1)).bind fun w27 =>
 (AV.asI .u64 w27).bind fun n28 =>
 (σ21.ld q22.1 ((((q22.2 + 15) + 1) + 1) + 1)).bind fun w29 =>
 (AV.asI .u64 w29).bind fun n30 =>
 (k267 [(.agg [(.i .u64 n24), (.i .u64 n26), (.i .u64 n28), (.i .u64 n30)])] σ21).bind fun r31 =>
 (AV.asTup 2 r31.1).bind fun c32 =>
 (AV.asAgg 2 (c32.getD 0 .u)).bind fun c33 =>
 (AV.asI .u64 (c33.getD 0 .u)).bind fun n34 =>
 (AV.asI .u64 (c33.getD 1 .u)).bind fun n35 =>
 (AV.asAgg 2 (c32.getD 1 .u)).bind fun c36 =>
 (AV.asI .u64 (c36.getD 0 .u)).bind fun n37 =>
 (AV.asI .u64 (c36.getD 1 .u)).bind fun n38 =>
 let σ39 := r31.2.put r19.2.next (.cells true 150 [(.i .u64 0), (.i .u64 0)])
 let σ40 := σ39.put (r19.2.next + 1) (.cells true 150 [(.i .u64 0), (.i .u64 0)])
 (σ40.st (.n r19.2.next) 0 [(.i .u64 n34), (.i .u64 n35)]).bind fun σ41 =>
 (σ41.st (.n (r19.2.next + 1)) 0 [(.i .u64 n37), (.i .u64 n38)]).bind fun σ42 =>
 Option.bind p0 fun q43 =>
 (σ42.ld q43.1 (q43.2 + 15)).bind fun w44 =>
 (AV.asI .u64 w44).bind fun n45 =>
 (σ42.ld q43.1 ((q43.2 + 15) + 1)).bind fun w46 =>
 (AV.asI .u64 w46).bind fun n47 =>
 (σ42.ld q43.1 (((q43.2 + 15) + 1) + 1)).bind fun w48 =>
 (AV.asI .u64 w48).bind fun n49 =>
 (σ42.ld q43.1 ((((q43.2 + 15) + 1) + 1) + 1)).bind fun w50 =>
 (AV.asI .u64 w50).bind fun n51 =>
 Option.bind p0 fun q52 =>
 (σ42.ld q52.1 (q52.2 + 5)).bind fun w53 =>
 (AV.asP w53).bind fun p54 =>
 (σ42.ld (.n (r19.2.next + 1)) 0).bind fun w55 =>
 (AV.asI .u64 w55).bind fun n56 =>
 (σ42.ld (.n (r19.2.next + 1)) 1).bind fun w57 =>
 (AV.asI .u64 w57).bind fun n58 =>
 (k85 [(.p p54)] σ42).bind fun r59 =>
 (AV.asP r59.1).bind fun p60 =>
 (chkE (r59.2.ld q43.1 (q43.2 + 15)) (some (.i .u64 n45))).bind fun _ =>
 (chkE (r59.2.ld q43.1 ((q43.2 + 15) + 1)) (some (.i .u64 n47))).bind fun _ =>
 (chkE (r59.2.ld q43.1 (((q43.2 + 15) + 1) + 1)) (some (.i .u64 n49))).bind fun _ =>
 (chkE (r59.2.ld q43.1 ((((q43.2 + 15) + 1) + 1) + 1)) (some (.i .u64 n51))).bind fun _ =>
 (chkE (r59.2.ld (.n (r19.2.next + 1)) 0) (some (.i .u64 n56))).bind fun _ =>
 (chkE (r59.2.ld (.n (r19.2.next + 1)) 1) (some (.i .u64 n58))).bind fun _ =>
 Option.bind p60 fun q61 =>
 (r59.2.ld q61.1 q61.2).bind fun w62 =>
 (AV.asP w62).bind fun p63 =>
 (k218 [(.p p63), (.agg [(.i .u64 n56), (.i .u64 n58)])] r59.2).bind fun r64 =>
 (AV.asAgg 2 r64.1).bind fun c65 =>
 (AV.asI .u64 (c65.getD 0 .u)).bind fun n66 =>
 (AV.asI .u64 (c65.getD 1 .u)).bind fun n67 =>
 (chkE (r64.2.ld q43.1 (q43.2 + 15)) (some (.i .u64 n45))).bind fun _ =>
 (chkE (r64.2.ld q43.1 ((q43.2 + 15) + 1)) (some (.i .u64 n47))).bind fun _ =>
 (chkE (r64.2.ld q43.1 (((q43.2 + 15) + 1) + 1)) (some (.i .u64 n49))).bind fun _ =>
 (chkE (r64.2.ld q43.1 ((((q43.2 + 15) + 1) + 1) + 1)) (some (.i .u64 n51))).bind fun _ =>
 (k268 [(.agg [(.i .u64 n45), (.i .u64 n47), (.i .u64 n49), (.i .u64 n51)]), (.agg [(.i .u64 n66), (.i .u64 n67)])] r64.2).bind fun r68 =>
 (AV.asAgg 4 r68.1).bind fun c69 =>
 (AV.asI .u64 (c69.getD 0 .u)).bind fun n70 =>
 (AV.asI .u64 (c69.getD 1 .u)).bind fun n71 =>
 (AV.asI .u64 (c69.getD 2 .u)).bind fun n72 =>
 (AV.asI .u64 (c69.getD 3 .u)).bind fun n73 =>
 Option.bind p0 fun q74 =>
 (r68.2.st q74.1 (q74.2 + 15) [(.i .u64 n70), (.i .u64 n71), (.i .u64 n72), (.i .u64 n73)]).bind fun σ75 =>
 some (J n20, σ75)
 else none
noncomputable def heap_Heap__call {O : Type} : Sm O := heap_Heap__call_c ledger_Ledger__Deposit ledger_Ledger__Sides store_Store__Mem meter_Meter__Since ledger_Ledger__Pay heap_Heap__Alloc_1 heap_Heap__Global_1
theorem heap_Heap__call_ent : Entered Tryz.prog 170 := Tryz.call170
theorem heap_Heap__call_run {O : Type} (k266 k267 k85 k218 k268 k224 k230 : Sm O) : run (O := O) Tryz.prog [(266, k266), (267, k267), (85, k85), (218, k218), (268, k268), (224, k224), (230, k230)] Tryz.f170 (.n .z (.n .z (.n .z (.n .z (.n (.d [] [0, 1, 2, 3, 4, 5, 6, 7, 8, 13, 9, 10, 11, 12, 14, 15, 16, 17, 18] [0, 0, 2, 6, 14, 0, 32, 96, 224, 480, 992, 2016, 4064, 0, 16352, 32766, 65535, 131071, 262143]) .z))))) = heap_Heap__call_c k266 k267 k85 k218 k268 k224 k230 := by kernel_rfl
theorem heap_Heap__call_sound {O : Type} {RO : O → Loc → (Nat → Option Obj) → Prop} : FSound RO Tryz.prog 170 (heap_Heap__call) :=
   have h : FSound RO Tryz.prog 170 (heap_Heap__call_c ledger_Ledger__Deposit ledger_Ledger__Sides store_Store__Mem meter_Meter__Since ledger_Ledger__Pay heap_Heap__Alloc_1 heap_Heap__Global_1) := (heap_Heap__call_run ledger_Ledger__Deposit ledger_Ledger__Sides store_Store__Mem meter_Meter__Since ledger_Ledger__Pay heap_Heap__Alloc_1 heap_Heap__Global_1) ▸ run_sound (gcons ledger_Ledger__Deposit_ent (ledger_Ledger__Deposit_sound) <| gcons ledger_Ledger__Sides_ent (ledger_Ledger__Sides_sound) <| gcons store_Store__Mem_ent (store_Store__Mem_sound) <| gcons meter_Meter__Since_ent (meter_Meter__Since_sound) <| gcons ledger_Ledger__Pay_ent (ledger_Ledger__Pay_sound) <| gcons heap_Heap__Alloc_1_ent (heap_Heap__Alloc_1_sound) <| gcons heap_Heap__Global_1_ent (heap_Heap__Global_1_sound) <| gnil) mixed Tryz.func170 (by kernel_rfl) _
   h

/-- (*haymow/heap.Heap).Alloc -/
noncomputable def heap_Heap__Alloc_c {O : Type} (k224 k170 : Sm O) : Sm O := fun xs σ =>
 bif Nat.beq xs.length 4 then
 (AV.asP (xs.getD 0 .u)).bind fun p0 =>
 (AV.asI .i64 (xs.getD 1 .u)).bind fun n1 =>
 (AV.asAgg 2 (xs.getD 2 .u)).bind fun c2 =>
 I6 c2 0 fun n3 => I6 c2 1 fun n4 => (AV.asI .i64 (xs.getD 3 .u)).bind fun n5 =>
 let σ6 := σ.bump 4
 let σ7 := σ6.put σ.next (.cells true 45 [(.p p0)])
 let σ8 := σ7.put (σ.next + 1) (.cells true 3 [J n1])
 let σ9 := σ8.put ((σ.next + 1) + 1) (.cells true 75 [J n3, J n4])
 let σ10 := σ9.put (((σ.next + 1) + 1) + 1) (.cells true 3 [J n5])
 (σ10.ld (.n σ.next) 0).bind fun w11 =>
 (AV.asP w11).bind fun p12 =>
 (k170 [(.p p12), (.fn (some (.func 224, [], [(.p (some ((.n σ.next), 0))), (.p (some ((.n (σ.next + 1)), 0))), (.p (some ((.n ((σ.next + 1) + 1)), 0))), (.p (some ((.n (((σ.next + 1) + 1) + 1)), 0)))])))] σ10).bind fun r13 =>
 (AV.asI .i64 r13.1).bind fun n14 =>
 some (J n14, r13.2)
 else none
noncomputable def heap_Heap__Alloc {O : Type} : Sm O := heap_Heap__Alloc_c heap_Heap__Alloc_1 heap_Heap__call
theorem heap_Heap__Alloc_ent : Entered Tryz.prog 138 := Tryz.call138
theorem heap_Heap__Alloc_run {O : Type} (k224 k170 : Sm O) : run (O := O) Tryz.prog [(224, k224), (170, k170)] Tryz.f138 (.n .z .z) = heap_Heap__Alloc_c k224 k170 := by kernel_rfl
theorem heap_Heap__Alloc_sound {O : Type} {RO : O → Loc → (Nat → Option Obj) → Prop} : FSound RO Tryz.prog 138 (heap_Heap__Alloc) :=
   have h : FSound RO Tryz.prog 138 (heap_Heap__Alloc_c heap_Heap__Alloc_1 heap_Heap__call) := (heap_Heap__Alloc_run heap_Heap__Alloc_1 heap_Heap__call) ▸ run_sound (gcons heap_Heap__Alloc_1_ent (heap_Heap__Alloc_1_sound) <| gcons heap_Heap__call_ent (heap_Heap__call_sound) <| gnil) mixed Tryz.func138 (by kernel_rfl) _
   h

/-- haymow/haymowref13.Right -/
noncomputable def haymowref13_Right_c {O : Type} : Sm O := fun xs σ =>
 bif Nat.beq xs.length 1 then
 (AV.asAgg 2 (xs.getD 0 .u)).bind fun c0 =>
 I6 c0 0 fun n1 => I6 c0 1 fun n2 => let σ3 := σ.bump 1
 let σ4 := σ3.put σ.next (.cells true 75 [J n1, J n2])
 (σ4.ld (.n σ.next) 0).bind fun w5 =>
 (AV.asI .i64 w5).bind fun n6 =>
 ((bif ((decide (n6 ≥ 0)) == true) then
 (σ4.ld (.n σ.next) 0).bind fun w7 =>
 (AV.asI .i64 w7).bind fun n8 =>
 some ([(.b (decide (n8 < 4096)))], σ4)
 else some ([(.b false)], σ4)) : Option (List AV × AH O)).bind fun r9 =>
 (AV.asB (r9.1.getD 0 .u)).bind fun b10 =>
 ((bif (b10 == true) then
 (r9.2.ld (.n σ.next) 1).bind fun w11 =>
 (AV.asI .i64 w11).bind fun n12 =>
 some ([(.b (decide (n12 ≥ 0)))], r9.2)
 else some ([(.b false)], r9.2)) : Option (List AV × AH O)).bind fun r13 =>
 (AV.asB (r13.1.getD 0 .u)).bind fun b14 =>
 ((bif (b14 == true) then
 (r13.2.ld (.n σ.next) 1).bind fun w15 =>
 (AV.asI .i64 w15).bind fun n16 =>
 some ([(.b (decide (n16 < 4096)))], r13.2)
 else some ([(.b false)], r13.2)) : Option (List AV × AH O)).bind fun r17 =>
 (AV.asB (r17.1.getD 0 .u)).bind fun b18 =>
 some ((.b b18), r17.2)
 else none
noncomputable def haymowref13_Right {O : Type} : Sm O := haymowref13_Right_c
theorem haymowref13_Right_ent : Entered Tryz.prog 106 := Tryz.call106
theorem haymowref13_Right_run {O : Type} : run (O := O) Tryz.prog [] Tryz.f106 (.n .z (.n (.g [(3, 3, [(10, .one .b)]), (8, 3, [(15, .one .b)]), (13, 3, [(20, .one .b)])]) .z)) = haymowref13_Right_c  := by kernel_rfl
theorem haymowref13_Right_sound {O : Type} {RO : O → Loc → (Nat → Option Obj) → Prop} : FSound RO Tryz.prog 106 (haymowref13_Right) :=
   have h : FSound RO Tryz.prog 106 (haymowref13_Right_c) := (haymowref13_Right_run) ▸ run_sound (gnil) mixed Tryz.func106 (by kernel_rfl) _
   h

end Go.Abs.Tryz
