/-
  What the functions of the program do, each as a function of Lean, and that it does so. No conditions.
-/
import Derived.Test.YtlgnboohmahbaaaGreatAbsExtern
import Derived.Test.YtlgnboohmahbaaaGreatS12s
import Derived.Test.YtlgnboohmahbaaaGreatProg
import Derived.KernelRfl
set_option linter.unusedVariables false
set_option linter.unusedSimpArgs false
set_option linter.constructorNameAsVariable false
set_option maxRecDepth 100000
namespace Go.Abs.Tryz
open Go Go.Abs Go.Proofs
abbrev I6 {R : Type} (c : List AV) (i : Nat) (K : Int → Option R) : Option R := (AV.asI .i64 (c.getD i .u)).bind K
abbrev Is {R : Type} (c : List AV) (i : Nat) (K : SA × Nat → Option R) : Option R := (AV.asSl (c.getD i .u)).bind K
abbrev J (n : Int) : AV := .i .i64 n
abbrev L (l : SA × Nat) : AV := .sl l.1 l.2
abbrev N : AV := .sl .nil 0
def FunTy : List Bool → Type → Type
  | [], R => Option R
  | true :: ks, R => Int → FunTy ks R
  | false :: ks, R => SA × Nat → FunTy ks R
def applyW {R : Type} : (ks : List Bool) → List AV → FunTy ks R → Option R
  | [], _, K => K
  | true :: ks, .i .i64 n :: cs, K => applyW ks cs (K n)
  | false :: ks, .sl a n :: cs, K => applyW ks cs (K (a, n))
  | _ :: _, _, _ => none
def slowU {R : Type} (c : List AV) : (ks : List Bool) → Nat → FunTy ks R → Option R
  | [], _, K => K
  | true :: ks, i, K => (AV.asI .i64 (c.getD i .u)).bind fun x => slowU c ks (i + 1) (K x)
  | false :: ks, i, K => (AV.asSl (c.getD i .u)).bind fun x => slowU c ks (i + 1) (K x)
theorem slowU_eq {R : Type} (c : List AV) : ∀ (ks : List Bool) (i : Nat) (K : FunTy ks R), slowU c ks i K = applyW ks (c.drop i) K
  | [], _, _ => rfl
  | k :: ks, i, K => by
    have hd : c.drop i = if h : i < c.length then c[i] :: c.drop (i + 1) else [] := by
      split
      · rw [List.drop_eq_getElem_cons]
      · exact List.drop_of_length_le (by omega)
    have hg : c.getD i .u = if h : i < c.length then c[i] else .u := by
      rw [List.getD_eq_getElem?_getD]
      split
      · rename_i h; rw [List.getElem?_eq_getElem h]; rfl
      · rw [List.getElem?_eq_none (by omega)]; rfl
    cases k <;> simp only [slowU, hd, hg] <;> split <;> try rfl
    all_goals
      generalize c[i] = v
      cases v <;> first | rfl | exact slowU_eq c ks (i + 1) _ | (rename_i kk _; cases kk <;> first | rfl | exact slowU_eq c ks (i + 1) _)
def AHall {O : Type} (σ : AH O) (b : Bid) : Option (List AV) :=
  match b with
  | .n b => match σ.blk b with
    | some (.cells _ _ cs) => some cs
    | _ => none
  | .f cs => some cs
theorem ld_all {O : Type} (σ : AH O) (b : Bid) (o : Nat) : σ.ld b o = (AHall σ b).bind fun cs => cs[o]? := by
  unfold AH.ld AHall
  cases b with
  | n b => simp only; cases σ.blk b with
    | none => rfl
    | some x => cases x <;> rfl
  | f cs => rfl
def slowW {O R : Type} (σ : AH O) (b : Bid) : (ks : List Bool) → Nat → FunTy ks R → Option R
  | [], _, K => K
  | true :: ks, o, K => (σ.ld b o).bind fun w => (AV.asI .i64 w).bind fun x => slowW σ b ks (o + 1) (K x)
  | false :: ks, o, K => (σ.ld b o).bind fun w => (AV.asSl w).bind fun x => slowW σ b ks (o + 1) (K x)
theorem slowW_cs {O R : Type} {σ : AH O} {b : Bid} {cs : List AV} (hc : AHall σ b = some cs) : ∀ (ks : List Bool) (o : Nat) (K : FunTy ks R), slowW σ b ks o K = applyW ks (cs.drop o) K
  | [], _, _ => rfl
  | k :: ks, o, K => by
    have hl : σ.ld b o = cs[o]? := by rw [ld_all, hc]; rfl
    by_cases h : o < cs.length
    · have hd : cs.drop o = cs[o] :: cs.drop (o + 1) := List.drop_eq_getElem_cons h
      rw [List.getElem?_eq_getElem h] at hl
      cases k <;> simp only [slowW, hd, hl, Option.bind_some]
      all_goals
        generalize cs[o] = v
        cases v <;> first | rfl | exact slowW_cs hc ks (o + 1) _ | (rename_i kk _; cases kk <;> first | rfl | exact slowW_cs hc ks (o + 1) _)
    · have hd : cs.drop o = [] := List.drop_of_length_le (by omega)
      rw [List.getElem?_eq_none (by omega)] at hl
      cases k <;> simp only [slowW, hd, hl, Option.bind_none] <;> rfl
theorem slowW_eq {O R : Type} (σ : AH O) (b : Bid) (k : Bool) (ks : List Bool) (o : Nat) (K : FunTy (k :: ks) R) : slowW σ b (k :: ks) o K = (AHall σ b).bind fun cs => applyW (k :: ks) (cs.drop o) K := by
  cases hc : AHall σ b with
  | some cs => rw [slowW_cs hc]; rfl
  | none =>
    have hl : σ.ld b o = none := by rw [ld_all, hc]; rfl
    cases k <;> simp only [slowW, hl, Option.bind_none]
abbrev kU0 : List Bool := [true, true, true, true, true, true, true, true]
abbrev kW0 : List Bool := [true, true, true, true, true, true, true, true]
structure Words (O : Type) where
  U0 : {R : Type} → List AV → (Int → Int → Int → Int → Int → Int → Int → Int → Option R) → Option R
  W0 : {R : Type} → AH O → Bid → Nat → (Int → Int → Int → Int → Int → Int → Int → Int → Option R) → Option R
def slowWords {O : Type} : Words O where
  U0 := fun c K => slowU c kU0 0 K
  W0 := fun σ b o K => slowW σ b kW0 o K
def fastWords {O : Type} : Words O where
  U0 := fun c K => applyW kU0 c K
  W0 := fun σ b o K => (AHall σ b).bind fun cs => applyW kW0 (cs.drop o) K
theorem words_eq {O : Type} : (slowWords : Words O) = fastWords := by
  unfold slowWords fastWords
  congr 1
  · funext R c K; exact slowU_eq c kU0 0 K
  · funext R σ b o K; exact slowW_eq σ b true [true, true, true, true, true, true, true] o K
abbrev P0 : List AV := [J 0, J 0, J 0, J 0, J 0, J 0, J 0, J 0]
abbrev P1 (x0 : Int) (x1 : Int) (x2 : Int) (x3 : Int) (x4 : Int) (x5 : Int) (x6 : Int) (x7 : Int) : List AV := [J x0, J x1, J x2, J x3, J x4, J x5, J x6, J x7]
abbrev P2 (x0 : Int) (x1 : Int) (x2 : Int) (x3 : Int) (x4 : Int) (x5 : Int) (x6 : Int) (x7 : Int) (x8 : Int) (x9 : Int) (x10 : Int) (x11 : Int) (x12 : Int) (x13 : Int) (x14 : Int) (x15 : Int) (x16 : Int) (x17 : Int) (x18 : Int) (x19 : Int) (x20 : Int) (x21 : Int) (x22 : Int) (x23 : Int) (x24 : Int) (x25 : Int) (x26 : Int) (x27 : Int) (x28 : Int) (x29 : Int) (x30 : Int) (x31 : Int) (x32 : Int) (x33 : Int) (x34 : Int) (x35 : Int) (x36 : Int) (x37 : Int) (x38 : Int) (x39 : Int) (x40 : Int) (x41 : Int) (x42 : Int) (x43 : Int) (x44 : Int) (x45 : Int) (x46 : Int) (x47 : Int) (x48 : Int) (x49 : Int) (x50 : Int) (x51 : Int) (x52 : Int) (x53 : Int) (x54 : Int) (x55 : Int) (x56 : Int) (x57 : Int) (x58 : Int) (x59 : Int) (x60 : Int) (x61 : Int) (x62 : Int) (x63 : Int) (x64 : Int) : List AV := [J x0, J x1, J x2, J x3, J x4, J x5, J x6, J x7, J x8, J x9, J x10, J x11, J x12, J x13, J x14, J x15, J x16, J x17, J x18, J x19, J x20, J x21, J x22, J x23, J x24, J x25, J x26, J x27, J x28, J x29, J x30, J x31, J x32, J x33, J x34, J x35, J x36, J x37, J x38, J x39, J x40, J x41, J x42, J x43, J x44, J x45, J x46, J x47, J x48, J x49, J x50, J x51, J x52, J x53, J x54, J x55, J x56, J x57, J x58, J x59, J x60, J x61, J x62, J x63, J x64]
abbrev P3 : List AV := [J 0, J 0, J 0, J 0, J 0, J 0, J 0, J 0, J 0, J 0, J 0, J 0, J 0, J 0, J 0, J 0, J 0, J 0, J 0, J 0, J 0, J 0, J 0, J 0, J 0, J 0, J 0, J 0, J 0, J 0, J 0, J 0, J 0, J 0, J 0, J 0, J 0, J 0, J 0, J 0, J 0, J 0, J 0, J 0, J 0, J 0, J 0, J 0, J 0, J 0, J 0, J 0, J 0, J 0, J 0, J 0, J 0, J 0, J 0, J 0, J 0, J 0, J 0, J 0, J 0, J 0, J 0, J 0, J 0, J 0, J 0, J 0, J 0, J 0, J 0, J 0, J 0, J 0, J 0, J 0, J 0, J 0, J 0, J 0, J 0, J 0, J 0, J 0, J 0, J 0, J 0, J 0, J 0, J 0, J 0, J 0, J 0, J 0, J 0, J 0, J 0, J 0, J 0, J 0, J 0, J 0, J 0, J 0, J 0, J 0, J 0, J 0, J 0, J 0, J 0, J 0, J 0, J 0, J 0, J 0, J 0, J 0, J 0, J 0, J 0, J 0, J 0, J 0, J 0, J 0, J 0, J 0, J 0, J 0, J 0, J 0, J 0, J 0, J 0, J 0, J 0, J 0, J 0, J 0, J 0, J 0, J 0, J 0, J 0, J 0, J 0, J 0, J 0, J 0, J 0, J 0, J 0, J 0, J 0, J 0, J 0, J 0, J 0, J 0, J 0, J 0, J 0, J 0, J 0, J 0, J 0, J 0, J 0, J 0, J 0, J 0, J 0, J 0, J 0, J 0, J 0, J 0, J 0, J 0, J 0, J 0, J 0, J 0, J 0, J 0, J 0, J 0, J 0, J 0, J 0, J 0, J 0, J 0, J 0, J 0, J 0, J 0, J 0, J 0, J 0, J 0, J 0, J 0, J 0, J 0, J 0, J 0, J 0, J 0, J 0, J 0, J 0, J 0, J 0, J 0, J 0, J 0, J 0, J 0, J 0]
theorem mixed : Tryz.prog.follows .mixedOrders = true := by kernel_rfl
theorem bits_Add64_ext {O : Type} : ExternOK Tryz.prog 99 (bits_Add64 (O := O)) := add64_ext Tryz.func99 (by kernel_rfl) (by kernel_rfl) (by kernel_rfl) rfl
theorem bits_Sub64_ext {O : Type} : ExternOK Tryz.prog 110 (bits_Sub64 (O := O)) := sub64_ext Tryz.func110 (by kernel_rfl) (by kernel_rfl) (by kernel_rfl) rfl
noncomputable def law45_awake_1_L1 {O : Type} (l0 : SA × Nat) : List AV × AH O → Option ((List AV × AH O) ⊕ ((List AV × AH O) ⊕ (AV × AH O))) := (fun r1 =>
 (AV.asI .i64 (r1.1.getD 0 .u)).bind fun n2 =>
 (bif (decide (n2 < (l0.2 : Int))) then
 (bif ((decide ((0 : Int) ≤ n2)) && (decide (n2 < (l0.2 : Int)))) then
 (SA.ref l0.1).bind fun q3 =>
 (r1.2.ld q3.1 (q3.2 + (n2.toNat * 1))).bind fun w4 =>
 (AV.asSl w4).bind fun l5 =>
 (bif (decide ((0 : Int) < (l5.2 : Int))) then
 (SA.ref l5.1).bind fun q6 =>
 (r1.2.ld q6.1 q6.2).bind fun w7 =>
 (AV.asI .i64 w7).bind fun n8 =>
 (bif ((n8 : Int) == 2) then
 ((some ((.b true), r1.2) : Option (AV × AH O)).map fun r => Sum.inr (Sum.inr r))
 else some (Sum.inl ([(.i .i64 (IntKind.i64.wrap (n2 + 1)))], r1.2)))
 else none)
 else none)
 else some (Sum.inr (Sum.inl ([], r1.2)))))
noncomputable def law45_awake_1_c {O : Type} : Sm O := fun xs σ =>
 bif Nat.beq xs.length 1 then
 (AV.asSl (xs.getD 0 .u)).bind fun l0 =>
 bindS (S := List AV × AH O) (R := (AV × AH O)) (loopF (S := List AV × AH O) (T := (List AV × AH O) ⊕ (AV × AH O)) (law45_awake_1_L1 l0) ([J 0], σ)) fun r9 =>
 some ((.b false), r9.2)
 else none
noncomputable def law45_awake_1 {O : Type} : Sm O := law45_awake_1_c
theorem law45_awake_1_ent : Entered Tryz.prog 8 := Tryz.call8
theorem law45_awake_1_run {O : Type} : run (O := O) Tryz.prog [] Tryz.f8 (.n .z (.n (.n .z (.n (.lp true 0 [(3, .one (.i .i64))] [] (.n (.n .z .z) (.n (.n (.n .z (.n .z .z)) .z) .z))) .z)) .z)) = law45_awake_1_c  := by kernel_rfl
theorem law45_awake_1_sound {O : Type} {RO : O → Loc → (Nat → Option Obj) → Prop} : FSound RO Tryz.prog 8 (law45_awake_1) :=
   have h : FSound RO Tryz.prog 8 (law45_awake_1_c) := (law45_awake_1_run) ▸ run_sound (gnil) mixed Tryz.func8 (by kernel_rfl) _
   h
noncomputable def slices_Clone_____int___int__c {O : Type} : Sm O := fun xs σ =>
 bif Nat.beq xs.length 1 then
 (AV.asSl (xs.getD 0 .u)).bind fun l0 =>
 (bif (SA.isNil l0.1) then
 none
 else let σ1 := σ.bump 2
 let σ2 := σ1.put σ.next (.cells true 29 [])
 (σ2.rdSl l0.1 l0.2 1).bind fun new3 =>
 (bif (Nat.ble ((0 + l0.2) * 25) 35184372088832) then
 (σ2.appSl (σ.next + 1) 29 1 (.loc (.n σ.next) 0 1) 0 l0.2 new3).bind fun r4 =>
 (AV.asSl r4.1).bind fun l5 =>
 some (L l5, r4.2)
 else none))
 else none
noncomputable def slices_Clone_____int___int_ {O : Type} : Sm O := slices_Clone_____int___int__c
theorem slices_Clone_____int___int__ent : Entered Tryz.prog 10 := Tryz.call10
theorem slices_Clone_____int___int__run {O : Type} : run (O := O) Tryz.prog [] Tryz.f10 (.n .z (.n (.n .z (.n .x .z)) .z)) = slices_Clone_____int___int__c  := by kernel_rfl
theorem slices_Clone_____int___int__sound {O : Type} {RO : O → Loc → (Nat → Option Obj) → Prop} : FSound RO Tryz.prog 10 (slices_Clone_____int___int_) :=
   have h : FSound RO Tryz.prog 10 (slices_Clone_____int___int__c) := (slices_Clone_____int___int__run) ▸ run_sound (gnil) mixed Tryz.func10 (by kernel_rfl) _
   h
noncomputable def trial_Shorter_L2 {O : Type} (k10 : Sm O) (k11 : Sm O) (k8 : Sm O) (f1 : Option (Fn × List AV × List AV)) : List AV × AH O → Option ((List AV × AH O) ⊕ (List AV × AH O)) := (fun r11 =>
 (AV.asSl (r11.1.getD 0 .u)).bind fun l12 =>
 (AV.asB (r11.1.getD 1 .u)).bind fun b13 =>
 (AV.asI .i64 (r11.1.getD 2 .u)).bind fun n14 =>
 (bif (decide (n14 < (l12.2 : Int))) then
 (k10 [L l12] r11.2).bind fun r15 =>
 (AV.asSl r15.1).bind fun l16 =>
 (k11 [L l16, J n14, (.i .i64 (IntKind.i64.wrap (n14 + 1)))] r15.2).bind fun r17 =>
 (AV.asSl r17.1).bind fun l18 =>
 (k10 [L l18] r17.2).bind fun r19 =>
 (AV.asSl r19.1).bind fun l20 =>
 (callV [(10, k10), (11, k11), (8, k8)] f1 [L l20] r19.2).bind fun r21 =>
 (AV.asB r21.1).bind fun b22 =>
 ((bif b22 then
 some ([L l18, (.b true), J n14], r21.2)
 else some ([L l12, (.b b13), (.i .i64 (IntKind.i64.wrap (n14 + 1)))], r21.2)) : Option (List AV × AH O)).bind fun r23 =>
 (AV.asSl (r23.1.getD 0 .u)).bind fun l24 =>
 (AV.asB (r23.1.getD 1 .u)).bind fun b25 =>
 (AV.asI .i64 (r23.1.getD 2 .u)).bind fun n26 =>
 some (Sum.inl ([L l24, (.b b25), J n26], r23.2))
 else some (Sum.inr ([L l12, (.b b13)], r11.2))))
noncomputable def trial_Shorter_L1 {O : Type} (k10 : Sm O) (k11 : Sm O) (k8 : Sm O) (f1 : Option (Fn × List AV × List AV)) : List AV × AH O → Option ((List AV × AH O) ⊕ (List AV × AH O)) := (fun r8 =>
 (AV.asSl (r8.1.getD 0 .u)).bind fun l9 =>
 (AV.asB (r8.1.getD 1 .u)).bind fun b10 =>
 (bif b10 then
 (loopF (S := List AV × AH O) (T := List AV × AH O) (trial_Shorter_L2 k10 k11 k8 f1) ([L l9, (.b false), J 0], r8.2)).bind fun r27 =>
 (AV.asSl (r27.1.getD 0 .u)).bind fun l28 =>
 (AV.asB (r27.1.getD 1 .u)).bind fun b29 =>
 some (Sum.inl ([L l28, (.b b29)], r27.2))
 else some (Sum.inr ([L l9], r8.2))))
noncomputable def trial_Shorter_c {O : Type} (k10 k11 k8 : Sm O) : Sm O := fun xs σ =>
 bif Nat.beq xs.length 2 then
 (AV.asSl (xs.getD 0 .u)).bind fun l0 =>
 (AV.asF (xs.getD 1 .u)).bind fun f1 =>
 (k10 [L l0] σ).bind fun r2 =>
 (AV.asSl r2.1).bind fun l3 =>
 ((bif ((Option.isNone f1) == false) then
 (callV [(10, k10), (11, k11), (8, k8)] f1 [L l3] r2.2).bind fun r4 =>
 (AV.asB r4.1).bind fun b5 =>
 some ([(.b (!b5))], r4.2)
 else some ([(.b true)], r2.2)) : Option (List AV × AH O)).bind fun r6 =>
 (AV.asB (r6.1.getD 0 .u)).bind fun b7 =>
 (bif b7 then
 none
 else (loopF (S := List AV × AH O) (T := List AV × AH O) (trial_Shorter_L1 k10 k11 k8 f1) ([L l3, (.b true)], r6.2)).bind fun r30 =>
 (AV.asSl (r30.1.getD 0 .u)).bind fun l31 =>
 some (L l31, r30.2))
 else none
noncomputable def trial_Shorter {O : Type} : Sm O := trial_Shorter_c slices_Clone_____int___int_ slices_Delete_____int___int_ law45_awake_1
theorem trial_Shorter_ent : Entered Tryz.prog 7 := Tryz.call7
theorem trial_Shorter_run {O : Type} (k10 k11 k8 : Sm O) : run (O := O) Tryz.prog [(10, k10), (11, k11), (8, k8)] Tryz.f7 (.n .z (.n .z (.n (.n (.g [(2, 4, [(18, .one .b)])]) (.n .x .z)) (.n (.n .z (.n (.lp false 0 [(5, .one .sl), (6, .one .b)] [(5, .one .sl)] (.n (.n .z .z) (.n (.n .z (.n .z (.n (.lp false 2 [(5, .one .sl), (6, .one .b), (7, .one (.i .i64))] [(5, .one .sl), (6, .one .b)] (.n (.n .z .z) (.n (.n .z (.n .z (.j false [(5, .one .sl), (6, .one .b), (7, .one (.i .i64))] .z .z))) .z))) .z))) .z))) .z)) .z)))) = trial_Shorter_c k10 k11 k8 := by kernel_rfl
theorem trial_Shorter_sound {O : Type} {RO : O → Loc → (Nat → Option Obj) → Prop} : FSound RO Tryz.prog 7 (trial_Shorter) :=
   have h : FSound RO Tryz.prog 7 (trial_Shorter_c slices_Clone_____int___int_ slices_Delete_____int___int_ law45_awake_1) := (trial_Shorter_run slices_Clone_____int___int_ slices_Delete_____int___int_ law45_awake_1) ▸ run_sound (gcons slices_Clone_____int___int__ent (slices_Clone_____int___int__sound) <| gcons slices_Delete_____int___int__ent (slices_Delete_____int___int__sound) <| gcons law45_awake_1_ent (law45_awake_1_sound) <| gnil) mixed Tryz.func7 (by kernel_rfl) _
   h
noncomputable def control_Right_c {O : Type} : Sm O := fun xs σ =>
 bif Nat.beq xs.length 1 then
 (AV.asAgg 5 (xs.getD 0 .u)).bind fun c0 =>
 I6 c0 0 fun n1 => I6 c0 1 fun n2 => I6 c0 2 fun n3 => I6 c0 3 fun n4 => I6 c0 4 fun n5 => let σ6 := σ.bump 1
 let σ7 := σ6.put σ.next (.cells true 46 [J n1, J n2, J n3, J n4, J n5])
 (σ7.ld (.n σ.next) 0).bind fun w8 =>
 (AV.asI .i64 w8).bind fun n9 =>
 ((bif ((decide (n9 < 16)) == false) then
 (σ7.ld (.n σ.next) 0).bind fun w10 =>
 (AV.asI .i64 w10).bind fun n11 =>
 some ([(.b (decide (n11 > 1048576)))], σ7)
 else some ([(.b true)], σ7)) : Option (List AV × AH O)).bind fun r12 =>
 (AV.asB (r12.1.getD 0 .u)).bind fun b13 =>
 (bif b13 then
 none
 else (r12.2.ld (.n σ.next) 1).bind fun w14 =>
 (AV.asI .i64 w14).bind fun n15 =>
 ((bif ((decide (n15 < 0)) == false) then
 (r12.2.ld (.n σ.next) 1).bind fun w16 =>
 (AV.asI .i64 w16).bind fun n17 =>
 (r12.2.ld (.n σ.next) 0).bind fun w18 =>
 (AV.asI .i64 w18).bind fun n19 =>
 some ([(.b (decide (n17 > n19)))], r12.2)
 else some ([(.b true)], r12.2)) : Option (List AV × AH O)).bind fun r20 =>
 (AV.asB (r20.1.getD 0 .u)).bind fun b21 =>
 (bif b21 then
 none
 else (r20.2.ld (.n σ.next) 4).bind fun w22 =>
 (AV.asI .i64 w22).bind fun n23 =>
 ((bif ((decide (n23 ≥ 0)) == true) then
 (r20.2.ld (.n σ.next) 4).bind fun w24 =>
 (AV.asI .i64 w24).bind fun n25 =>
 some ([(.b (decide (n25 ≤ 16)))], r20.2)
 else some ([(.b false)], r20.2)) : Option (List AV × AH O)).bind fun r26 =>
 (AV.asB (r26.1.getD 0 .u)).bind fun b27 =>
 some ((.b b27), r26.2)))
 else none
noncomputable def control_Right {O : Type} : Sm O := control_Right_c
theorem control_Right_ent : Entered Tryz.prog 50 := Tryz.call50
theorem control_Right_run {O : Type} : run (O := O) Tryz.prog [] Tryz.f50 (.n .z (.n (.n (.n (.g [(3, 3, [(11, .one .b)])]) (.n .x (.n (.g [(3, 5, [(22, .one .b)])]) (.n .x .z)))) .z) (.n (.g [(3, 3, [(30, .one .b)])]) .z))) = control_Right_c  := by kernel_rfl
theorem control_Right_sound {O : Type} {RO : O → Loc → (Nat → Option Obj) → Prop} : FSound RO Tryz.prog 50 (control_Right) :=
   have h : FSound RO Tryz.prog 50 (control_Right_c) := (control_Right_run) ▸ run_sound (gnil) mixed Tryz.func50 (by kernel_rfl) _
   h
noncomputable def config_Check_c {O : Type} (k50 : Sm O) : Sm O := fun xs σ =>
 bif Nat.beq xs.length 1 then
 (AV.asAgg 5 (xs.getD 0 .u)).bind fun c0 =>
 I6 c0 0 fun n1 => I6 c0 1 fun n2 => I6 c0 2 fun n3 => I6 c0 3 fun n4 => I6 c0 4 fun n5 => let σ6 := σ.bump 1
 let σ7 := σ6.put σ.next (.cells true 46 [J n1, J n2, J n3, J n4, J n5])
 (σ7.ld (.n σ.next) 0).bind fun w8 =>
 (AV.asI .i64 w8).bind fun n9 =>
 (σ7.ld (.n σ.next) 1).bind fun w10 =>
 (AV.asI .i64 w10).bind fun n11 =>
 (σ7.ld (.n σ.next) 2).bind fun w12 =>
 (AV.asI .i64 w12).bind fun n13 =>
 (σ7.ld (.n σ.next) 3).bind fun w14 =>
 (AV.asI .i64 w14).bind fun n15 =>
 (σ7.ld (.n σ.next) 4).bind fun w16 =>
 (AV.asI .i64 w16).bind fun n17 =>
 (k50 [(.agg [J n9, J n11, J n13, J n15, J n17])] σ7).bind fun r18 =>
 (AV.asB r18.1).bind fun b19 =>
 (bif (!b19) then
 none
 else (r18.2.ld (.n σ.next) 2).bind fun w20 =>
 (AV.asI .i64 w20).bind fun n21 =>
 ((bif ((decide (n21 < 2)) == false) then
 (r18.2.ld (.n σ.next) 2).bind fun w22 =>
 (AV.asI .i64 w22).bind fun n23 =>
 some ([(.b (decide (n23 > 64)))], r18.2)
 else some ([(.b true)], r18.2)) : Option (List AV × AH O)).bind fun r24 =>
 (AV.asB (r24.1.getD 0 .u)).bind fun b25 =>
 (bif b25 then
 none
 else (r24.2.ld (.n σ.next) 3).bind fun w26 =>
 (AV.asI .i64 w26).bind fun n27 =>
 ((bif ((decide (n27 < 1)) == false) then
 (r24.2.ld (.n σ.next) 3).bind fun w28 =>
 (AV.asI .i64 w28).bind fun n29 =>
 some ([(.b (decide (n29 > 32)))], r24.2)
 else some ([(.b true)], r24.2)) : Option (List AV × AH O)).bind fun r30 =>
 (AV.asB (r30.1.getD 0 .u)).bind fun b31 =>
 (bif b31 then
 none
 else some (J 0, r30.2))))
 else none
noncomputable def config_Check {O : Type} : Sm O := config_Check_c control_Right
theorem config_Check_ent : Entered Tryz.prog 26 := Tryz.call26
theorem config_Check_run {O : Type} (k50 : Sm O) : run (O := O) Tryz.prog [(50, k50)] Tryz.f26 (.n .z (.n (.n (.n .z (.n .x (.n (.g [(3, 3, [(15, .one .b)])]) (.n .x (.n (.g [(3, 3, [(24, .one .b)])]) (.n .x .z)))))) .z) .z)) = config_Check_c k50 := by kernel_rfl
theorem config_Check_sound {O : Type} {RO : O → Loc → (Nat → Option Obj) → Prop} : FSound RO Tryz.prog 26 (config_Check) :=
   have h : FSound RO Tryz.prog 26 (config_Check_c control_Right) := (config_Check_run control_Right) ▸ run_sound (gcons control_Right_ent (control_Right_sound) <| gnil) mixed Tryz.func26 (by kernel_rfl) _
   h
noncomputable def config_From_c {O : Type} (k26 : Sm O) : Sm O := fun xs σ =>
 bif Nat.beq xs.length 1 then
 (AV.asSl (xs.getD 0 .u)).bind fun l0 =>
 let σ1 := σ.bump 1
 let σ2 := σ1.put σ.next (.cells true 46 [J 0, J 0, J 0, J 0, J 0])
 (bif (((l0.2 : Int) : Int) != 5) then
 none
 else let σ3 := σ2.bump 1
 (bif (decide ((0 : Int) < (l0.2 : Int))) then
 (SA.ref l0.1).bind fun q4 =>
 (σ3.ld q4.1 q4.2).bind fun w5 =>
 (AV.asI .i64 w5).bind fun n6 =>
 (bif (decide ((1 : Int) < (l0.2 : Int))) then
 (SA.ref l0.1).bind fun q7 =>
 (σ3.ld q7.1 (q7.2 + 1)).bind fun w8 =>
 (AV.asI .i64 w8).bind fun n9 =>
 (bif (decide ((2 : Int) < (l0.2 : Int))) then
 (SA.ref l0.1).bind fun q10 =>
 (σ3.ld q10.1 (q10.2 + 2)).bind fun w11 =>
 (AV.asI .i64 w11).bind fun n12 =>
 (bif (decide ((3 : Int) < (l0.2 : Int))) then
 (SA.ref l0.1).bind fun q13 =>
 (σ3.ld q13.1 (q13.2 + 3)).bind fun w14 =>
 (AV.asI .i64 w14).bind fun n15 =>
 (bif (decide ((4 : Int) < (l0.2 : Int))) then
 (SA.ref l0.1).bind fun q16 =>
 (σ3.ld q16.1 (q16.2 + 4)).bind fun w17 =>
 (AV.asI .i64 w17).bind fun n18 =>
 let σ19 := σ3.put σ2.next (.cells true 46 [J 0, J 0, J 0, J 0, J 0])
 (σ19.st (.n σ2.next) 0 [J n6, J n9, J n12, J n15, J n18]).bind fun σ20 =>
 (σ20.ld (.n σ2.next) 0).bind fun w21 =>
 (AV.asI .i64 w21).bind fun n22 =>
 (σ20.ld (.n σ2.next) 1).bind fun w23 =>
 (AV.asI .i64 w23).bind fun n24 =>
 (σ20.ld (.n σ2.next) 2).bind fun w25 =>
 (AV.asI .i64 w25).bind fun n26 =>
 (σ20.ld (.n σ2.next) 3).bind fun w27 =>
 (AV.asI .i64 w27).bind fun n28 =>
 (σ20.ld (.n σ2.next) 4).bind fun w29 =>
 (AV.asI .i64 w29).bind fun n30 =>
 (k26 [(.agg [J n22, J n24, J n26, J n28, J n30])] σ20).bind fun r31 =>
 (AV.asI .i64 r31.1).bind fun n32 =>
 (bif ((n32 : Int) != 0) then
 none
 else (r31.2.ld (.n σ2.next) 0).bind fun w33 =>
 (AV.asI .i64 w33).bind fun n34 =>
 (r31.2.ld (.n σ2.next) 1).bind fun w35 =>
 (AV.asI .i64 w35).bind fun n36 =>
 (r31.2.ld (.n σ2.next) 2).bind fun w37 =>
 (AV.asI .i64 w37).bind fun n38 =>
 (r31.2.ld (.n σ2.next) 3).bind fun w39 =>
 (AV.asI .i64 w39).bind fun n40 =>
 (r31.2.ld (.n σ2.next) 4).bind fun w41 =>
 (AV.asI .i64 w41).bind fun n42 =>
 (r31.2.st (.n σ.next) 0 [J n34, J n36, J n38, J n40, J n42]).bind fun σ43 =>
 (σ43.ld (.n σ.next) 0).bind fun w44 =>
 (AV.asI .i64 w44).bind fun n45 =>
 (σ43.ld (.n σ.next) 1).bind fun w46 =>
 (AV.asI .i64 w46).bind fun n47 =>
 (σ43.ld (.n σ.next) 2).bind fun w48 =>
 (AV.asI .i64 w48).bind fun n49 =>
 (σ43.ld (.n σ.next) 3).bind fun w50 =>
 (AV.asI .i64 w50).bind fun n51 =>
 (σ43.ld (.n σ.next) 4).bind fun w52 =>
 (AV.asI .i64 w52).bind fun n53 =>
 some ((.tup [(.agg [J n45, J n47, J n49, J n51, J n53]), J 0]), σ43))
 else none)
 else none)
 else none)
 else none)
 else none))
 else none
noncomputable def config_From {O : Type} : Sm O := config_From_c config_Check
theorem config_From_ent : Entered Tryz.prog 16 := Tryz.call16
theorem config_From_run {O : Type} (k26 : Sm O) : run (O := O) Tryz.prog [(26, k26)] Tryz.f16 (.n .z (.n (.n .z (.n .x .z)) (.n (.d [] [0, 1, 2, 3, 4, 5, 6, 7, 8, 9, 10, 11, 12, 13, 14, 15, 16, 17] [0, 1, 3, 0, 8, 24, 0, 64, 192, 0, 512, 1536, 0, 4096, 12288, 32767, 0, 131071]) (.n (.n .z (.n .z (.n .x .z))) .z)))) = config_From_c k26 := by kernel_rfl
theorem config_From_sound {O : Type} {RO : O → Loc → (Nat → Option Obj) → Prop} : FSound RO Tryz.prog 16 (config_From) :=
   have h : FSound RO Tryz.prog 16 (config_From_c config_Check) := (config_From_run config_Check) ▸ run_sound (gcons config_Check_ent (config_Check_sound) <| gnil) mixed Tryz.func16 (by kernel_rfl) _
   h
noncomputable def meter_New_c {O : Type} : Sm O := fun xs σ =>
 bif Nat.beq xs.length 0 then
 let σ0 := σ.bump 1
 let σ1 := σ0.put σ.next (.cells true 191 [(.i .u64 0), (.i .u64 0), (.i .u64 0), (.i .u64 0), J 0, J 0])
 some ((.p (some ((.n σ.next), 0))), σ1)
 else none
noncomputable def meter_New {O : Type} : Sm O := meter_New_c
theorem meter_New_ent : Entered Tryz.prog 184 := Tryz.call184
theorem meter_New_run {O : Type} : run (O := O) Tryz.prog [] Tryz.f184 (.n .z .z) = meter_New_c  := by kernel_rfl
theorem meter_New_sound {O : Type} {RO : O → Loc → (Nat → Option Obj) → Prop} : FSound RO Tryz.prog 184 (meter_New) :=
   have h : FSound RO Tryz.prog 184 (meter_New_c) := (meter_New_run) ▸ run_sound (gnil) mixed Tryz.func184 (by kernel_rfl) _
   h
noncomputable def mem_New_c {O : Type} (k184 : Sm O) : Sm O := fun xs σ =>
 bif Nat.beq xs.length 0 then
 let σ0 := σ.bump 1
 (k184 [] σ0).bind fun r1 =>
 (AV.asP r1.1).bind fun p2 =>
 let σ3 := r1.2.put σ.next (.cells true 107 [(.p p2), N, J 0, J 0])
 some ((.p (some ((.n σ.next), 0))), σ3)
 else none
noncomputable def mem_New {O : Type} : Sm O := mem_New_c meter_New
theorem mem_New_ent : Entered Tryz.prog 94 := Tryz.call94
theorem mem_New_run {O : Type} (k184 : Sm O) : run (O := O) Tryz.prog [(184, k184)] Tryz.f94 (.n .z .z) = mem_New_c k184 := by kernel_rfl
theorem mem_New_sound {O : Type} {RO : O → Loc → (Nat → Option Obj) → Prop} : FSound RO Tryz.prog 94 (mem_New) :=
   have h : FSound RO Tryz.prog 94 (mem_New_c meter_New) := (mem_New_run meter_New) ▸ run_sound (gcons meter_New_ent (meter_New_sound) <| gnil) mixed Tryz.func94 (by kernel_rfl) _
   h
noncomputable def meter_words__open_c {O : Type} : Sm O := fun xs σ =>
 bif Nat.beq xs.length 2 then
 (AV.asP (xs.getD 0 .u)).bind fun p0 =>
 (AV.asI .i64 (xs.getD 1 .u)).bind fun n1 =>
 Option.bind p0 fun q2 =>
 (σ.ld q2.1 q2.2).bind fun w3 =>
 (AV.asI .i64 w3).bind fun n4 =>
 Option.bind p0 fun q5 =>
 (σ.st q5.1 q5.2 [(.i .i64 (IntKind.i64.wrap (n4 + n1)))]).bind fun σ6 =>
 Option.bind p0 fun q7 =>
 (σ6.ld q7.1 (q7.2 + 1)).bind fun w8 =>
 (AV.asI .i64 w8).bind fun n9 =>
 Option.bind p0 fun q10 =>
 (σ6.ld q10.1 q10.2).bind fun w11 =>
 (AV.asI .i64 w11).bind fun n12 =>
 Option.bind p0 fun q13 =>
 (σ6.st q13.1 (q13.2 + 1) [(.i .i64 (if n12 > n9 then n12 else n9))]).bind fun σ14 =>
 some ((.tup []), σ14)
 else none
noncomputable def meter_words__open {O : Type} : Sm O := meter_words__open_c
theorem meter_words__open_ent : Entered Tryz.prog 318 := Tryz.call318
theorem meter_words__open_run {O : Type} : run (O := O) Tryz.prog [] Tryz.f318 (.n .z (.d [] [0, 1, 2, 3, 4, 5, 6, 7, 8, 9, 10, 11, 12] [0, 0, 2, 6, 14, 0, 32, 96, 224, 510, 1023, 2047, 4095])) = meter_words__open_c  := by kernel_rfl
theorem meter_words__open_sound {O : Type} {RO : O → Loc → (Nat → Option Obj) → Prop} : FSound RO Tryz.prog 318 (meter_words__open) :=
   have h : FSound RO Tryz.prog 318 (meter_words__open_c) := (meter_words__open_run) ▸ run_sound (gnil) mixed Tryz.func318 (by kernel_rfl) _
   h
noncomputable def meter_Meter__Hold_c {O : Type} (k318 : Sm O) : Sm O := fun xs σ =>
 bif Nat.beq xs.length 2 then
 (AV.asP (xs.getD 0 .u)).bind fun p0 =>
 (AV.asI .i64 (xs.getD 1 .u)).bind fun n1 =>
 ((bif ((Option.isNone p0) == false) then
 some ([(.b (decide (n1 < 0)))], σ)
 else some ([(.b true)], σ)) : Option (List AV × AH O)).bind fun r2 =>
 (AV.asB (r2.1.getD 0 .u)).bind fun b3 =>
 (bif b3 then
 none
 else Option.bind p0 fun q4 =>
 (r2.2.ld q4.1 (q4.2 + 4)).bind fun w5 =>
 (AV.asI .i64 w5).bind fun n6 =>
 let c7 : Bool := (decide (n1 > (IntKind.i64.wrap (281474976710656 - n6))))
 (bif c7 then
 none
 else Option.bind p0 fun q8 =>
 (k318 [(.p (some (q8.1, (q8.2 + 4)))), J n1] r2.2).bind fun r9 =>
 (AV.asTup 0 r9.1).bind fun c10 =>
 some (J 0, r9.2)))
 else none
noncomputable def meter_Meter__Hold {O : Type} : Sm O := meter_Meter__Hold_c meter_words__open
theorem meter_Meter__Hold_ent : Entered Tryz.prog 269 := Tryz.call269
theorem meter_Meter__Hold_run {O : Type} (k318 : Sm O) : run (O := O) Tryz.prog [(318, k318)] Tryz.f269 (.n .z (.n (.n (.n (.g [(2, 2, [(11, .one .b)])]) (.n .x (.n .z (.n .x .z)))) .z) (.n .z .z))) = meter_Meter__Hold_c k318 := by kernel_rfl
theorem meter_Meter__Hold_sound {O : Type} {RO : O → Loc → (Nat → Option Obj) → Prop} : FSound RO Tryz.prog 269 (meter_Meter__Hold) :=
   have h : FSound RO Tryz.prog 269 (meter_Meter__Hold_c meter_words__open) := (meter_Meter__Hold_run meter_words__open) ▸ run_sound (gcons meter_words__open_ent (meter_words__open_sound) <| gnil) mixed Tryz.func269 (by kernel_rfl) _
   h
noncomputable def mem_Mem__Open_L1 {O : Type} (p0 : Option (Bid × Nat)) : List AV × AH O → Option ((List AV × AH O) ⊕ (List AV × AH O)) := (fun r8 =>
 (AV.asI .i64 (r8.1.getD 0 .u)).bind fun n9 =>
 Option.bind p0 fun q10 =>
 (r8.2.ld q10.1 (q10.2 + 1)).bind fun w11 =>
 (AV.asSl w11).bind fun l12 =>
 ((bif ((decide (n9 < (l12.2 : Int))) == true) then
 Option.bind p0 fun q13 =>
 (r8.2.ld q13.1 (q13.2 + 1)).bind fun w14 =>
 (AV.asSl w14).bind fun l15 =>
 (bif ((decide ((0 : Int) ≤ n9)) && (decide (n9 < (l15.2 : Int)))) then
 (SA.ref l15.1).bind fun q16 =>
 (r8.2.ld q16.1 ((q16.2 + (n9.toNat * 2)) + 1)).bind fun w17 =>
 (AV.asB w17).bind fun b18 =>
 some ([(.b b18)], r8.2)
 else none)
 else some ([(.b false)], r8.2)) : Option (List AV × AH O)).bind fun r19 =>
 (AV.asB (r19.1.getD 0 .u)).bind fun b20 =>
 (bif b20 then
 none
 else some (Sum.inr ([J n9], r19.2))))
noncomputable def mem_Mem__Open_c {O : Type} (k269 : Sm O) : Sm O := fun xs σ =>
 bif Nat.beq xs.length 2 then
 (AV.asP (xs.getD 0 .u)).bind fun p0 =>
 (AV.asI .i64 (xs.getD 1 .u)).bind fun n1 =>
 (bif (decide (n1 < 0)) then
 none
 else (bif (decide (n1 > 4194304)) then
 none
 else Option.bind p0 fun q2 =>
 (σ.ld q2.1 (q2.2 + 3)).bind fun w3 =>
 (AV.asI .i64 w3).bind fun n4 =>
 (bif (decide (n4 ≥ 262144)) then
 none
 else Option.bind p0 fun q5 =>
 (σ.ld q5.1 (q5.2 + 2)).bind fun w6 =>
 (AV.asI .i64 w6).bind fun n7 =>
 (loopF (S := List AV × AH O) (T := List AV × AH O) (mem_Mem__Open_L1 p0) ([J n7], σ)).bind fun r21 =>
 (AV.asI .i64 (r21.1.getD 0 .u)).bind fun n22 =>
 Option.bind p0 fun q23 =>
 (r21.2.ld q23.1 (q23.2 + 1)).bind fun w24 =>
 (AV.asSl w24).bind fun l25 =>
 (bif ((n22 : Int) == (l25.2 : Int)) then
 let σ26 := r21.2.bump 2
 Option.bind p0 fun q27 =>
 (σ26.ld q27.1 (q27.2 + 1)).bind fun w28 =>
 (AV.asSl w28).bind fun l29 =>
 let σ30 := σ26.put r21.2.next (.cells true 359 [N, (.b false)])
 (σ30.rdSl (.loc (.n r21.2.next) 0 2) 1 2).bind fun new31 =>
 (bif (Nat.ble ((l29.2 + 1) * 33) 35184372088832) then
 (σ30.appSl (r21.2.next + 1) 359 2 l29.1 l29.2 1 new31).bind fun r32 =>
 (AV.asSl r32.1).bind fun l33 =>
 Option.bind p0 fun q34 =>
 (r32.2.st q34.1 (q34.2 + 1) [L l33]).bind fun σ35 =>
 let σ36 := σ35.bump 1
 Option.bind p0 fun q37 =>
 (σ36.ld q37.1 (q37.2 + 1)).bind fun w38 =>
 (AV.asSl w38).bind fun l39 =>
 (bif ((((decide ((0 : Int) ≤ n1)) && (decide (n1 ≤ n1))) && (decide ((n1 * 8) ≤ 140737488355328))) && (decide (n1 ≤ 140737488355328))) then
 let σ40 := σ36.put σ35.next (.cells true 96 ((List.replicate n1.toNat [(.i .u64 0)]).flatten))
 (bif ((decide ((0 : Int) ≤ n22)) && (decide (n22 < (l39.2 : Int)))) then
 (SA.ref l39.1).bind fun q41 =>
 (σ40.st q41.1 (q41.2 + (n22.toNat * 2)) [(.sl (.loc (.n σ35.next) 0 1) n1.toNat), (.b true)]).bind fun σ42 =>
 Option.bind p0 fun q43 =>
 (σ42.ld q43.1 (q43.2 + 3)).bind fun w44 =>
 (AV.asI .i64 w44).bind fun n45 =>
 Option.bind p0 fun q46 =>
 (σ42.st q46.1 (q46.2 + 2) [(.i .i64 (IntKind.i64.wrap (n22 + 1)))]).bind fun σ47 =>
 Option.bind p0 fun q48 =>
 (σ47.st q48.1 (q48.2 + 3) [(.i .i64 (IntKind.i64.wrap (n45 + 1)))]).bind fun σ49 =>
 Option.bind p0 fun q50 =>
 (σ49.ld q50.1 q50.2).bind fun w51 =>
 (AV.asP w51).bind fun p52 =>
 (k269 [(.p p52), J n1] σ49).bind fun r53 =>
 (AV.asI .i64 r53.1).bind fun n54 =>
 some ((.tup [J n22, J 0]), r53.2)
 else none)
 else none)
 else none)
 else none))))
 else none
noncomputable def mem_Mem__Open {O : Type} : Sm O := mem_Mem__Open_c meter_Meter__Hold
theorem mem_Mem__Open_ent : Entered Tryz.prog 185 := Tryz.call185
theorem mem_Mem__Open_run {O : Type} (k269 : Sm O) : run (O := O) Tryz.prog [(269, k269)] Tryz.f185 (.n .z (.n (.n (.n .z (.n .x (.n .z (.n .x (.n .z (.n .x .z)))))) .z) (.n .z (.n (.n (.lp false 1 [(6, .one (.i .i64))] [(6, .one (.i .i64))] (.n (.n (.g [(7, 8, [(39, .one .b)])]) (.n .x .z)) .z)) .z) (.n (.n .z (.n .z .x)) (.n (.d [] [0, 1, 2, 3, 4, 5, 6, 7, 8, 9] [0, 1, 3, 7, 0, 0, 32, 96, 255, 511]) (.n .z (.n .z .z)))))))) = mem_Mem__Open_c k269 := by kernel_rfl
theorem mem_Mem__Open_sound {O : Type} {RO : O → Loc → (Nat → Option Obj) → Prop} : FSound RO Tryz.prog 185 (mem_Mem__Open) :=
   have h : FSound RO Tryz.prog 185 (mem_Mem__Open_c meter_Meter__Hold) := (mem_Mem__Open_run meter_Meter__Hold) ▸ run_sound (gcons meter_Meter__Hold_ent (meter_Meter__Hold_sound) <| gnil) mixed Tryz.func185 (by kernel_rfl) _
   h
noncomputable def semi_New_c {O : Type} (k185 : Sm O) : Sm O := fun xs σ =>
 bif Nat.beq xs.length 2 then
 (AV.asP (xs.getD 0 .u)).bind fun p0 =>
 (AV.asI .i64 (xs.getD 1 .u)).bind fun n1 =>
 (bif (Option.isNone p0) then
 none
 else (k185 [(.p p0), J n1] σ).bind fun r2 =>
 (AV.asTup 2 r2.1).bind fun c3 =>
 I6 c3 0 fun n4 => I6 c3 1 fun n5 => (bif ((n5 : Int) != 0) then
 none
 else let σ6 := r2.2.bump 1
 let σ7 := σ6.put r2.2.next (.cells true 291 [(.p p0), J n4, J 0, J 0, J 0, (.b false)])
 some ((.tup [(.p (some ((.n r2.2.next), 0))), J 0]), σ7)))
 else none
noncomputable def semi_New {O : Type} : Sm O := semi_New_c mem_Mem__Open
theorem semi_New_ent : Entered Tryz.prog 95 := Tryz.call95
theorem semi_New_run {O : Type} (k185 : Sm O) : run (O := O) Tryz.prog [(185, k185)] Tryz.f95 (.n .z (.n (.n .z (.n .x .z)) (.n .z (.n (.n .z (.n .x .z)) .z)))) = semi_New_c k185 := by kernel_rfl
theorem semi_New_sound {O : Type} {RO : O → Loc → (Nat → Option Obj) → Prop} : FSound RO Tryz.prog 95 (semi_New) :=
   have h : FSound RO Tryz.prog 95 (semi_New_c mem_Mem__Open) := (semi_New_run mem_Mem__Open) ▸ run_sound (gcons mem_Mem__Open_ent (mem_Mem__Open_sound) <| gnil) mixed Tryz.func95 (by kernel_rfl) _
   h
noncomputable def pool_New_c {O : Type} (k185 : Sm O) : Sm O := fun xs σ =>
 bif Nat.beq xs.length 2 then
 (AV.asP (xs.getD 0 .u)).bind fun p0 =>
 (AV.asI .i64 (xs.getD 1 .u)).bind fun n1 =>
 ((bif ((Option.isNone p0) == false) then
 some ([(.b (decide (n1 < 1)))], σ)
 else some ([(.b true)], σ)) : Option (List AV × AH O)).bind fun r2 =>
 (AV.asB (r2.1.getD 0 .u)).bind fun b3 =>
 ((bif (b3 == false) then
 some ([(.b (decide (n1 > 60)))], r2.2)
 else some ([(.b true)], r2.2)) : Option (List AV × AH O)).bind fun r4 =>
 (AV.asB (r4.1.getD 0 .u)).bind fun b5 =>
 (bif b5 then
 none
 else (k185 [(.p p0), J 0] r4.2).bind fun r6 =>
 (AV.asTup 2 r6.1).bind fun c7 =>
 I6 c7 0 fun n8 => I6 c7 1 fun n9 => (bif ((n9 : Int) != 0) then
 none
 else let σ10 := r6.2.bump 1
 let σ11 := σ10.put r6.2.next (.cells true 361 [(.p p0), J n8, J n1, J 0, J 0, J 0, J 0])
 some ((.tup [(.p (some ((.n r6.2.next), 0))), J 0]), σ11)))
 else none
noncomputable def pool_New {O : Type} : Sm O := pool_New_c mem_Mem__Open
theorem pool_New_ent : Entered Tryz.prog 186 := Tryz.call186
theorem pool_New_run {O : Type} (k185 : Sm O) : run (O := O) Tryz.prog [(185, k185)] Tryz.f186 (.n .z (.n (.n (.g [(2, 2, [(13, .one .b)]), (6, 2, [(17, .one .b)])]) (.n .x .z)) (.n .z (.n (.n .z (.n .x .z)) .z)))) = pool_New_c k185 := by kernel_rfl
theorem pool_New_sound {O : Type} {RO : O → Loc → (Nat → Option Obj) → Prop} : FSound RO Tryz.prog 186 (pool_New) :=
   have h : FSound RO Tryz.prog 186 (pool_New_c mem_Mem__Open) := (pool_New_run mem_Mem__Open) ▸ run_sound (gcons mem_Mem__Open_ent (mem_Mem__Open_sound) <| gnil) mixed Tryz.func186 (by kernel_rfl) _
   h
noncomputable def large_New_c {O : Type} (k186 : Sm O) : Sm O := fun xs σ =>
 bif Nat.beq xs.length 1 then
 (AV.asP (xs.getD 0 .u)).bind fun p0 =>
 (k186 [(.p p0), J 5] σ).bind fun r1 =>
 (AV.asTup 2 r1.1).bind fun c2 =>
 (AV.asP (c2.getD 0 .u)).bind fun p3 =>
 I6 c2 1 fun n4 => (bif ((n4 : Int) != 0) then
 none
 else let σ5 := r1.2.bump 1
 let σ6 := σ5.put r1.2.next (.cells true 298 [(.p p0), (.p p3), J 0, J 0, J 0, J 0, J 0, J 0, (.i .u64 0), J 0, J 0])
 some ((.tup [(.p (some ((.n r1.2.next), 0))), J 0]), σ6))
 else none
noncomputable def large_New {O : Type} : Sm O := large_New_c pool_New
theorem large_New_ent : Entered Tryz.prog 96 := Tryz.call96
theorem large_New_run {O : Type} (k186 : Sm O) : run (O := O) Tryz.prog [(186, k186)] Tryz.f96 (.n .z (.n .z (.n (.n .z (.n .x .z)) .z))) = large_New_c k186 := by kernel_rfl
theorem large_New_sound {O : Type} {RO : O → Loc → (Nat → Option Obj) → Prop} : FSound RO Tryz.prog 96 (large_New) :=
   have h : FSound RO Tryz.prog 96 (large_New_c pool_New) := (large_New_run pool_New) ▸ run_sound (gcons pool_New_ent (pool_New_sound) <| gnil) mixed Tryz.func96 (by kernel_rfl) _
   h
noncomputable def store_New_c {O : Type} (k94 k95 k96 : Sm O) : Sm O := fun xs σ =>
 bif Nat.beq xs.length 2 then
 (AV.asI .i64 (xs.getD 0 .u)).bind fun n0 =>
 (AV.asI .i64 (xs.getD 1 .u)).bind fun n1 =>
 ((bif ((decide (n0 < 2)) == false) then
 some ([(.b (decide (n0 > 64)))], σ)
 else some ([(.b true)], σ)) : Option (List AV × AH O)).bind fun r2 =>
 (AV.asB (r2.1.getD 0 .u)).bind fun b3 =>
 (bif b3 then
 none
 else (k94 [] r2.2).bind fun r4 =>
 (AV.asP r4.1).bind fun p5 =>
 (k95 [(.p p5), J n1] r4.2).bind fun r6 =>
 (AV.asTup 2 r6.1).bind fun c7 =>
 (AV.asP (c7.getD 0 .u)).bind fun p8 =>
 I6 c7 1 fun n9 => (bif ((n9 : Int) != 0) then
 none
 else (k96 [(.p p5)] r6.2).bind fun r10 =>
 (AV.asTup 2 r10.1).bind fun c11 =>
 (AV.asP (c11.getD 0 .u)).bind fun p12 =>
 I6 c11 1 fun n13 => (bif ((n13 : Int) != 0) then
 none
 else let σ14 := r10.2.bump 1
 let σ15 := σ14.put r10.2.next (.cells true 174 [(.p p5), (.p p8), (.p p12), J n0])
 some ((.tup [(.p (some ((.n r10.2.next), 0))), J 0]), σ15))))
 else none
noncomputable def store_New {O : Type} : Sm O := store_New_c mem_New semi_New large_New
theorem store_New_ent : Entered Tryz.prog 51 := Tryz.call51
theorem store_New_run {O : Type} (k94 k95 k96 : Sm O) : run (O := O) Tryz.prog [(94, k94), (95, k95), (96, k96)] Tryz.f51 (.n .z (.n (.n (.g [(2, 2, [(15, .one .b)])]) (.n .x .z)) (.n .z (.n .z (.n (.n .z (.n .x .z)) (.n .z (.n (.n .z (.n .x .z)) .z))))))) = store_New_c k94 k95 k96 := by kernel_rfl
theorem store_New_sound {O : Type} {RO : O → Loc → (Nat → Option Obj) → Prop} : FSound RO Tryz.prog 51 (store_New) :=
   have h : FSound RO Tryz.prog 51 (store_New_c mem_New semi_New large_New) := (store_New_run mem_New semi_New large_New) ▸ run_sound (gcons mem_New_ent (mem_New_sound) <| gcons semi_New_ent (semi_New_sound) <| gcons large_New_ent (large_New_sound) <| gnil) mixed Tryz.func51 (by kernel_rfl) _
   h
noncomputable def store_Store__Mem_c {O : Type} : Sm O := fun xs σ =>
 bif Nat.beq xs.length 1 then
 (AV.asP (xs.getD 0 .u)).bind fun p0 =>
 Option.bind p0 fun q1 =>
 (σ.ld q1.1 q1.2).bind fun w2 =>
 (AV.asP w2).bind fun p3 =>
 some ((.p p3), σ)
 else none
noncomputable def store_Store__Mem {O : Type} : Sm O := store_Store__Mem_c
theorem store_Store__Mem_ent : Entered Tryz.prog 35 := Tryz.call35
theorem store_Store__Mem_run {O : Type} : run (O := O) Tryz.prog [] Tryz.f35 (.n .z .z) = store_Store__Mem_c  := by kernel_rfl
theorem store_Store__Mem_sound {O : Type} {RO : O → Loc → (Nat → Option Obj) → Prop} : FSound RO Tryz.prog 35 (store_Store__Mem) :=
   have h : FSound RO Tryz.prog 35 (store_Store__Mem_c) := (store_Store__Mem_run) ▸ run_sound (gnil) mixed Tryz.func35 (by kernel_rfl) _
   h
noncomputable def frames_New_c {O : Type} (k185 : Sm O) : Sm O := fun xs σ =>
 bif Nat.beq xs.length 1 then
 (AV.asP (xs.getD 0 .u)).bind fun p0 =>
 (bif (Option.isNone p0) then
 none
 else (k185 [(.p p0), J 0] σ).bind fun r1 =>
 (AV.asTup 2 r1.1).bind fun c2 =>
 I6 c2 0 fun n3 => I6 c2 1 fun n4 => (bif ((n4 : Int) != 0) then
 none
 else let σ5 := r1.2.bump 1
 let σ6 := σ5.put r1.2.next (.cells true 302 [(.p p0), J n3, J 0, J 0, J 0, J 0, J 0])
 some ((.tup [(.p (some ((.n r1.2.next), 0))), J 0]), σ6)))
 else none
noncomputable def frames_New {O : Type} : Sm O := frames_New_c mem_Mem__Open
theorem frames_New_ent : Entered Tryz.prog 97 := Tryz.call97
theorem frames_New_run {O : Type} (k185 : Sm O) : run (O := O) Tryz.prog [(185, k185)] Tryz.f97 (.n .z (.n (.n .z (.n .x .z)) (.n .z (.n (.n .z (.n .x .z)) .z)))) = frames_New_c k185 := by kernel_rfl
theorem frames_New_sound {O : Type} {RO : O → Loc → (Nat → Option Obj) → Prop} : FSound RO Tryz.prog 97 (frames_New) :=
   have h : FSound RO Tryz.prog 97 (frames_New_c mem_Mem__Open) := (frames_New_run mem_Mem__Open) ▸ run_sound (gcons mem_Mem__Open_ent (mem_Mem__Open_sound) <| gnil) mixed Tryz.func97 (by kernel_rfl) _
   h
noncomputable def handles_New_c {O : Type} (k186 : Sm O) : Sm O := fun xs σ =>
 bif Nat.beq xs.length 1 then
 (AV.asP (xs.getD 0 .u)).bind fun p0 =>
 (k186 [(.p p0), J 3] σ).bind fun r1 =>
 (AV.asTup 2 r1.1).bind fun c2 =>
 (AV.asP (c2.getD 0 .u)).bind fun p3 =>
 I6 c2 1 fun n4 => (bif ((n4 : Int) != 0) then
 none
 else let σ5 := r1.2.bump 1
 let σ6 := σ5.put r1.2.next (.cells true 304 [(.p p3), J 0, J 0, J 0])
 some ((.tup [(.p (some ((.n r1.2.next), 0))), J 0]), σ6))
 else none
noncomputable def handles_New {O : Type} : Sm O := handles_New_c pool_New
theorem handles_New_ent : Entered Tryz.prog 98 := Tryz.call98
theorem handles_New_run {O : Type} (k186 : Sm O) : run (O := O) Tryz.prog [(186, k186)] Tryz.f98 (.n .z (.n .z (.n (.n .z (.n .x .z)) .z))) = handles_New_c k186 := by kernel_rfl
theorem handles_New_sound {O : Type} {RO : O → Loc → (Nat → Option Obj) → Prop} : FSound RO Tryz.prog 98 (handles_New) :=
   have h : FSound RO Tryz.prog 98 (handles_New_c pool_New) := (handles_New_run pool_New) ▸ run_sound (gcons pool_New_ent (pool_New_sound) <| gnil) mixed Tryz.func98 (by kernel_rfl) _
   h
noncomputable def roots_New_c {O : Type} (k97 k98 : Sm O) : Sm O := fun xs σ =>
 bif Nat.beq xs.length 1 then
 (AV.asP (xs.getD 0 .u)).bind fun p0 =>
 (k97 [(.p p0)] σ).bind fun r1 =>
 (AV.asTup 2 r1.1).bind fun c2 =>
 (AV.asP (c2.getD 0 .u)).bind fun p3 =>
 I6 c2 1 fun n4 => (bif ((n4 : Int) != 0) then
 none
 else (k98 [(.p p0)] r1.2).bind fun r5 =>
 (AV.asTup 2 r5.1).bind fun c6 =>
 (AV.asP (c6.getD 0 .u)).bind fun p7 =>
 I6 c6 1 fun n8 => (bif ((n8 : Int) != 0) then
 none
 else (k98 [(.p p0)] r5.2).bind fun r9 =>
 (AV.asTup 2 r9.1).bind fun c10 =>
 (AV.asP (c10.getD 0 .u)).bind fun p11 =>
 I6 c10 1 fun n12 => (bif ((n12 : Int) != 0) then
 none
 else let σ13 := r9.2.bump 1
 let σ14 := σ13.put r9.2.next (.cells true 221 [(.p p3), (.p p7), (.p p11)])
 some ((.tup [(.p (some ((.n r9.2.next), 0))), J 0]), σ14))))
 else none
noncomputable def roots_New {O : Type} : Sm O := roots_New_c frames_New handles_New
theorem roots_New_ent : Entered Tryz.prog 52 := Tryz.call52
theorem roots_New_run {O : Type} (k97 k98 : Sm O) : run (O := O) Tryz.prog [(97, k97), (98, k98)] Tryz.f52 (.n .z (.n .z (.n (.n .z (.n .x .z)) (.n .z (.n (.n .z (.n .x .z)) (.n .z (.n (.n .z (.n .x .z)) .z))))))) = roots_New_c k97 k98 := by kernel_rfl
theorem roots_New_sound {O : Type} {RO : O → Loc → (Nat → Option Obj) → Prop} : FSound RO Tryz.prog 52 (roots_New) :=
   have h : FSound RO Tryz.prog 52 (roots_New_c frames_New handles_New) := (roots_New_run frames_New handles_New) ▸ run_sound (gcons frames_New_ent (frames_New_sound) <| gcons handles_New_ent (handles_New_sound) <| gnil) mixed Tryz.func52 (by kernel_rfl) _
   h
noncomputable def control_Begin_c {O : Type} : Sm O := fun xs σ =>
 bif Nat.beq xs.length 1 then
 (AV.asAgg 5 (xs.getD 0 .u)).bind fun c0 =>
 I6 c0 0 fun n1 => I6 c0 1 fun n2 => I6 c0 2 fun n3 => I6 c0 3 fun n4 => I6 c0 4 fun n5 => let σ6 := σ.bump 2
 let σ7 := σ6.put σ.next (.cells true 46 [J n1, J n2, J n3, J n4, J n5])
 let σ8 := σ7.put (σ.next + 1) (.cells true 72 [J 0, J 0])
 (σ8.ld (.n σ.next) 1).bind fun w9 =>
 (AV.asI .i64 w9).bind fun n10 =>
 (σ8.st (.n (σ.next + 1)) 0 [J n10, J 0]).bind fun σ11 =>
 (σ11.ld (.n (σ.next + 1)) 0).bind fun w12 =>
 (AV.asI .i64 w12).bind fun n13 =>
 (σ11.ld (.n (σ.next + 1)) 1).bind fun w14 =>
 (AV.asI .i64 w14).bind fun n15 =>
 some ((.agg [J n13, J n15]), σ11)
 else none
noncomputable def control_Begin {O : Type} : Sm O := control_Begin_c
theorem control_Begin_ent : Entered Tryz.prog 53 := Tryz.call53
theorem control_Begin_run {O : Type} : run (O := O) Tryz.prog [] Tryz.f53 (.n .z .z) = control_Begin_c  := by kernel_rfl
theorem control_Begin_sound {O : Type} {RO : O → Loc → (Nat → Option Obj) → Prop} : FSound RO Tryz.prog 53 (control_Begin) :=
   have h : FSound RO Tryz.prog 53 (control_Begin_c) := (control_Begin_run) ▸ run_sound (gnil) mixed Tryz.func53 (by kernel_rfl) _
   h
noncomputable def gate_New_p {O : Type} (w : Words O) (k50 k53 : Sm O) : Sm O := fun xs σ =>
 bif Nat.beq xs.length 1 then
 (AV.asAgg 5 (xs.getD 0 .u)).bind fun c0 =>
 I6 c0 0 fun n1 => I6 c0 1 fun n2 => I6 c0 2 fun n3 => I6 c0 3 fun n4 => I6 c0 4 fun n5 => let σ6 := σ.bump 2
 let σ7 := σ6.put σ.next (.cells true 46 [J n1, J n2, J n3, J n4, J n5])
 let σ8 := σ7.put (σ.next + 1) (.cells true 74 P0)
 (σ8.ld (.n σ.next) 0).bind fun w9 =>
 (AV.asI .i64 w9).bind fun n10 =>
 (σ8.ld (.n σ.next) 1).bind fun w11 =>
 (AV.asI .i64 w11).bind fun n12 =>
 (σ8.ld (.n σ.next) 2).bind fun w13 =>
 (AV.asI .i64 w13).bind fun n14 =>
 (σ8.ld (.n σ.next) 3).bind fun w15 =>
 (AV.asI .i64 w15).bind fun n16 =>
 (σ8.ld (.n σ.next) 4).bind fun w17 =>
 (AV.asI .i64 w17).bind fun n18 =>
 (k50 [(.agg [J n10, J n12, J n14, J n16, J n18])] σ8).bind fun r19 =>
 (AV.asB r19.1).bind fun b20 =>
 (bif (!b20) then
 none
 else (r19.2.ld (.n σ.next) 0).bind fun w21 =>
 (AV.asI .i64 w21).bind fun n22 =>
 (r19.2.ld (.n σ.next) 1).bind fun w23 =>
 (AV.asI .i64 w23).bind fun n24 =>
 (r19.2.ld (.n σ.next) 2).bind fun w25 =>
 (AV.asI .i64 w25).bind fun n26 =>
 (r19.2.ld (.n σ.next) 3).bind fun w27 =>
 (AV.asI .i64 w27).bind fun n28 =>
 (r19.2.ld (.n σ.next) 4).bind fun w29 =>
 (AV.asI .i64 w29).bind fun n30 =>
 (r19.2.ld (.n σ.next) 0).bind fun w31 =>
 (AV.asI .i64 w31).bind fun n32 =>
 (r19.2.ld (.n σ.next) 1).bind fun w33 =>
 (AV.asI .i64 w33).bind fun n34 =>
 (r19.2.ld (.n σ.next) 2).bind fun w35 =>
 (AV.asI .i64 w35).bind fun n36 =>
 (r19.2.ld (.n σ.next) 3).bind fun w37 =>
 (AV.asI .i64 w37).bind fun n38 =>
 (r19.2.ld (.n σ.next) 4).bind fun w39 =>
 (AV.asI .i64 w39).bind fun n40 =>
 (k53 [(.agg [J n32, J n34, J n36, J n38, J n40])] r19.2).bind fun r41 =>
 (AV.asAgg 2 r41.1).bind fun c42 =>
 I6 c42 0 fun n43 => I6 c42 1 fun n44 => (chkE (r41.2.ld (.n σ.next) 0) (some (.i .i64 n22))).bind fun _ =>
 (chkE (r41.2.ld (.n σ.next) 1) (some (.i .i64 n24))).bind fun _ =>
 (chkE (r41.2.ld (.n σ.next) 2) (some (.i .i64 n26))).bind fun _ =>
 (chkE (r41.2.ld (.n σ.next) 3) (some (.i .i64 n28))).bind fun _ =>
 (chkE (r41.2.ld (.n σ.next) 4) (some (.i .i64 n30))).bind fun _ =>
 (r41.2.st (.n (σ.next + 1)) 0 (P1 n22 n24 n26 n28 n30 n43 n44 0)).bind fun σ45 =>
 w.W0 σ45 (.n (σ.next + 1)) 0 fun n47 n49 n51 n53 n55 n57 n59 n61 =>
 some ((.tup [(.agg (P1 n47 n49 n51 n53 n55 n57 n59 n61)), J 0]), σ45))
 else none
noncomputable def gate_New_c {O : Type} (k50 k53 : Sm O) : Sm O := gate_New_p fastWords k50 k53
noncomputable def gate_New {O : Type} : Sm O := gate_New_c control_Right control_Begin
theorem gate_New_ent : Entered Tryz.prog 28 := Tryz.call28
theorem gate_New_run {O : Type} (k50 k53 : Sm O) : run (O := O) Tryz.prog [(50, k50), (53, k53)] Tryz.f28 (.n .z (.n (.n .z (.n .x .z)) (.n (.d [] [0, 1, 2, 3, 4, 5] [0, 0, 2, 7, 15, 31]) .z))) = gate_New_c k50 k53 :=
 (show run (O := O) Tryz.prog [(50, k50), (53, k53)] Tryz.f28 (.n .z (.n (.n .z (.n .x .z)) (.n (.d [] [0, 1, 2, 3, 4, 5] [0, 0, 2, 7, 15, 31]) .z))) = gate_New_p slowWords k50 k53 by kernel_rfl).trans (congrArg (fun w => gate_New_p w k50 k53) words_eq)
theorem gate_New_sound {O : Type} {RO : O → Loc → (Nat → Option Obj) → Prop} : FSound RO Tryz.prog 28 (gate_New) :=
   have h : FSound RO Tryz.prog 28 (gate_New_c control_Right control_Begin) := (gate_New_run control_Right control_Begin) ▸ run_sound (gcons control_Right_ent (control_Right_sound) <| gcons control_Begin_ent (control_Begin_sound) <| gnil) mixed Tryz.func28 (by kernel_rfl) _
   h
noncomputable def sites_New_c {O : Type} : Sm O := fun xs σ =>
 bif Nat.beq xs.length 1 then
 (AV.asI .i64 (xs.getD 0 .u)).bind fun n0 =>
 ((bif ((decide (n0 < 1)) == false) then
 some ([(.b (decide (n0 > 32)))], σ)
 else some ([(.b true)], σ)) : Option (List AV × AH O)).bind fun r1 =>
 (AV.asB (r1.1.getD 0 .u)).bind fun b2 =>
 (bif b2 then
 none
 else let σ3 := r1.2.bump 1
 let σ4 := σ3.put r1.2.next (.cells true 155 (P2 n0 0 0 0 0 0 0 0 0 0 0 0 0 0 0 0 0 0 0 0 0 0 0 0 0 0 0 0 0 0 0 0 0 0 0 0 0 0 0 0 0 0 0 0 0 0 0 0 0 0 0 0 0 0 0 0 0 0 0 0 0 0 0 0 0))
 some ((.tup [(.p (some ((.n r1.2.next), 0))), J 0]), σ4))
 else none
noncomputable def sites_New {O : Type} : Sm O := sites_New_c
theorem sites_New_ent : Entered Tryz.prog 29 := Tryz.call29
theorem sites_New_run {O : Type} : run (O := O) Tryz.prog [] Tryz.f29 (.n .z (.n (.n (.g [(2, 2, [(9, .one .b)])]) (.n .x .z)) .z)) = sites_New_c  := by kernel_rfl
theorem sites_New_sound {O : Type} {RO : O → Loc → (Nat → Option Obj) → Prop} : FSound RO Tryz.prog 29 (sites_New) :=
   have h : FSound RO Tryz.prog 29 (sites_New_c) := (sites_New_run) ▸ run_sound (gnil) mixed Tryz.func29 (by kernel_rfl) _
   h
noncomputable def survive_New_c {O : Type} : Sm O := fun xs σ =>
 bif Nat.beq xs.length 0 then
 let σ0 := σ.bump 1
 let σ1 := σ0.put σ.next (.cells true 165 P3)
 some ((.p (some ((.n σ.next), 0))), σ1)
 else none
noncomputable def survive_New {O : Type} : Sm O := survive_New_c
theorem survive_New_ent : Entered Tryz.prog 32 := Tryz.call32
theorem survive_New_run {O : Type} : run (O := O) Tryz.prog [] Tryz.f32 (.n .z .z) = survive_New_c  := by kernel_rfl
theorem survive_New_sound {O : Type} {RO : O → Loc → (Nat → Option Obj) → Prop} : FSound RO Tryz.prog 32 (survive_New) :=
   have h : FSound RO Tryz.prog 32 (survive_New_c) := (survive_New_run) ▸ run_sound (gnil) mixed Tryz.func32 (by kernel_rfl) _
   h
noncomputable def census_New_c {O : Type} : Sm O := fun xs σ =>
 bif Nat.beq xs.length 0 then
 let σ0 := σ.bump 2
 let σ1 := σ0.put σ.next (.map [] [] 0)
 let σ2 := σ1.put (σ.next + 1) (.cells true 168 [(.mp (some σ.next))])
 some ((.p (some ((.n (σ.next + 1)), 0))), σ2)
 else none
noncomputable def census_New {O : Type} : Sm O := census_New_c
theorem census_New_ent : Entered Tryz.prog 33 := Tryz.call33
theorem census_New_run {O : Type} : run (O := O) Tryz.prog [] Tryz.f33 (.n .z .z) = census_New_c  := by kernel_rfl
theorem census_New_sound {O : Type} {RO : O → Loc → (Nat → Option Obj) → Prop} : FSound RO Tryz.prog 33 (census_New) :=
   have h : FSound RO Tryz.prog 33 (census_New_c) := (census_New_run) ▸ run_sound (gnil) mixed Tryz.func33 (by kernel_rfl) _
   h
noncomputable def heap_New_p {O : Type} (w : Words O) (k26 k51 k35 k52 k28 k29 k32 k33 : Sm O) : Sm O := fun xs σ =>
 bif Nat.beq xs.length 1 then
 (AV.asAgg 5 (xs.getD 0 .u)).bind fun c0 =>
 I6 c0 0 fun n1 => I6 c0 1 fun n2 => I6 c0 2 fun n3 => I6 c0 3 fun n4 => I6 c0 4 fun n5 => let σ6 := σ.bump 1
 let σ7 := σ6.put σ.next (.cells true 46 [J n1, J n2, J n3, J n4, J n5])
 (σ7.ld (.n σ.next) 0).bind fun w8 =>
 (AV.asI .i64 w8).bind fun n9 =>
 (σ7.ld (.n σ.next) 1).bind fun w10 =>
 (AV.asI .i64 w10).bind fun n11 =>
 (σ7.ld (.n σ.next) 2).bind fun w12 =>
 (AV.asI .i64 w12).bind fun n13 =>
 (σ7.ld (.n σ.next) 3).bind fun w14 =>
 (AV.asI .i64 w14).bind fun n15 =>
 (σ7.ld (.n σ.next) 4).bind fun w16 =>
 (AV.asI .i64 w16).bind fun n17 =>
 (k26 [(.agg [J n9, J n11, J n13, J n15, J n17])] σ7).bind fun r18 =>
 (AV.asI .i64 r18.1).bind fun n19 =>
 (bif ((n19 : Int) != 0) then
 none
 else (r18.2.ld (.n σ.next) 2).bind fun w20 =>
 (AV.asI .i64 w20).bind fun n21 =>
 (r18.2.ld (.n σ.next) 1).bind fun w22 =>
 (AV.asI .i64 w22).bind fun n23 =>
 (k51 [J n21, J n23] r18.2).bind fun r24 =>
 (AV.asTup 2 r24.1).bind fun c25 =>
 (AV.asP (c25.getD 0 .u)).bind fun p26 =>
 I6 c25 1 fun n27 => (bif ((n27 : Int) != 0) then
 none
 else (k35 [(.p p26)] r24.2).bind fun r28 =>
 (AV.asP r28.1).bind fun p29 =>
 (k52 [(.p p29)] r28.2).bind fun r30 =>
 (AV.asTup 2 r30.1).bind fun c31 =>
 (AV.asP (c31.getD 0 .u)).bind fun p32 =>
 I6 c31 1 fun n33 => (bif ((n33 : Int) != 0) then
 none
 else let σ34 := r30.2.bump 1
 (σ34.ld (.n σ.next) 0).bind fun w35 =>
 (AV.asI .i64 w35).bind fun n36 =>
 (σ34.ld (.n σ.next) 1).bind fun w37 =>
 (AV.asI .i64 w37).bind fun n38 =>
 (σ34.ld (.n σ.next) 2).bind fun w39 =>
 (AV.asI .i64 w39).bind fun n40 =>
 (σ34.ld (.n σ.next) 3).bind fun w41 =>
 (AV.asI .i64 w41).bind fun n42 =>
 (σ34.ld (.n σ.next) 4).bind fun w43 =>
 (AV.asI .i64 w43).bind fun n44 =>
 (k28 [(.agg [J n36, J n38, J n40, J n42, J n44])] σ34).bind fun r45 =>
 (AV.asTup 2 r45.1).bind fun c46 =>
 (AV.asAgg 8 (c46.getD 0 .u)).bind fun c47 =>
 w.U0 c47 fun n48 n49 n50 n51 n52 n53 n54 n55 =>
 I6 c46 1 fun n56 => let σ57 := r45.2.put r30.2.next (.cells true 74 P0)
 (σ57.st (.n r30.2.next) 0 (P1 n48 n49 n50 n51 n52 n53 n54 n55)).bind fun σ58 =>
 (bif ((n56 : Int) != 0) then
 none
 else (σ58.ld (.n σ.next) 3).bind fun w59 =>
 (AV.asI .i64 w59).bind fun n60 =>
 (k29 [J n60] σ58).bind fun r61 =>
 (AV.asTup 2 r61.1).bind fun c62 =>
 (AV.asP (c62.getD 0 .u)).bind fun p63 =>
 I6 c62 1 fun n64 => (bif ((n64 : Int) != 0) then
 none
 else let σ65 := r61.2.bump 1
 (σ65.ld (.n σ.next) 0).bind fun w66 =>
 (AV.asI .i64 w66).bind fun n67 =>
 (σ65.ld (.n σ.next) 1).bind fun w68 =>
 (AV.asI .i64 w68).bind fun n69 =>
 (σ65.ld (.n σ.next) 2).bind fun w70 =>
 (AV.asI .i64 w70).bind fun n71 =>
 (σ65.ld (.n σ.next) 3).bind fun w72 =>
 (AV.asI .i64 w72).bind fun n73 =>
 (σ65.ld (.n σ.next) 4).bind fun w74 =>
 (AV.asI .i64 w74).bind fun n75 =>
 w.W0 σ65 (.n r30.2.next) 0 fun n77 n79 n81 n83 n85 n87 n89 n91 =>
 (k32 [] σ65).bind fun r92 =>
 (AV.asP r92.1).bind fun p93 =>
 (chkE (r92.2.ld (.n σ.next) 0) (some (.i .i64 n67))).bind fun _ =>
 (chkE (r92.2.ld (.n σ.next) 1) (some (.i .i64 n69))).bind fun _ =>
 (chkE (r92.2.ld (.n σ.next) 2) (some (.i .i64 n71))).bind fun _ =>
 (chkE (r92.2.ld (.n σ.next) 3) (some (.i .i64 n73))).bind fun _ =>
 (chkE (r92.2.ld (.n σ.next) 4) (some (.i .i64 n75))).bind fun _ =>
 (chkE (r92.2.ld (.n r30.2.next) 0) (some (.i .i64 n77))).bind fun _ =>
 (chkE (r92.2.ld (.n r30.2.next) 1) (some (.i .i64 n79))).bind fun _ =>
 (chkE (r92.2.ld (.n r30.2.next) 2) (some (.i .i64 n81))).bind fun _ =>
 (chkE (r92.2.ld (.n r30.2.next) 3) (some (.i .i64 n83))).bind fun _ =>
 (chkE (r92.2.ld (.n r30.2.next) 4) (some (.i .i64 n85))).bind fun _ =>
 (chkE (r92.2.ld (.n r30.2.next) 5) (some (.i .i64 n87))).bind fun _ =>
 (chkE (r92.2.ld (.n r30.2.next) 6) (some (.i .i64 n89))).bind fun _ =>
 (chkE (r92.2.ld (.n r30.2.next) 7) (some (.i .i64 n91))).bind fun _ =>
 let σ94 := r92.2.put r61.2.next (.cells true 148 [J n67, J n69, J n71, J n73, J n75, (.p p26), (.p p32), J n77, J n79, J n81, J n83, J n85, J n87, J n89, J n91, (.i .u64 0), (.i .u64 0), (.i .u64 0), (.i .u64 0), (.p p63), (.p p93), J 0, J 0, J 0, J 0, J 0, J 0, J 0, (.i .u64 0), (.i .u64 0), (.p none), J 0, J 0, J 0, J 0, J 0, J 0, J 0, J 0, J 0])
 (k33 [] σ94).bind fun r95 =>
 (AV.asP r95.1).bind fun p96 =>
 (r95.2.st (.n r61.2.next) 30 [(.p p96)]).bind fun σ97 =>
 some ((.tup [(.p (some ((.n r61.2.next), 0))), J 0]), σ97))))))
 else none
noncomputable def heap_New_c {O : Type} (k26 k51 k35 k52 k28 k29 k32 k33 : Sm O) : Sm O := heap_New_p fastWords k26 k51 k35 k52 k28 k29 k32 k33
noncomputable def heap_New {O : Type} : Sm O := heap_New_c config_Check store_New store_Store__Mem roots_New gate_New sites_New survive_New census_New
theorem heap_New_ent : Entered Tryz.prog 27 := Tryz.call27
theorem heap_New_run {O : Type} (k26 k51 k35 k52 k28 k29 k32 k33 : Sm O) : run (O := O) Tryz.prog [(26, k26), (51, k51), (35, k35), (52, k52), (28, k28), (29, k29), (32, k32), (33, k33)] Tryz.f27 (.n .z (.n (.n .z (.n .z (.n .x .z))) (.n .z (.n (.n .z (.n .x .z)) (.n .z (.n (.n .z (.n .x .z)) (.n .z (.n (.n .z (.n .x .z)) (.n .z (.n (.n .z (.n .x .z)) (.n (.d [] [0, 1, 2, 3, 4, 5, 6, 7, 8] [0, 0, 0, 0, 0, 0, 63, 127, 255]) (.n .z .z)))))))))))) = heap_New_c k26 k51 k35 k52 k28 k29 k32 k33 :=
 (show run (O := O) Tryz.prog [(26, k26), (51, k51), (35, k35), (52, k52), (28, k28), (29, k29), (32, k32), (33, k33)] Tryz.f27 (.n .z (.n (.n .z (.n .z (.n .x .z))) (.n .z (.n (.n .z (.n .x .z)) (.n .z (.n (.n .z (.n .x .z)) (.n .z (.n (.n .z (.n .x .z)) (.n .z (.n (.n .z (.n .x .z)) (.n (.d [] [0, 1, 2, 3, 4, 5, 6, 7, 8] [0, 0, 0, 0, 0, 0, 63, 127, 255]) (.n .z .z)))))))))))) = heap_New_p slowWords k26 k51 k35 k52 k28 k29 k32 k33 by kernel_rfl).trans (congrArg (fun w => heap_New_p w k26 k51 k35 k52 k28 k29 k32 k33) words_eq)
theorem heap_New_sound {O : Type} {RO : O → Loc → (Nat → Option Obj) → Prop} : FSound RO Tryz.prog 27 (heap_New) :=
   have h : FSound RO Tryz.prog 27 (heap_New_c config_Check store_New store_Store__Mem roots_New gate_New sites_New survive_New census_New) := (heap_New_run config_Check store_New store_Store__Mem roots_New gate_New sites_New survive_New census_New) ▸ run_sound (gcons config_Check_ent (config_Check_sound) <| gcons store_New_ent (store_New_sound) <| gcons store_Store__Mem_ent (store_Store__Mem_sound) <| gcons roots_New_ent (roots_New_sound) <| gcons gate_New_ent (gate_New_sound) <| gcons sites_New_ent (sites_New_sound) <| gcons survive_New_ent (survive_New_sound) <| gcons census_New_ent (census_New_sound) <| gnil) mixed Tryz.func27 (by kernel_rfl) _
   h
noncomputable def service_New_c {O : Type} (k16 k27 : Sm O) : Sm O := fun xs σ =>
 bif Nat.beq xs.length 1 then
 (AV.asSl (xs.getD 0 .u)).bind fun l0 =>
 let σ1 := σ.bump 1
 (k16 [L l0] σ1).bind fun r2 =>
 (AV.asTup 2 r2.1).bind fun c3 =>
 (AV.asAgg 5 (c3.getD 0 .u)).bind fun c4 =>
 I6 c4 0 fun n5 => I6 c4 1 fun n6 => I6 c4 2 fun n7 => I6 c4 3 fun n8 => I6 c4 4 fun n9 => I6 c3 1 fun n10 => let σ11 := r2.2.put σ.next (.cells true 46 [J 0, J 0, J 0, J 0, J 0])
 (σ11.st (.n σ.next) 0 [J n5, J n6, J n7, J n8, J n9]).bind fun σ12 =>
 (bif ((n10 : Int) != 0) then
 none
 else (σ12.ld (.n σ.next) 0).bind fun w13 =>
 (AV.asI .i64 w13).bind fun n14 =>
 (σ12.ld (.n σ.next) 1).bind fun w15 =>
 (AV.asI .i64 w15).bind fun n16 =>
 (σ12.ld (.n σ.next) 2).bind fun w17 =>
 (AV.asI .i64 w17).bind fun n18 =>
 (σ12.ld (.n σ.next) 3).bind fun w19 =>
 (AV.asI .i64 w19).bind fun n20 =>
 (σ12.ld (.n σ.next) 4).bind fun w21 =>
 (AV.asI .i64 w21).bind fun n22 =>
 (k27 [(.agg [J n14, J n16, J n18, J n20, J n22])] σ12).bind fun r23 =>
 (AV.asTup 2 r23.1).bind fun c24 =>
 (AV.asP (c24.getD 0 .u)).bind fun p25 =>
 I6 c24 1 fun n26 => (bif ((n26 : Int) != 0) then
 none
 else let σ27 := r23.2.bump 1
 let σ28 := σ27.put r23.2.next (.cells true 70 [(.p p25)])
 some ((.tup [(.p (some ((.n r23.2.next), 0))), J 0]), σ28)))
 else none
noncomputable def service_New {O : Type} : Sm O := service_New_c config_From heap_New
theorem service_New_ent : Entered Tryz.prog 17 := Tryz.call17
theorem service_New_run {O : Type} (k16 k27 : Sm O) : run (O := O) Tryz.prog [(16, k16), (27, k27)] Tryz.f17 (.n .z (.n .z (.n (.n .z (.n .x .z)) (.n .z (.n (.n .z (.n .x .z)) .z))))) = service_New_c k16 k27 := by kernel_rfl
theorem service_New_sound {O : Type} {RO : O → Loc → (Nat → Option Obj) → Prop} : FSound RO Tryz.prog 17 (service_New) :=
   have h : FSound RO Tryz.prog 17 (service_New_c config_From heap_New) := (service_New_run config_From heap_New) ▸ run_sound (gcons config_From_ent (config_From_sound) <| gcons heap_New_ent (heap_New_sound) <| gnil) mixed Tryz.func17 (by kernel_rfl) _
   h
noncomputable def service_said_c {O : Type} : Sm O := fun xs σ =>
 bif Nat.beq xs.length 2 then
 (AV.asI .i64 (xs.getD 0 .u)).bind fun n0 =>
 (AV.asSl (xs.getD 1 .u)).bind fun l1 =>
 let σ2 := σ.bump 1
 let σ3 := σ2.put σ.next (.cells true 43 [J 0, N])
 (bif ((n0 : Int) != 0) then
 none
 else (σ3.st (.n σ.next) 0 [J 0, L l1]).bind fun σ4 =>
 (σ4.ld (.n σ.next) 0).bind fun w5 =>
 (AV.asI .i64 w5).bind fun n6 =>
 (σ4.ld (.n σ.next) 1).bind fun w7 =>
 (AV.asSl w7).bind fun l8 =>
 some ((.agg [J n6, L l8]), σ4))
 else none
noncomputable def service_said {O : Type} : Sm O := service_said_c
theorem service_said_ent : Entered Tryz.prog 22 := Tryz.call22
theorem service_said_run {O : Type} : run (O := O) Tryz.prog [] Tryz.f22 (.n .z (.n (.n .z (.n .x .z)) .z)) = service_said_c  := by kernel_rfl
theorem service_said_sound {O : Type} {RO : O → Loc → (Nat → Option Obj) → Prop} : FSound RO Tryz.prog 22 (service_said) :=
   have h : FSound RO Tryz.prog 22 (service_said_c) := (service_said_run) ▸ run_sound (gnil) mixed Tryz.func22 (by kernel_rfl) _
   h
noncomputable def record_Is_c {O : Type} : Sm O := fun xs σ =>
 bif Nat.beq xs.length 1 then
 (AV.asI .i64 (xs.getD 0 .u)).bind fun n0 =>
 ((bif ((decide (n0 ≥ 0)) == true) then
 some ([(.b (decide (n0 < 21)))], σ)
 else some ([(.b false)], σ)) : Option (List AV × AH O)).bind fun r1 =>
 (AV.asB (r1.1.getD 0 .u)).bind fun b2 =>
 some ((.b b2), r1.2)
 else none
noncomputable def record_Is {O : Type} : Sm O := record_Is_c
theorem record_Is_ent : Entered Tryz.prog 75 := Tryz.call75
theorem record_Is_run {O : Type} : run (O := O) Tryz.prog [] Tryz.f75 (.n .z (.n (.g [(2, 2, [(8, .one .b)])]) .z)) = record_Is_c  := by kernel_rfl
theorem record_Is_sound {O : Type} {RO : O → Loc → (Nat → Option Obj) → Prop} : FSound RO Tryz.prog 75 (record_Is) :=
   have h : FSound RO Tryz.prog 75 (record_Is_c) := (record_Is_run) ▸ run_sound (gnil) mixed Tryz.func75 (by kernel_rfl) _
   h
noncomputable def record_forms_c {O : Type} : Sm O := fun xs σ =>
 bif Nat.beq xs.length 0 then
 let σ0 := σ.bump 1
 let σ1 := σ0.put σ.next (.cells true 259 [(.s ([] : List UInt8)), J 0, (.s ([] : List UInt8)), J 0, (.s ([] : List UInt8)), J 0, (.s ([] : List UInt8)), J 0, (.s ([] : List UInt8)), J 0, (.s ([] : List UInt8)), J 0, (.s ([] : List UInt8)), J 0, (.s ([] : List UInt8)), J 0, (.s ([] : List UInt8)), J 0, (.s ([] : List UInt8)), J 0, (.s ([] : List UInt8)), J 0, (.s ([] : List UInt8)), J 0, (.s ([] : List UInt8)), J 0, (.s ([] : List UInt8)), J 0, (.s ([] : List UInt8)), J 0, (.s ([] : List UInt8)), J 0, (.s ([] : List UInt8)), J 0, (.s ([] : List UInt8)), J 0, (.s ([] : List UInt8)), J 0, (.s ([] : List UInt8)), J 0, (.s ([] : List UInt8)), J 0])
 (σ1.st (.n σ.next) 0 [(.s ([97, 108, 108, 111, 99] : List UInt8)), J 4, (.s ([103, 108, 111, 98, 97, 108] : List UInt8)), J 0, (.s ([114, 101, 108, 101, 97, 115, 101] : List UInt8)), J 1, (.s ([112, 117, 115, 104] : List UInt8)), J 1, (.s ([112, 111, 112] : List UInt8)), J 0, (.s ([119, 101, 97, 107] : List UInt8)), J 1, (.s ([117, 110, 119, 101, 97, 107] : List UInt8)), J 1, (.s ([100, 101, 114, 101, 102] : List UInt8)), J 2, (.s ([99, 111, 112, 121] : List UInt8)), J 2, (.s ([110, 117, 108, 108] : List UInt8)), J 1, (.s ([108, 111, 97, 100] : List UInt8)), J 3, (.s ([115, 116, 111, 114, 101] : List UInt8)), J 3, (.s ([103, 101, 116] : List UInt8)), J 2, (.s ([115, 101, 116] : List UInt8)), J 3, (.s ([115, 97, 109, 101] : List UInt8)), J 2, (.s ([115, 105, 122, 101] : List UInt8)), J 1, (.s ([97, 103, 101] : List UInt8)), J 1, (.s ([99, 111, 108, 108, 101, 99, 116] : List UInt8)), J 0, (.s ([115, 116, 97, 116, 115] : List UInt8)), J 0, (.s ([99, 101, 110, 115, 117, 115] : List UInt8)), J 0, (.s ([112, 114, 111, 102, 105, 108, 101] : List UInt8)), J 0]).bind fun σ2 =>
 (σ2.ld (.n σ.next) 0).bind fun w3 =>
 (AV.asS w3).bind fun s4 =>
 (σ2.ld (.n σ.next) 1).bind fun w5 =>
 (AV.asI .i64 w5).bind fun n6 =>
 (σ2.ld (.n σ.next) 2).bind fun w7 =>
 (AV.asS w7).bind fun s8 =>
 (σ2.ld (.n σ.next) 3).bind fun w9 =>
 (AV.asI .i64 w9).bind fun n10 =>
 (σ2.ld (.n σ.next) 4).bind fun w11 =>
 (AV.asS w11).bind fun s12 =>
 (σ2.ld (.n σ.next) 5).bind fun w13 =>
 (AV.asI .i64 w13).bind fun n14 =>
 (σ2.ld (.n σ.next) 6).bind fun w15 =>
 (AV.asS w15).bind fun s16 =>
 (σ2.ld (.n σ.next) 7).bind fun w17 =>
 (AV.asI .i64 w17).bind fun n18 =>
 (σ2.ld (.n σ.next) 8).bind fun w19 =>
 (AV.asS w19).bind fun s20 =>
 (σ2.ld (.n σ.next) 9).bind fun w21 =>
 (AV.asI .i64 w21).bind fun n22 =>
 (σ2.ld (.n σ.next) 10).bind fun w23 =>
 (AV.asS w23).bind fun s24 =>
 (σ2.ld (.n σ.next) 11).bind fun w25 =>
 (AV.asI .i64 w25).bind fun n26 =>
 (σ2.ld (.n σ.next) 12).bind fun w27 =>
 (AV.asS w27).bind fun s28 =>
 (σ2.ld (.n σ.next) 13).bind fun w29 =>
 (AV.asI .i64 w29).bind fun n30 =>
 (σ2.ld (.n σ.next) 14).bind fun w31 =>
 (AV.asS w31).bind fun s32 =>
 (σ2.ld (.n σ.next) 15).bind fun w33 =>
 (AV.asI .i64 w33).bind fun n34 =>
 (σ2.ld (.n σ.next) 16).bind fun w35 =>
 (AV.asS w35).bind fun s36 =>
 (σ2.ld (.n σ.next) 17).bind fun w37 =>
 (AV.asI .i64 w37).bind fun n38 =>
 (σ2.ld (.n σ.next) 18).bind fun w39 =>
 (AV.asS w39).bind fun s40 =>
 (σ2.ld (.n σ.next) 19).bind fun w41 =>
 (AV.asI .i64 w41).bind fun n42 =>
 (σ2.ld (.n σ.next) 20).bind fun w43 =>
 (AV.asS w43).bind fun s44 =>
 (σ2.ld (.n σ.next) 21).bind fun w45 =>
 (AV.asI .i64 w45).bind fun n46 =>
 (σ2.ld (.n σ.next) 22).bind fun w47 =>
 (AV.asS w47).bind fun s48 =>
 (σ2.ld (.n σ.next) 23).bind fun w49 =>
 (AV.asI .i64 w49).bind fun n50 =>
 (σ2.ld (.n σ.next) 24).bind fun w51 =>
 (AV.asS w51).bind fun s52 =>
 (σ2.ld (.n σ.next) 25).bind fun w53 =>
 (AV.asI .i64 w53).bind fun n54 =>
 (σ2.ld (.n σ.next) 26).bind fun w55 =>
 (AV.asS w55).bind fun s56 =>
 (σ2.ld (.n σ.next) 27).bind fun w57 =>
 (AV.asI .i64 w57).bind fun n58 =>
 (σ2.ld (.n σ.next) 28).bind fun w59 =>
 (AV.asS w59).bind fun s60 =>
 (σ2.ld (.n σ.next) 29).bind fun w61 =>
 (AV.asI .i64 w61).bind fun n62 =>
 (σ2.ld (.n σ.next) 30).bind fun w63 =>
 (AV.asS w63).bind fun s64 =>
 (σ2.ld (.n σ.next) 31).bind fun w65 =>
 (AV.asI .i64 w65).bind fun n66 =>
 (σ2.ld (.n σ.next) 32).bind fun w67 =>
 (AV.asS w67).bind fun s68 =>
 (σ2.ld (.n σ.next) 33).bind fun w69 =>
 (AV.asI .i64 w69).bind fun n70 =>
 (σ2.ld (.n σ.next) 34).bind fun w71 =>
 (AV.asS w71).bind fun s72 =>
 (σ2.ld (.n σ.next) 35).bind fun w73 =>
 (AV.asI .i64 w73).bind fun n74 =>
 (σ2.ld (.n σ.next) 36).bind fun w75 =>
 (AV.asS w75).bind fun s76 =>
 (σ2.ld (.n σ.next) 37).bind fun w77 =>
 (AV.asI .i64 w77).bind fun n78 =>
 (σ2.ld (.n σ.next) 38).bind fun w79 =>
 (AV.asS w79).bind fun s80 =>
 (σ2.ld (.n σ.next) 39).bind fun w81 =>
 (AV.asI .i64 w81).bind fun n82 =>
 (σ2.ld (.n σ.next) 40).bind fun w83 =>
 (AV.asS w83).bind fun s84 =>
 (σ2.ld (.n σ.next) 41).bind fun w85 =>
 (AV.asI .i64 w85).bind fun n86 =>
 some ((.agg [(.s s4), J n6, (.s s8), J n10, (.s s12), J n14, (.s s16), J n18, (.s s20), J n22, (.s s24), J n26, (.s s28), J n30, (.s s32), J n34, (.s s36), J n38, (.s s40), J n42, (.s s44), J n46, (.s s48), J n50, (.s s52), J n54, (.s s56), J n58, (.s s60), J n62, (.s s64), J n66, (.s s68), J n70, (.s s72), J n74, (.s s76), J n78, (.s s80), J n82, (.s s84), J n86]), σ2)
 else none
noncomputable def record_forms {O : Type} : Sm O := record_forms_c
theorem record_forms_ent : Entered Tryz.prog 131 := Tryz.call131
theorem record_forms_run {O : Type} : run (O := O) Tryz.prog [] Tryz.f131 (.n .z .z) = record_forms_c  := by kernel_rfl
theorem record_forms_sound {O : Type} {RO : O → Loc → (Nat → Option Obj) → Prop} : FSound RO Tryz.prog 131 (record_forms) :=
   have h : FSound RO Tryz.prog 131 (record_forms_c) := (record_forms_run) ▸ run_sound (gnil) mixed Tryz.func131 (by kernel_rfl) _
   h
noncomputable def record_Arity_c {O : Type} (k75 k131 : Sm O) : Sm O := fun xs σ =>
 bif Nat.beq xs.length 1 then
 (AV.asI .i64 (xs.getD 0 .u)).bind fun n0 =>
 (k75 [J n0] σ).bind fun r1 =>
 (AV.asB r1.1).bind fun b2 =>
 (bif (!b2) then
 none
 else (k131 [] r1.2).bind fun r3 =>
 (AV.asAgg 42 r3.1).bind fun c4 =>
 (AV.asS (c4.getD 0 .u)).bind fun s5 =>
 I6 c4 1 fun n6 => (AV.asS (c4.getD 2 .u)).bind fun s7 =>
 I6 c4 3 fun n8 => (AV.asS (c4.getD 4 .u)).bind fun s9 =>
 I6 c4 5 fun n10 => (AV.asS (c4.getD 6 .u)).bind fun s11 =>
 I6 c4 7 fun n12 => (AV.asS (c4.getD 8 .u)).bind fun s13 =>
 I6 c4 9 fun n14 => (AV.asS (c4.getD 10 .u)).bind fun s15 =>
 I6 c4 11 fun n16 => (AV.asS (c4.getD 12 .u)).bind fun s17 =>
 I6 c4 13 fun n18 => (AV.asS (c4.getD 14 .u)).bind fun s19 =>
 I6 c4 15 fun n20 => (AV.asS (c4.getD 16 .u)).bind fun s21 =>
 I6 c4 17 fun n22 => (AV.asS (c4.getD 18 .u)).bind fun s23 =>
 I6 c4 19 fun n24 => (AV.asS (c4.getD 20 .u)).bind fun s25 =>
 I6 c4 21 fun n26 => (AV.asS (c4.getD 22 .u)).bind fun s27 =>
 I6 c4 23 fun n28 => (AV.asS (c4.getD 24 .u)).bind fun s29 =>
 I6 c4 25 fun n30 => (AV.asS (c4.getD 26 .u)).bind fun s31 =>
 I6 c4 27 fun n32 => (AV.asS (c4.getD 28 .u)).bind fun s33 =>
 I6 c4 29 fun n34 => (AV.asS (c4.getD 30 .u)).bind fun s35 =>
 I6 c4 31 fun n36 => (AV.asS (c4.getD 32 .u)).bind fun s37 =>
 I6 c4 33 fun n38 => (AV.asS (c4.getD 34 .u)).bind fun s39 =>
 I6 c4 35 fun n40 => (AV.asS (c4.getD 36 .u)).bind fun s41 =>
 I6 c4 37 fun n42 => (AV.asS (c4.getD 38 .u)).bind fun s43 =>
 I6 c4 39 fun n44 => (AV.asS (c4.getD 40 .u)).bind fun s45 =>
 I6 c4 41 fun n46 => (bif ((decide ((0 : Int) ≤ n0)) && (decide (n0 < 21))) then
 (((([(.s s5), J n6, (.s s7), J n8, (.s s9), J n10, (.s s11), J n12, (.s s13), J n14, (.s s15), J n16, (.s s17), J n18, (.s s19), J n20, (.s s21), J n22, (.s s23), J n24, (.s s25), J n26, (.s s27), J n28, (.s s29), J n30, (.s s31), J n32, (.s s33), J n34, (.s s35), J n36, (.s s37), J n38, (.s s39), J n40, (.s s41), J n42, (.s s43), J n44, (.s s45), J n46] : List AV).drop (n0.toNat * 2)).take 2)[1]?).bind fun w47 =>
 (AV.asI .i64 w47).bind fun n48 =>
 some (J n48, r3.2)
 else none))
 else none
noncomputable def record_Arity {O : Type} : Sm O := record_Arity_c record_Is record_forms
theorem record_Arity_ent : Entered Tryz.prog 76 := Tryz.call76
theorem record_Arity_run {O : Type} (k75 k131 : Sm O) : run (O := O) Tryz.prog [(75, k75), (131, k131)] Tryz.f76 (.n .z (.n (.n .z (.n .x .z)) .z)) = record_Arity_c k75 k131 := by kernel_rfl
theorem record_Arity_sound {O : Type} {RO : O → Loc → (Nat → Option Obj) → Prop} : FSound RO Tryz.prog 76 (record_Arity) :=
   have h : FSound RO Tryz.prog 76 (record_Arity_c record_Is record_forms) := (record_Arity_run record_Is record_forms) ▸ run_sound (gcons record_Is_ent (record_Is_sound) <| gcons record_forms_ent (record_forms_sound) <| gnil) mixed Tryz.func76 (by kernel_rfl) _
   h
noncomputable def record_Parse_c {O : Type} (k75 k76 : Sm O) : Sm O := fun xs σ =>
 bif Nat.beq xs.length 1 then
 (AV.asSl (xs.getD 0 .u)).bind fun l0 =>
 let σ1 := σ.bump 1
 let σ2 := σ1.put σ.next (.cells true 131 [J 0, J 0, J 0, J 0, J 0])
 ((bif ((((l0.2 : Int) : Int) == 0) == false) then
 (bif (decide ((0 : Int) < (l0.2 : Int))) then
 (SA.ref l0.1).bind fun q3 =>
 (σ2.ld q3.1 q3.2).bind fun w4 =>
 (AV.asI .i64 w4).bind fun n5 =>
 (k75 [J n5] σ2).bind fun r6 =>
 (AV.asB r6.1).bind fun b7 =>
 some ([(.b (!b7))], r6.2)
 else none)
 else some ([(.b true)], σ2)) : Option (List AV × AH O)).bind fun r8 =>
 (AV.asB (r8.1.getD 0 .u)).bind fun b9 =>
 (bif b9 then
 none
 else let σ10 := r8.2.bump 1
 (bif (decide ((0 : Int) < (l0.2 : Int))) then
 (SA.ref l0.1).bind fun q11 =>
 (σ10.ld q11.1 q11.2).bind fun w12 =>
 (AV.asI .i64 w12).bind fun n13 =>
 let σ14 := σ10.put r8.2.next (.cells true 131 [J 0, J 0, J 0, J 0, J 0])
 (σ14.st (.n r8.2.next) 0 [J n13, J 0, J 0, J 0, J 0]).bind fun σ15 =>
 (σ15.ld (.n r8.2.next) 0).bind fun w16 =>
 (AV.asI .i64 w16).bind fun n17 =>
 (k76 [J n17] σ15).bind fun r18 =>
 (AV.asI .i64 r18.1).bind fun n19 =>
 let c20 : Bool := (((IntKind.i64.wrap ((l0.2 : Int) - 1)) : Int) != n19)
 (bif c20 then
 none
 else (bif ((decide ((1 : Int) ≤ (l0.2 : Int))) && (decide ((l0.2 : Int) ≤ (l0.2 : Int)))) then
 (SA.adv l0.1 1 1).bind fun a21 =>
 (bif Nat.beq (min ((l0.2 : Int).toNat - 1) (4 - 0)) 0 then
 (r18.2.ld (.n r8.2.next) 0).bind fun w25 =>
 (AV.asI .i64 w25).bind fun n26 =>
 (r18.2.ld (.n r8.2.next) 1).bind fun w27 =>
 (AV.asI .i64 w27).bind fun n28 =>
 (r18.2.ld (.n r8.2.next) 2).bind fun w29 =>
 (AV.asI .i64 w29).bind fun n30 =>
 (r18.2.ld (.n r8.2.next) 3).bind fun w31 =>
 (AV.asI .i64 w31).bind fun n32 =>
 (r18.2.ld (.n r8.2.next) 4).bind fun w33 =>
 (AV.asI .i64 w33).bind fun n34 =>
 (r18.2.st (.n σ.next) 0 [J n26, J n28, J n30, J n32, J n34]).bind fun σ35 =>
 (σ35.ld (.n σ.next) 0).bind fun w36 =>
 (AV.asI .i64 w36).bind fun n37 =>
 (σ35.ld (.n σ.next) 1).bind fun w38 =>
 (AV.asI .i64 w38).bind fun n39 =>
 (σ35.ld (.n σ.next) 2).bind fun w40 =>
 (AV.asI .i64 w40).bind fun n41 =>
 (σ35.ld (.n σ.next) 3).bind fun w42 =>
 (AV.asI .i64 w42).bind fun n43 =>
 (σ35.ld (.n σ.next) 4).bind fun w44 =>
 (AV.asI .i64 w44).bind fun n45 =>
 some ((.tup [(.agg [J n37, J n39, J n41, J n43, J n45]), J 0]), σ35)
 else
 (r18.2.rdSl a21 (min ((l0.2 : Int).toNat - 1) (4 - 0)) 1).bind fun c23 =>
 (r18.2.wrSl (.ar (.n r8.2.next) 1 1) c23).bind fun σ24 =>
 (σ24.ld (.n r8.2.next) 0).bind fun w46 =>
 (AV.asI .i64 w46).bind fun n47 =>
 (σ24.ld (.n r8.2.next) 1).bind fun w48 =>
 (AV.asI .i64 w48).bind fun n49 =>
 (σ24.ld (.n r8.2.next) 2).bind fun w50 =>
 (AV.asI .i64 w50).bind fun n51 =>
 (σ24.ld (.n r8.2.next) 3).bind fun w52 =>
 (AV.asI .i64 w52).bind fun n53 =>
 (σ24.ld (.n r8.2.next) 4).bind fun w54 =>
 (AV.asI .i64 w54).bind fun n55 =>
 (σ24.st (.n σ.next) 0 [J n47, J n49, J n51, J n53, J n55]).bind fun σ56 =>
 (σ56.ld (.n σ.next) 0).bind fun w57 =>
 (AV.asI .i64 w57).bind fun n58 =>
 (σ56.ld (.n σ.next) 1).bind fun w59 =>
 (AV.asI .i64 w59).bind fun n60 =>
 (σ56.ld (.n σ.next) 2).bind fun w61 =>
 (AV.asI .i64 w61).bind fun n62 =>
 (σ56.ld (.n σ.next) 3).bind fun w63 =>
 (AV.asI .i64 w63).bind fun n64 =>
 (σ56.ld (.n σ.next) 4).bind fun w65 =>
 (AV.asI .i64 w65).bind fun n66 =>
 some ((.tup [(.agg [J n58, J n60, J n62, J n64, J n66]), J 0]), σ56))
 else none))
 else none))
 else none
noncomputable def record_Parse {O : Type} : Sm O := record_Parse_c record_Is record_Arity
theorem record_Parse_ent : Entered Tryz.prog 46 := Tryz.call46
theorem record_Parse_run {O : Type} (k75 k76 : Sm O) : run (O := O) Tryz.prog [(75, k75), (76, k76)] Tryz.f46 (.n .z (.n (.n (.g [(3, 5, [(14, .one .b)])]) (.n .x .z)) (.n .z (.n (.n .z (.n .x .z)) (.n (.d [] [0, 1, 2, 3, 4] [0, 1, 0, 4, 15]) .z))))) = record_Parse_c k75 k76 := by kernel_rfl
theorem record_Parse_sound {O : Type} {RO : O → Loc → (Nat → Option Obj) → Prop} : FSound RO Tryz.prog 46 (record_Parse) :=
   have h : FSound RO Tryz.prog 46 (record_Parse_c record_Is record_Arity) := (record_Parse_run record_Is record_Arity) ▸ run_sound (gcons record_Is_ent (record_Is_sound) <| gcons record_Arity_ent (record_Arity_sound) <| gnil) mixed Tryz.func46 (by kernel_rfl) _
   h
noncomputable def frames_Frames__Words_c {O : Type} : Sm O := fun xs σ =>
 bif Nat.beq xs.length 1 then
 (AV.asP (xs.getD 0 .u)).bind fun p0 =>
 Option.bind p0 fun q1 =>
 (σ.ld q1.1 (q1.2 + 3)).bind fun w2 =>
 (AV.asI .i64 w2).bind fun n3 =>
 some (J n3, σ)
 else none
noncomputable def frames_Frames__Words {O : Type} : Sm O := frames_Frames__Words_c
theorem frames_Frames__Words_ent : Entered Tryz.prog 129 := Tryz.call129
theorem frames_Frames__Words_run {O : Type} : run (O := O) Tryz.prog [] Tryz.f129 (.n .z .z) = frames_Frames__Words_c  := by kernel_rfl
theorem frames_Frames__Words_sound {O : Type} {RO : O → Loc → (Nat → Option Obj) → Prop} : FSound RO Tryz.prog 129 (frames_Frames__Words) :=
   have h : FSound RO Tryz.prog 129 (frames_Frames__Words_c) := (frames_Frames__Words_run) ▸ run_sound (gnil) mixed Tryz.func129 (by kernel_rfl) _
   h
noncomputable def handles_Handles__Count_c {O : Type} : Sm O := fun xs σ =>
 bif Nat.beq xs.length 1 then
 (AV.asP (xs.getD 0 .u)).bind fun p0 =>
 Option.bind p0 fun q1 =>
 (σ.ld q1.1 ((q1.2 + 1) + 2)).bind fun w2 =>
 (AV.asI .i64 w2).bind fun n3 =>
 some (J n3, σ)
 else none
noncomputable def handles_Handles__Count {O : Type} : Sm O := handles_Handles__Count_c
theorem handles_Handles__Count_ent : Entered Tryz.prog 130 := Tryz.call130
theorem handles_Handles__Count_run {O : Type} : run (O := O) Tryz.prog [] Tryz.f130 (.n .z .z) = handles_Handles__Count_c  := by kernel_rfl
theorem handles_Handles__Count_sound {O : Type} {RO : O → Loc → (Nat → Option Obj) → Prop} : FSound RO Tryz.prog 130 (handles_Handles__Count) :=
   have h : FSound RO Tryz.prog 130 (handles_Handles__Count_c) := (handles_Handles__Count_run) ▸ run_sound (gnil) mixed Tryz.func130 (by kernel_rfl) _
   h
noncomputable def roots_Roots__Charge_c {O : Type} (k129 k130 : Sm O) : Sm O := fun xs σ =>
 bif Nat.beq xs.length 1 then
 (AV.asP (xs.getD 0 .u)).bind fun p0 =>
 Option.bind p0 fun q1 =>
 (σ.ld q1.1 q1.2).bind fun w2 =>
 (AV.asP w2).bind fun p3 =>
 Option.bind p0 fun q4 =>
 (σ.ld q4.1 (q4.2 + 1)).bind fun w5 =>
 (AV.asP w5).bind fun p6 =>
 Option.bind p0 fun q7 =>
 (σ.ld q7.1 (q7.2 + 2)).bind fun w8 =>
 (AV.asP w8).bind fun p9 =>
 (k129 [(.p p3)] σ).bind fun r10 =>
 (AV.asI .i64 r10.1).bind fun n11 =>
 (chkE (r10.2.ld q4.1 (q4.2 + 1)) (some (.p p6))).bind fun _ =>
 (chkE (r10.2.ld q7.1 (q7.2 + 2)) (some (.p p9))).bind fun _ =>
 (k130 [(.p p6)] r10.2).bind fun r12 =>
 (AV.asI .i64 r12.1).bind fun n13 =>
 (chkE (r12.2.ld q7.1 (q7.2 + 2)) (some (.p p9))).bind fun _ =>
 (k130 [(.p p9)] r12.2).bind fun r14 =>
 (AV.asI .i64 r14.1).bind fun n15 =>
 let v16 : Int := (IntKind.i64.wrap (4 * (IntKind.i64.wrap (n13 + n15))))
 some ((.i .i64 (IntKind.i64.wrap (n11 + v16))), r14.2)
 else none
noncomputable def roots_Roots__Charge {O : Type} : Sm O := roots_Roots__Charge_c frames_Frames__Words handles_Handles__Count
theorem roots_Roots__Charge_ent : Entered Tryz.prog 73 := Tryz.call73
theorem roots_Roots__Charge_run {O : Type} (k129 k130 : Sm O) : run (O := O) Tryz.prog [(129, k129), (130, k130)] Tryz.f73 (.n .z (.n (.d [] [0, 1, 2, 3, 5, 6, 7, 8, 10, 11, 12, 13, 4, 9, 14, 15, 16, 17, 18] [0, 1, 3, 7, 15, 0, 32, 96, 224, 511, 0, 1024, 3072, 7168, 16383, 32767, 65535, 131071, 262143]) .z)) = roots_Roots__Charge_c k129 k130 := by kernel_rfl
theorem roots_Roots__Charge_sound {O : Type} {RO : O → Loc → (Nat → Option Obj) → Prop} : FSound RO Tryz.prog 73 (roots_Roots__Charge) :=
   have h : FSound RO Tryz.prog 73 (roots_Roots__Charge_c frames_Frames__Words handles_Handles__Count) := (roots_Roots__Charge_run frames_Frames__Words handles_Handles__Count) ▸ run_sound (gcons frames_Frames__Words_ent (frames_Frames__Words_sound) <| gcons handles_Handles__Count_ent (handles_Handles__Count_sound) <| gnil) mixed Tryz.func73 (by kernel_rfl) _
   h
noncomputable def heap_Heap__used_c {O : Type} (k73 : Sm O) : Sm O := fun xs σ =>
 bif Nat.beq xs.length 1 then
 (AV.asP (xs.getD 0 .u)).bind fun p0 =>
 Option.bind p0 fun q1 =>
 (σ.ld q1.1 (q1.2 + 31)).bind fun w2 =>
 (AV.asI .i64 w2).bind fun n3 =>
 Option.bind p0 fun q4 =>
 (σ.ld q4.1 (q4.2 + 6)).bind fun w5 =>
 (AV.asP w5).bind fun p6 =>
 (k73 [(.p p6)] σ).bind fun r7 =>
 (AV.asI .i64 r7.1).bind fun n8 =>
 (chkE (r7.2.ld q1.1 (q1.2 + 31)) (some (.i .i64 n3))).bind fun _ =>
 some ((.i .i64 (IntKind.i64.wrap (n3 + n8))), r7.2)
 else none
noncomputable def heap_Heap__used {O : Type} : Sm O := heap_Heap__used_c roots_Roots__Charge
theorem heap_Heap__used_ent : Entered Tryz.prog 56 := Tryz.call56
theorem heap_Heap__used_run {O : Type} (k73 : Sm O) : run (O := O) Tryz.prog [(73, k73)] Tryz.f56 (.n .z (.n (.d [] [0, 1, 2, 3, 4, 5, 6, 7, 8, 9, 10] [0, 1, 3, 7, 0, 16, 48, 112, 240, 511, 1023]) .z)) = heap_Heap__used_c k73 := by kernel_rfl
theorem heap_Heap__used_sound {O : Type} {RO : O → Loc → (Nat → Option Obj) → Prop} : FSound RO Tryz.prog 56 (heap_Heap__used) :=
   have h : FSound RO Tryz.prog 56 (heap_Heap__used_c roots_Roots__Charge) := (heap_Heap__used_run roots_Roots__Charge) ▸ run_sound (gcons roots_Roots__Charge_ent (roots_Roots__Charge_sound) <| gnil) mixed Tryz.func56 (by kernel_rfl) _
   h
noncomputable def gate_over_c {O : Type} : Sm O := fun xs σ =>
 bif Nat.beq xs.length 3 then
 (AV.asI .i64 (xs.getD 0 .u)).bind fun n0 =>
 (AV.asI .i64 (xs.getD 1 .u)).bind fun n1 =>
 (AV.asI .i64 (xs.getD 2 .u)).bind fun n2 =>
 ((bif ((decide ((if 0 > n0 then 0 else n0) > n2)) == false) then
 let v3 : Int := (IntKind.i64.wrap (n2 - (if 0 > n0 then 0 else n0)))
 some ([(.b (decide ((if 0 > n1 then 0 else n1) > v3)))], σ)
 else some ([(.b true)], σ)) : Option (List AV × AH O)).bind fun r4 =>
 (AV.asB (r4.1.getD 0 .u)).bind fun b5 =>
 some ((.b b5), r4.2)
 else none
noncomputable def gate_over {O : Type} : Sm O := gate_over_c
theorem gate_over_ent : Entered Tryz.prog 308 := Tryz.call308
theorem gate_over_run {O : Type} : run (O := O) Tryz.prog [] Tryz.f308 (.n .z (.n .z (.n (.g [(3, 5, [(20, .one .b)])]) .z))) = gate_over_c  := by kernel_rfl
theorem gate_over_sound {O : Type} {RO : O → Loc → (Nat → Option Obj) → Prop} : FSound RO Tryz.prog 308 (gate_over) :=
   have h : FSound RO Tryz.prog 308 (gate_over_c) := (gate_over_run) ▸ run_sound (gnil) mixed Tryz.func308 (by kernel_rfl) _
   h
noncomputable def gate_Gate__Asks_p {O : Type} (w : Words O) (k308 : Sm O) : Sm O := fun xs σ =>
 bif Nat.beq xs.length 3 then
 (AV.asAgg 8 (xs.getD 0 .u)).bind fun c0 =>
 w.U0 c0 fun n1 n2 n3 n4 n5 n6 n7 n8 =>
 (AV.asI .i64 (xs.getD 1 .u)).bind fun n9 =>
 (AV.asI .i64 (xs.getD 2 .u)).bind fun n10 =>
 let σ11 := σ.bump 1
 let σ12 := σ11.put σ.next (.cells true 74 (P1 n1 n2 n3 n4 n5 n6 n7 n8))
 (σ12.ld (.n σ.next) 5).bind fun w13 =>
 (AV.asI .i64 w13).bind fun n14 =>
 (k308 [J n9, J n10, J n14] σ12).bind fun r15 =>
 (AV.asB r15.1).bind fun b16 =>
 some ((.b b16), r15.2)
 else none
noncomputable def gate_Gate__Asks_c {O : Type} (k308 : Sm O) : Sm O := gate_Gate__Asks_p fastWords k308
noncomputable def gate_Gate__Asks {O : Type} : Sm O := gate_Gate__Asks_c gate_over
theorem gate_Gate__Asks_ent : Entered Tryz.prog 250 := Tryz.call250
theorem gate_Gate__Asks_run {O : Type} (k308 : Sm O) : run (O := O) Tryz.prog [(308, k308)] Tryz.f250 (.n .z .z) = gate_Gate__Asks_c k308 :=
 (show run (O := O) Tryz.prog [(308, k308)] Tryz.f250 (.n .z .z) = gate_Gate__Asks_p slowWords k308 by kernel_rfl).trans (congrArg (fun w => gate_Gate__Asks_p w k308) words_eq)
theorem gate_Gate__Asks_sound {O : Type} {RO : O → Loc → (Nat → Option Obj) → Prop} : FSound RO Tryz.prog 250 (gate_Gate__Asks) :=
   have h : FSound RO Tryz.prog 250 (gate_Gate__Asks_c gate_over) := (gate_Gate__Asks_run gate_over) ▸ run_sound (gcons gate_over_ent (gate_over_sound) <| gnil) mixed Tryz.func250 (by kernel_rfl) _
   h
noncomputable def gate_Gate__Pressed_p {O : Type} (w : Words O) : Sm O := fun xs σ =>
 bif Nat.beq xs.length 1 then
 (AV.asAgg 8 (xs.getD 0 .u)).bind fun c0 =>
 w.U0 c0 fun n1 n2 n3 n4 n5 n6 n7 n8 =>
 let σ9 := σ.bump 1
 let σ10 := σ9.put σ.next (.cells true 74 (P1 n1 n2 n3 n4 n5 n6 n7 n8))
 (σ10.ld (.n σ.next) 7).bind fun w11 =>
 (AV.asI .i64 w11).bind fun n12 =>
 (σ10.ld (.n σ.next) 5).bind fun w13 =>
 (AV.asI .i64 w13).bind fun n14 =>
 let v15 : Int := (IntKind.i64.wrap (Int.tdiv (if 0 > n14 then 0 else n14) 2))
 some ((.b (decide (n12 > v15))), σ10)
 else none
noncomputable def gate_Gate__Pressed_c {O : Type} : Sm O := gate_Gate__Pressed_p fastWords 
noncomputable def gate_Gate__Pressed {O : Type} : Sm O := gate_Gate__Pressed_c
theorem gate_Gate__Pressed_ent : Entered Tryz.prog 251 := Tryz.call251
theorem gate_Gate__Pressed_run {O : Type} : run (O := O) Tryz.prog [] Tryz.f251 (.n .z .z) = gate_Gate__Pressed_c  :=
 (show run (O := O) Tryz.prog [] Tryz.f251 (.n .z .z) = gate_Gate__Pressed_p slowWords  by kernel_rfl).trans (congrArg (fun w => gate_Gate__Pressed_p w ) words_eq)
theorem gate_Gate__Pressed_sound {O : Type} {RO : O → Loc → (Nat → Option Obj) → Prop} : FSound RO Tryz.prog 251 (gate_Gate__Pressed) :=
   have h : FSound RO Tryz.prog 251 (gate_Gate__Pressed_c) := (gate_Gate__Pressed_run) ▸ run_sound (gnil) mixed Tryz.func251 (by kernel_rfl) _
   h
noncomputable def meter_Meter__Of_c {O : Type} : Sm O := fun xs σ =>
 bif Nat.beq xs.length 2 then
 (AV.asP (xs.getD 0 .u)).bind fun p0 =>
 (AV.asI .i64 (xs.getD 1 .u)).bind fun n1 =>
 let σ2 := σ.bump 1
 let σ3 := σ2.put σ.next (.cells true 98 [(.i .u64 0), (.i .u64 0)])
 ((bif ((Option.isNone p0) == false) then
 some ([(.b (decide (n1 < 0)))], σ3)
 else some ([(.b true)], σ3)) : Option (List AV × AH O)).bind fun r4 =>
 (AV.asB (r4.1.getD 0 .u)).bind fun b5 =>
 ((bif (b5 == false) then
 some ([(.b (decide (n1 ≥ 2)))], r4.2)
 else some ([(.b true)], r4.2)) : Option (List AV × AH O)).bind fun r6 =>
 (AV.asB (r6.1.getD 0 .u)).bind fun b7 =>
 (bif b7 then
 none
 else Option.bind p0 fun q8 =>
 (bif ((decide ((0 : Int) ≤ n1)) && (decide (n1 < 2))) then
 (r6.2.ld q8.1 (q8.2 + (n1.toNat * 2))).bind fun w9 =>
 (AV.asI .u64 w9).bind fun n10 =>
 (r6.2.ld q8.1 ((q8.2 + (n1.toNat * 2)) + 1)).bind fun w11 =>
 (AV.asI .u64 w11).bind fun n12 =>
 (r6.2.st (.n σ.next) 0 [(.i .u64 n10), (.i .u64 n12)]).bind fun σ13 =>
 (σ13.ld (.n σ.next) 0).bind fun w14 =>
 (AV.asI .u64 w14).bind fun n15 =>
 (σ13.ld (.n σ.next) 1).bind fun w16 =>
 (AV.asI .u64 w16).bind fun n17 =>
 some ((.agg [(.i .u64 n15), (.i .u64 n17)]), σ13)
 else none))
 else none
noncomputable def meter_Meter__Of {O : Type} : Sm O := meter_Meter__Of_c
theorem meter_Meter__Of_ent : Entered Tryz.prog 55 := Tryz.call55
theorem meter_Meter__Of_run {O : Type} : run (O := O) Tryz.prog [] Tryz.f55 (.n .z (.n (.n (.g [(2, 2, [(10, .one .b)]), (6, 2, [(14, .one .b)])]) (.n .x .z)) .z)) = meter_Meter__Of_c  := by kernel_rfl
theorem meter_Meter__Of_sound {O : Type} {RO : O → Loc → (Nat → Option Obj) → Prop} : FSound RO Tryz.prog 55 (meter_Meter__Of) :=
   have h : FSound RO Tryz.prog 55 (meter_Meter__Of_c) := (meter_Meter__Of_run) ▸ run_sound (gnil) mixed Tryz.func55 (by kernel_rfl) _
   h
noncomputable def wide_Add_c {O : Type} (k99 : Sm O) : Sm O := fun xs σ =>
 bif Nat.beq xs.length 2 then
 (AV.asAgg 2 (xs.getD 0 .u)).bind fun c0 =>
 (AV.asI .u64 (c0.getD 0 .u)).bind fun n1 =>
 (AV.asI .u64 (c0.getD 1 .u)).bind fun n2 =>
 (AV.asAgg 2 (xs.getD 1 .u)).bind fun c3 =>
 (AV.asI .u64 (c3.getD 0 .u)).bind fun n4 =>
 (AV.asI .u64 (c3.getD 1 .u)).bind fun n5 =>
 let σ6 := σ.bump 3
 let σ7 := σ6.put σ.next (.cells true 98 [(.i .u64 n1), (.i .u64 n2)])
 let σ8 := σ7.put (σ.next + 1) (.cells true 98 [(.i .u64 n4), (.i .u64 n5)])
 let σ9 := σ8.put ((σ.next + 1) + 1) (.cells true 98 [(.i .u64 0), (.i .u64 0)])
 (σ9.ld (.n σ.next) 1).bind fun w10 =>
 (AV.asI .u64 w10).bind fun n11 =>
 (σ9.ld (.n (σ.next + 1)) 1).bind fun w12 =>
 (AV.asI .u64 w12).bind fun n13 =>
 (k99 [(.i .u64 n11), (.i .u64 n13), (.i .u64 0)] σ9).bind fun r14 =>
 (AV.asTup 2 r14.1).bind fun c15 =>
 (AV.asI .u64 (c15.getD 0 .u)).bind fun n16 =>
 (AV.asI .u64 (c15.getD 1 .u)).bind fun n17 =>
 (r14.2.ld (.n σ.next) 0).bind fun w18 =>
 (AV.asI .u64 w18).bind fun n19 =>
 (r14.2.ld (.n (σ.next + 1)) 0).bind fun w20 =>
 (AV.asI .u64 w20).bind fun n21 =>
 (k99 [(.i .u64 n19), (.i .u64 n21), (.i .u64 n17)] r14.2).bind fun r22 =>
 (AV.asTup 2 r22.1).bind fun c23 =>
 (AV.asI .u64 (c23.getD 0 .u)).bind fun n24 =>
 (AV.asI .u64 (c23.getD 1 .u)).bind fun n25 =>
 (bif ((n25 : Int) != 0) then
 none
 else (r22.2.st (.n ((σ.next + 1) + 1)) 0 [(.i .u64 n24), (.i .u64 n16)]).bind fun σ26 =>
 (σ26.ld (.n ((σ.next + 1) + 1)) 0).bind fun w27 =>
 (AV.asI .u64 w27).bind fun n28 =>
 (σ26.ld (.n ((σ.next + 1) + 1)) 1).bind fun w29 =>
 (AV.asI .u64 w29).bind fun n30 =>
 some ((.tup [(.agg [(.i .u64 n28), (.i .u64 n30)]), (.b true)]), σ26))
 else none
noncomputable def wide_Add {O : Type} : Sm O := wide_Add_c bits_Add64
theorem wide_Add_ent : Entered Tryz.prog 54 := Tryz.call54
theorem wide_Add_run {O : Type} (k99 : Sm O) : run (O := O) Tryz.prog [(99, k99)] Tryz.f54 (.n .z (.n .z (.n .z (.n (.n .z (.n .x .z)) .z)))) = wide_Add_c k99 := by kernel_rfl
theorem wide_Add_sound {O : Type} {RO : O → Loc → (Nat → Option Obj) → Prop} : FSound RO Tryz.prog 54 (wide_Add) :=
   have h : FSound RO Tryz.prog 54 (wide_Add_c bits_Add64) := (wide_Add_run bits_Add64) ▸ run_sound (gext bits_Add64_ext <| gnil) mixed Tryz.func54 (by kernel_rfl) _
   h
noncomputable def meter_Meter__Steps_c {O : Type} (k55 k54 : Sm O) : Sm O := fun xs σ =>
 bif Nat.beq xs.length 1 then
 (AV.asP (xs.getD 0 .u)).bind fun p0 =>
 let σ1 := σ.bump 1
 let σ2 := σ1.put σ.next (.cells true 98 [(.i .u64 0), (.i .u64 0)])
 let σ3 := σ2.bump 1
 (k55 [(.p p0), J 0] σ3).bind fun r4 =>
 (AV.asAgg 2 r4.1).bind fun c5 =>
 (AV.asI .u64 (c5.getD 0 .u)).bind fun n6 =>
 (AV.asI .u64 (c5.getD 1 .u)).bind fun n7 =>
 (k55 [(.p p0), J 1] r4.2).bind fun r8 =>
 (AV.asAgg 2 r8.1).bind fun c9 =>
 (AV.asI .u64 (c9.getD 0 .u)).bind fun n10 =>
 (AV.asI .u64 (c9.getD 1 .u)).bind fun n11 =>
 (k54 [(.agg [(.i .u64 n6), (.i .u64 n7)]), (.agg [(.i .u64 n10), (.i .u64 n11)])] r8.2).bind fun r12 =>
 (AV.asTup 2 r12.1).bind fun c13 =>
 (AV.asAgg 2 (c13.getD 0 .u)).bind fun c14 =>
 (AV.asI .u64 (c14.getD 0 .u)).bind fun n15 =>
 (AV.asI .u64 (c14.getD 1 .u)).bind fun n16 =>
 (AV.asB (c13.getD 1 .u)).bind fun b17 =>
 let σ18 := r12.2.put σ2.next (.cells true 98 [(.i .u64 0), (.i .u64 0)])
 (σ18.st (.n σ2.next) 0 [(.i .u64 n15), (.i .u64 n16)]).bind fun σ19 =>
 (σ19.ld (.n σ2.next) 0).bind fun w20 =>
 (AV.asI .u64 w20).bind fun n21 =>
 (σ19.ld (.n σ2.next) 1).bind fun w22 =>
 (AV.asI .u64 w22).bind fun n23 =>
 (σ19.st (.n σ.next) 0 [(.i .u64 n21), (.i .u64 n23)]).bind fun σ24 =>
 (σ24.ld (.n σ.next) 0).bind fun w25 =>
 (AV.asI .u64 w25).bind fun n26 =>
 (σ24.ld (.n σ.next) 1).bind fun w27 =>
 (AV.asI .u64 w27).bind fun n28 =>
 some ((.agg [(.i .u64 n26), (.i .u64 n28)]), σ24)
 else none
noncomputable def meter_Meter__Steps {O : Type} : Sm O := meter_Meter__Steps_c meter_Meter__Of wide_Add
theorem meter_Meter__Steps_ent : Entered Tryz.prog 36 := Tryz.call36
theorem meter_Meter__Steps_run {O : Type} (k55 k54 : Sm O) : run (O := O) Tryz.prog [(55, k55), (54, k54)] Tryz.f36 (.n .z (.n .z .z)) = meter_Meter__Steps_c k55 k54 := by kernel_rfl
theorem meter_Meter__Steps_sound {O : Type} {RO : O → Loc → (Nat → Option Obj) → Prop} : FSound RO Tryz.prog 36 (meter_Meter__Steps) :=
   have h : FSound RO Tryz.prog 36 (meter_Meter__Steps_c meter_Meter__Of wide_Add) := (meter_Meter__Steps_run meter_Meter__Of wide_Add) ▸ run_sound (gcons meter_Meter__Of_ent (meter_Meter__Of_sound) <| gcons wide_Add_ent (wide_Add_sound) <| gnil) mixed Tryz.func36 (by kernel_rfl) _
   h
noncomputable def store_Store__Small_c {O : Type} : Sm O := fun xs σ =>
 bif Nat.beq xs.length 1 then
 (AV.asP (xs.getD 0 .u)).bind fun p0 =>
 Option.bind p0 fun q1 =>
 (σ.ld q1.1 (q1.2 + 3)).bind fun w2 =>
 (AV.asI .i64 w2).bind fun n3 =>
 some (J n3, σ)
 else none
noncomputable def store_Store__Small {O : Type} : Sm O := store_Store__Small_c
theorem store_Store__Small_ent : Entered Tryz.prog 343 := Tryz.call343
theorem store_Store__Small_run {O : Type} : run (O := O) Tryz.prog [] Tryz.f343 (.n .z .z) = store_Store__Small_c  := by kernel_rfl
theorem store_Store__Small_sound {O : Type} {RO : O → Loc → (Nat → Option Obj) → Prop} : FSound RO Tryz.prog 343 (store_Store__Small) :=
   have h : FSound RO Tryz.prog 343 (store_Store__Small_c) := (store_Store__Small_run) ▸ run_sound (gnil) mixed Tryz.func343 (by kernel_rfl) _
   h
noncomputable def evac_New_c {O : Type} : Sm O := fun xs σ =>
 bif Nat.beq xs.length 2 then
 (AV.asP (xs.getD 0 .u)).bind fun p0 =>
 (AV.asF (xs.getD 1 .u)).bind fun f1 =>
 (bif (Option.isNone f1) then
 none
 else let σ2 := σ.bump 1
 let σ3 := σ2.put σ.next (.cells true 435 [(.p p0), (.fn f1), J 0])
 some ((.p (some ((.n σ.next), 0))), σ3))
 else none
noncomputable def evac_New {O : Type} : Sm O := evac_New_c
theorem evac_New_ent : Entered Tryz.prog 344 := Tryz.call344
theorem evac_New_run {O : Type} : run (O := O) Tryz.prog [] Tryz.f344 (.n .z (.n (.n .z (.n .x .z)) .z)) = evac_New_c  := by kernel_rfl
theorem evac_New_sound {O : Type} {RO : O → Loc → (Nat → Option Obj) → Prop} : FSound RO Tryz.prog 344 (evac_New) :=
   have h : FSound RO Tryz.prog 344 (evac_New_c) := (evac_New_run) ▸ run_sound (gnil) mixed Tryz.func344 (by kernel_rfl) _
   h
noncomputable def store_Store__Semi_c {O : Type} : Sm O := fun xs σ =>
 bif Nat.beq xs.length 1 then
 (AV.asP (xs.getD 0 .u)).bind fun p0 =>
 Option.bind p0 fun q1 =>
 (σ.ld q1.1 (q1.2 + 1)).bind fun w2 =>
 (AV.asP w2).bind fun p3 =>
 some ((.p p3), σ)
 else none
noncomputable def store_Store__Semi {O : Type} : Sm O := store_Store__Semi_c
theorem store_Store__Semi_ent : Entered Tryz.prog 111 := Tryz.call111
theorem store_Store__Semi_run {O : Type} : run (O := O) Tryz.prog [] Tryz.f111 (.n .z .z) = store_Store__Semi_c  := by kernel_rfl
theorem store_Store__Semi_sound {O : Type} {RO : O → Loc → (Nat → Option Obj) → Prop} : FSound RO Tryz.prog 111 (store_Store__Semi) :=
   have h : FSound RO Tryz.prog 111 (store_Store__Semi_c) := (store_Store__Semi_run) ▸ run_sound (gnil) mixed Tryz.func111 (by kernel_rfl) _
   h
noncomputable def semi_Semi__Top_c {O : Type} : Sm O := fun xs σ =>
 bif Nat.beq xs.length 1 then
 (AV.asP (xs.getD 0 .u)).bind fun p0 =>
 Option.bind p0 fun q1 =>
 (σ.ld q1.1 ((q1.2 + 1) + 1)).bind fun w2 =>
 (AV.asI .i64 w2).bind fun n3 =>
 some (J n3, σ)
 else none
noncomputable def semi_Semi__Top {O : Type} : Sm O := semi_Semi__Top_c
theorem semi_Semi__Top_ent : Entered Tryz.prog 112 := Tryz.call112
theorem semi_Semi__Top_run {O : Type} : run (O := O) Tryz.prog [] Tryz.f112 (.n .z .z) = semi_Semi__Top_c  := by kernel_rfl
theorem semi_Semi__Top_sound {O : Type} {RO : O → Loc → (Nat → Option Obj) → Prop} : FSound RO Tryz.prog 112 (semi_Semi__Top) :=
   have h : FSound RO Tryz.prog 112 (semi_Semi__Top_c) := (semi_Semi__Top_run) ▸ run_sound (gnil) mixed Tryz.func112 (by kernel_rfl) _
   h
noncomputable def semi_Semi__Flip_c {O : Type} (k185 : Sm O) : Sm O := fun xs σ =>
 bif Nat.beq xs.length 2 then
 (AV.asP (xs.getD 0 .u)).bind fun p0 =>
 (AV.asI .i64 (xs.getD 1 .u)).bind fun n1 =>
 Option.bind p0 fun q2 =>
 (σ.ld q2.1 (q2.2 + 5)).bind fun w3 =>
 (AV.asB w3).bind fun b4 =>
 (bif b4 then
 none
 else Option.bind p0 fun q5 =>
 (σ.ld q5.1 q5.2).bind fun w6 =>
 (AV.asP w6).bind fun p7 =>
 (k185 [(.p p7), J n1] σ).bind fun r8 =>
 (AV.asTup 2 r8.1).bind fun c9 =>
 I6 c9 0 fun n10 => I6 c9 1 fun n11 => (bif ((n11 : Int) != 0) then
 none
 else Option.bind p0 fun q12 =>
 (r8.2.ld q12.1 (q12.2 + 1)).bind fun w13 =>
 (AV.asI .i64 w13).bind fun n14 =>
 (r8.2.ld q12.1 ((q12.2 + 1) + 1)).bind fun w15 =>
 (AV.asI .i64 w15).bind fun n16 =>
 Option.bind p0 fun q17 =>
 (r8.2.st q17.1 (q17.2 + 3) [J n14, J n16]).bind fun σ18 =>
 Option.bind p0 fun q19 =>
 (σ18.st q19.1 (q19.2 + 1) [J n10, J 0]).bind fun σ20 =>
 Option.bind p0 fun q21 =>
 (σ20.st q21.1 (q21.2 + 5) [(.b true)]).bind fun σ22 =>
 some (J 0, σ22)))
 else none
noncomputable def semi_Semi__Flip {O : Type} : Sm O := semi_Semi__Flip_c mem_Mem__Open
theorem semi_Semi__Flip_ent : Entered Tryz.prog 391 := Tryz.call391
theorem semi_Semi__Flip_run {O : Type} (k185 : Sm O) : run (O := O) Tryz.prog [(185, k185)] Tryz.f391 (.n .z (.n (.n .z (.n .x .z)) (.n .z (.n (.n .z (.n .x .z)) (.n .z .z))))) = semi_Semi__Flip_c k185 := by kernel_rfl
theorem semi_Semi__Flip_sound {O : Type} {RO : O → Loc → (Nat → Option Obj) → Prop} : FSound RO Tryz.prog 391 (semi_Semi__Flip) :=
   have h : FSound RO Tryz.prog 391 (semi_Semi__Flip_c mem_Mem__Open) := (semi_Semi__Flip_run mem_Mem__Open) ▸ run_sound (gcons mem_Mem__Open_ent (mem_Mem__Open_sound) <| gnil) mixed Tryz.func391 (by kernel_rfl) _
   h
noncomputable def store_Store__Large_c {O : Type} : Sm O := fun xs σ =>
 bif Nat.beq xs.length 1 then
 (AV.asP (xs.getD 0 .u)).bind fun p0 =>
 Option.bind p0 fun q1 =>
 (σ.ld q1.1 ((q1.2 + 1) + 1)).bind fun w2 =>
 (AV.asP w2).bind fun p3 =>
 some ((.p p3), σ)
 else none
noncomputable def store_Store__Large {O : Type} : Sm O := store_Store__Large_c
theorem store_Store__Large_ent : Entered Tryz.prog 118 := Tryz.call118
theorem store_Store__Large_run {O : Type} : run (O := O) Tryz.prog [] Tryz.f118 (.n .z .z) = store_Store__Large_c  := by kernel_rfl
theorem store_Store__Large_sound {O : Type} {RO : O → Loc → (Nat → Option Obj) → Prop} : FSound RO Tryz.prog 118 (store_Store__Large) :=
   have h : FSound RO Tryz.prog 118 (store_Store__Large_c) := (store_Store__Large_run) ▸ run_sound (gnil) mixed Tryz.func118 (by kernel_rfl) _
   h
noncomputable def pool_Pool__width_c {O : Type} : Sm O := fun xs σ =>
 bif Nat.beq xs.length 1 then
 (AV.asP (xs.getD 0 .u)).bind fun p0 =>
 Option.bind p0 fun q1 =>
 (σ.ld q1.1 (q1.2 + 2)).bind fun w2 =>
 (AV.asI .i64 w2).bind fun n3 =>
 some ((.i .i64 (IntKind.i64.wrap (n3 + 1))), σ)
 else none
noncomputable def pool_Pool__width {O : Type} : Sm O := pool_Pool__width_c
theorem pool_Pool__width_ent : Entered Tryz.prog 324 := Tryz.call324
theorem pool_Pool__width_run {O : Type} : run (O := O) Tryz.prog [] Tryz.f324 (.n .z .z) = pool_Pool__width_c  := by kernel_rfl
theorem pool_Pool__width_sound {O : Type} {RO : O → Loc → (Nat → Option Obj) → Prop} : FSound RO Tryz.prog 324 (pool_Pool__width) :=
   have h : FSound RO Tryz.prog 324 (pool_Pool__width_c) := (pool_Pool__width_run) ▸ run_sound (gnil) mixed Tryz.func324 (by kernel_rfl) _
   h
noncomputable def pool_Pool__Table_c {O : Type} (k324 : Sm O) : Sm O := fun xs σ =>
 bif Nat.beq xs.length 3 then
 (AV.asP (xs.getD 0 .u)).bind fun p0 =>
 (AV.asI .i64 (xs.getD 1 .u)).bind fun n1 =>
 (AV.asI .i64 (xs.getD 2 .u)).bind fun n2 =>
 let σ3 := σ.bump 1
 let σ4 := σ3.put σ.next (.cells true 328 [(.p none), J 0, J 0, J 0, J 0])
 Option.bind p0 fun q5 =>
 (σ4.ld q5.1 q5.2).bind fun w6 =>
 (AV.asP w6).bind fun p7 =>
 Option.bind p0 fun q8 =>
 (σ4.ld q8.1 (q8.2 + 1)).bind fun w9 =>
 (AV.asI .i64 w9).bind fun n10 =>
 (k324 [(.p p0)] σ4).bind fun r11 =>
 (AV.asI .i64 r11.1).bind fun n12 =>
 (chkE (r11.2.ld q5.1 q5.2) (some (.p p7))).bind fun _ =>
 (chkE (r11.2.ld q8.1 (q8.2 + 1)) (some (.i .i64 n10))).bind fun _ =>
 (r11.2.st (.n σ.next) 0 [(.p p7), J n10, J n12, (.i .i64 (IntKind.i64.wrap (n1 + 1))), (.i .i64 (IntKind.i64.wrap (n2 + 1)))]).bind fun σ13 =>
 (σ13.ld (.n σ.next) 0).bind fun w14 =>
 (AV.asP w14).bind fun p15 =>
 (σ13.ld (.n σ.next) 1).bind fun w16 =>
 (AV.asI .i64 w16).bind fun n17 =>
 (σ13.ld (.n σ.next) 2).bind fun w18 =>
 (AV.asI .i64 w18).bind fun n19 =>
 (σ13.ld (.n σ.next) 3).bind fun w20 =>
 (AV.asI .i64 w20).bind fun n21 =>
 (σ13.ld (.n σ.next) 4).bind fun w22 =>
 (AV.asI .i64 w22).bind fun n23 =>
 some ((.agg [(.p p15), J n17, J n19, J n21, J n23]), σ13)
 else none
noncomputable def pool_Pool__Table {O : Type} : Sm O := pool_Pool__Table_c pool_Pool__width
theorem pool_Pool__Table_ent : Entered Tryz.prog 282 := Tryz.call282
theorem pool_Pool__Table_run {O : Type} (k324 : Sm O) : run (O := O) Tryz.prog [(324, k324)] Tryz.f282 (.n .z (.n (.d [] [0, 1, 2, 3, 4, 5, 6, 7, 8, 10, 11, 12, 13, 9, 14, 15] [0, 1, 3, 7, 0, 16, 48, 112, 0, 256, 0, 1024, 0, 4096, 16383, 32767]) .z)) = pool_Pool__Table_c k324 := by kernel_rfl
theorem pool_Pool__Table_sound {O : Type} {RO : O → Loc → (Nat → Option Obj) → Prop} : FSound RO Tryz.prog 282 (pool_Pool__Table) :=
   have h : FSound RO Tryz.prog 282 (pool_Pool__Table_c pool_Pool__width) := (pool_Pool__Table_run pool_Pool__width) ▸ run_sound (gcons pool_Pool__width_ent (pool_Pool__width_sound) <| gnil) mixed Tryz.func282 (by kernel_rfl) _
   h
noncomputable def large_Large__table_c {O : Type} (k282 : Sm O) : Sm O := fun xs σ =>
 bif Nat.beq xs.length 1 then
 (AV.asP (xs.getD 0 .u)).bind fun p0 =>
 let σ1 := σ.bump 1
 let σ2 := σ1.put σ.next (.cells true 328 [(.p none), J 0, J 0, J 0, J 0])
 Option.bind p0 fun q3 =>
 (σ2.ld q3.1 (q3.2 + 1)).bind fun w4 =>
 (AV.asP w4).bind fun p5 =>
 (k282 [(.p p5), J 2, J 3] σ2).bind fun r6 =>
 (AV.asAgg 5 r6.1).bind fun c7 =>
 (AV.asP (c7.getD 0 .u)).bind fun p8 =>
 I6 c7 1 fun n9 => I6 c7 2 fun n10 => I6 c7 3 fun n11 => I6 c7 4 fun n12 => (r6.2.st (.n σ.next) 0 [(.p p8), J n9, J n10, J n11, J n12]).bind fun σ13 =>
 (σ13.ld (.n σ.next) 0).bind fun w14 =>
 (AV.asP w14).bind fun p15 =>
 (σ13.ld (.n σ.next) 1).bind fun w16 =>
 (AV.asI .i64 w16).bind fun n17 =>
 (σ13.ld (.n σ.next) 2).bind fun w18 =>
 (AV.asI .i64 w18).bind fun n19 =>
 (σ13.ld (.n σ.next) 3).bind fun w20 =>
 (AV.asI .i64 w20).bind fun n21 =>
 (σ13.ld (.n σ.next) 4).bind fun w22 =>
 (AV.asI .i64 w22).bind fun n23 =>
 some ((.agg [(.p p15), J n17, J n19, J n21, J n23]), σ13)
 else none
noncomputable def large_Large__table {O : Type} : Sm O := large_Large__table_c pool_Pool__Table
theorem large_Large__table_ent : Entered Tryz.prog 201 := Tryz.call201
theorem large_Large__table_run {O : Type} (k282 : Sm O) : run (O := O) Tryz.prog [(282, k282)] Tryz.f201 (.n .z .z) = large_Large__table_c k282 := by kernel_rfl
theorem large_Large__table_sound {O : Type} {RO : O → Loc → (Nat → Option Obj) → Prop} : FSound RO Tryz.prog 201 (large_Large__table) :=
   have h : FSound RO Tryz.prog 201 (large_Large__table_c pool_Pool__Table) := (large_Large__table_run pool_Pool__Table) ▸ run_sound (gcons pool_Pool__Table_ent (pool_Pool__Table_sound) <| gnil) mixed Tryz.func201 (by kernel_rfl) _
   h
noncomputable def chain_Table__Right_1_c {O : Type} : Sm O := fun xs σ =>
 bif Nat.beq xs.length 2 then
 (AV.asI .i64 (xs.getD 0 .u)).bind fun n0 =>
 ((bif ((decide (n0 ≥ 0)) == true) then
 (AV.asPS (xs.getD 1 .u)).bind fun q1 =>
 (σ.ld q1.1 (q1.2 + 2)).bind fun w2 =>
 (AV.asI .i64 w2).bind fun n3 =>
 some ([(.b (decide (n0 < n3)))], σ)
 else some ([(.b false)], σ)) : Option (List AV × AH O)).bind fun r4 =>
 (AV.asB (r4.1.getD 0 .u)).bind fun b5 =>
 some ((.b b5), r4.2)
 else none
noncomputable def chain_Table__Right_1 {O : Type} : Sm O := chain_Table__Right_1_c
theorem chain_Table__Right_1_ent : Entered Tryz.prog 413 := Tryz.call413
theorem chain_Table__Right_1_run {O : Type} : run (O := O) Tryz.prog [] Tryz.f413 (.n .z (.n (.g [(2, 4, [(11, .one .b)])]) .z)) = chain_Table__Right_1_c  := by kernel_rfl
theorem chain_Table__Right_1_sound {O : Type} {RO : O → Loc → (Nat → Option Obj) → Prop} : FSound RO Tryz.prog 413 (chain_Table__Right_1) :=
   have h : FSound RO Tryz.prog 413 (chain_Table__Right_1_c) := (chain_Table__Right_1_run) ▸ run_sound (gnil) mixed Tryz.func413 (by kernel_rfl) _
   h
noncomputable def chain_Table__Right_c {O : Type} (k413 : Sm O) : Sm O := fun xs σ =>
 bif Nat.beq xs.length 1 then
 (AV.asAgg 5 (xs.getD 0 .u)).bind fun c0 =>
 (AV.asP (c0.getD 0 .u)).bind fun p1 =>
 I6 c0 1 fun n2 => I6 c0 2 fun n3 => I6 c0 3 fun n4 => I6 c0 4 fun n5 => let σ6 := σ.bump 1
 let σ7 := σ6.put σ.next (.cells true 328 [(.p p1), J n2, J n3, J n4, J n5])
 (σ7.ld (.n σ.next) 0).bind fun w8 =>
 (AV.asP w8).bind fun p9 =>
 ((bif ((!(Option.isNone p9)) == true) then
 (σ7.ld (.n σ.next) 2).bind fun w10 =>
 (AV.asI .i64 w10).bind fun n11 =>
 some ([(.b (decide (n11 ≥ 2)))], σ7)
 else some ([(.b false)], σ7)) : Option (List AV × AH O)).bind fun r12 =>
 (AV.asB (r12.1.getD 0 .u)).bind fun b13 =>
 ((bif (b13 == true) then
 (r12.2.ld (.n σ.next) 2).bind fun w14 =>
 (AV.asI .i64 w14).bind fun n15 =>
 some ([(.b (decide (n15 ≤ 64)))], r12.2)
 else some ([(.b false)], r12.2)) : Option (List AV × AH O)).bind fun r16 =>
 (AV.asB (r16.1.getD 0 .u)).bind fun b17 =>
 ((bif (b17 == true) then
 (r16.2.ld (.n σ.next) 3).bind fun w18 =>
 (AV.asI .i64 w18).bind fun n19 =>
 (k413 [J n19, (.p (some ((.n σ.next), 0)))] r16.2).bind fun r20 =>
 (AV.asB r20.1).bind fun b21 =>
 some ([(.b b21)], r20.2)
 else some ([(.b false)], r16.2)) : Option (List AV × AH O)).bind fun r22 =>
 (AV.asB (r22.1.getD 0 .u)).bind fun b23 =>
 ((bif (b23 == true) then
 (r22.2.ld (.n σ.next) 4).bind fun w24 =>
 (AV.asI .i64 w24).bind fun n25 =>
 (k413 [J n25, (.p (some ((.n σ.next), 0)))] r22.2).bind fun r26 =>
 (AV.asB r26.1).bind fun b27 =>
 some ([(.b b27)], r26.2)
 else some ([(.b false)], r22.2)) : Option (List AV × AH O)).bind fun r28 =>
 (AV.asB (r28.1.getD 0 .u)).bind fun b29 =>
 ((bif (b29 == true) then
 (r28.2.ld (.n σ.next) 3).bind fun w30 =>
 (AV.asI .i64 w30).bind fun n31 =>
 (r28.2.ld (.n σ.next) 4).bind fun w32 =>
 (AV.asI .i64 w32).bind fun n33 =>
 some ([(.b ((n31 : Int) != n33))], r28.2)
 else some ([(.b false)], r28.2)) : Option (List AV × AH O)).bind fun r34 =>
 (AV.asB (r34.1.getD 0 .u)).bind fun b35 =>
 some ((.b b35), r34.2)
 else none
noncomputable def chain_Table__Right {O : Type} : Sm O := chain_Table__Right_c chain_Table__Right_1
theorem chain_Table__Right_ent : Entered Tryz.prog 381 := Tryz.call381
theorem chain_Table__Right_run {O : Type} (k413 : Sm O) : run (O := O) Tryz.prog [(413, k413)] Tryz.f381 (.n .z (.n .z (.n (.g [(3, 3, [(12, .one .b)]), (8, 3, [(17, .one .b)]), (13, 4, [(23, .one .b)]), (19, 4, [(29, .one .b)]), (25, 5, [(36, .one .b)])]) .z))) = chain_Table__Right_c k413 := by kernel_rfl
theorem chain_Table__Right_sound {O : Type} {RO : O → Loc → (Nat → Option Obj) → Prop} : FSound RO Tryz.prog 381 (chain_Table__Right) :=
   have h : FSound RO Tryz.prog 381 (chain_Table__Right_c chain_Table__Right_1) := (chain_Table__Right_run chain_Table__Right_1) ▸ run_sound (gcons chain_Table__Right_1_ent (chain_Table__Right_1_sound) <| gnil) mixed Tryz.func381 (by kernel_rfl) _
   h
noncomputable def chain_Table__at_c {O : Type} : Sm O := fun xs σ =>
 bif Nat.beq xs.length 3 then
 (AV.asAgg 5 (xs.getD 0 .u)).bind fun c0 =>
 (AV.asP (c0.getD 0 .u)).bind fun p1 =>
 I6 c0 1 fun n2 => I6 c0 2 fun n3 => I6 c0 3 fun n4 => I6 c0 4 fun n5 => (AV.asI .i64 (xs.getD 1 .u)).bind fun n6 =>
 (AV.asI .i64 (xs.getD 2 .u)).bind fun n7 =>
 let σ8 := σ.bump 1
 let σ9 := σ8.put σ.next (.cells true 328 [(.p p1), J n2, J n3, J n4, J n5])
 (σ9.ld (.n σ.next) 2).bind fun w10 =>
 (AV.asI .i64 w10).bind fun n11 =>
 let v12 : Int := (IntKind.i64.wrap ((IntKind.i64.wrap (n6 - 1)) * n11))
 some ((.i .i64 (IntKind.i64.wrap (v12 + n7))), σ9)
 else none
noncomputable def chain_Table__at {O : Type} : Sm O := chain_Table__at_c
theorem chain_Table__at_ent : Entered Tryz.prog 383 := Tryz.call383
theorem chain_Table__at_run {O : Type} : run (O := O) Tryz.prog [] Tryz.f383 (.n .z .z) = chain_Table__at_c  := by kernel_rfl
theorem chain_Table__at_sound {O : Type} {RO : O → Loc → (Nat → Option Obj) → Prop} : FSound RO Tryz.prog 383 (chain_Table__at) :=
   have h : FSound RO Tryz.prog 383 (chain_Table__at_c) := (chain_Table__at_run) ▸ run_sound (gnil) mixed Tryz.func383 (by kernel_rfl) _
   h
noncomputable def mem_Mem__at_c {O : Type} : Sm O := fun xs σ =>
 bif Nat.beq xs.length 2 then
 (AV.asP (xs.getD 0 .u)).bind fun p0 =>
 (AV.asI .i64 (xs.getD 1 .u)).bind fun n1 =>
 ((bif ((decide (n1 < 0)) == false) then
 Option.bind p0 fun q2 =>
 (σ.ld q2.1 (q2.2 + 1)).bind fun w3 =>
 (AV.asSl w3).bind fun l4 =>
 some ([(.b (decide (n1 ≥ (l4.2 : Int))))], σ)
 else some ([(.b true)], σ)) : Option (List AV × AH O)).bind fun r5 =>
 (AV.asB (r5.1.getD 0 .u)).bind fun b6 =>
 ((bif (b6 == false) then
 Option.bind p0 fun q7 =>
 (r5.2.ld q7.1 (q7.2 + 1)).bind fun w8 =>
 (AV.asSl w8).bind fun l9 =>
 (bif ((decide ((0 : Int) ≤ n1)) && (decide (n1 < (l9.2 : Int)))) then
 (SA.ref l9.1).bind fun q10 =>
 (r5.2.ld q10.1 ((q10.2 + (n1.toNat * 2)) + 1)).bind fun w11 =>
 (AV.asB w11).bind fun b12 =>
 some ([(.b (!b12))], r5.2)
 else none)
 else some ([(.b true)], r5.2)) : Option (List AV × AH O)).bind fun r13 =>
 (AV.asB (r13.1.getD 0 .u)).bind fun b14 =>
 (bif b14 then
 none
 else Option.bind p0 fun q15 =>
 (r13.2.ld q15.1 (q15.2 + 1)).bind fun w16 =>
 (AV.asSl w16).bind fun l17 =>
 (bif ((decide ((0 : Int) ≤ n1)) && (decide (n1 < (l17.2 : Int)))) then
 (SA.ref l17.1).bind fun q18 =>
 some ((.p (some (q18.1, (q18.2 + (n1.toNat * 2))))), r13.2)
 else none))
 else none
noncomputable def mem_Mem__at {O : Type} : Sm O := mem_Mem__at_c
theorem mem_Mem__at_ent : Entered Tryz.prog 321 := Tryz.call321
theorem mem_Mem__at_run {O : Type} : run (O := O) Tryz.prog [] Tryz.f321 (.n .z (.n (.n (.g [(2, 7, [(15, .one .b)]), (11, 9, [(26, .one .b)])]) (.n .x .z)) .z)) = mem_Mem__at_c  := by kernel_rfl
theorem mem_Mem__at_sound {O : Type} {RO : O → Loc → (Nat → Option Obj) → Prop} : FSound RO Tryz.prog 321 (mem_Mem__at) :=
   have h : FSound RO Tryz.prog 321 (mem_Mem__at_c) := (mem_Mem__at_run) ▸ run_sound (gnil) mixed Tryz.func321 (by kernel_rfl) _
   h
noncomputable def mem_Mem__within_c {O : Type} (k321 : Sm O) : Sm O := fun xs σ =>
 bif Nat.beq xs.length 4 then
 (AV.asP (xs.getD 0 .u)).bind fun p0 =>
 (AV.asI .i64 (xs.getD 1 .u)).bind fun n1 =>
 (AV.asI .i64 (xs.getD 2 .u)).bind fun n2 =>
 (AV.asI .i64 (xs.getD 3 .u)).bind fun n3 =>
 (k321 [(.p p0), J n1] σ).bind fun r4 =>
 (AV.asP r4.1).bind fun p5 =>
 (bif (Option.isNone p5) then
 none
 else ((bif ((decide (n3 < 0)) == false) then
 some ([(.b (decide (n2 < 0)))], r4.2)
 else some ([(.b true)], r4.2)) : Option (List AV × AH O)).bind fun r6 =>
 (AV.asB (r6.1.getD 0 .u)).bind fun b7 =>
 ((bif (b7 == false) then
 Option.bind p5 fun q8 =>
 (r6.2.ld q8.1 q8.2).bind fun w9 =>
 (AV.asSl w9).bind fun l10 =>
 some ([(.b (decide (n2 > (l10.2 : Int))))], r6.2)
 else some ([(.b true)], r6.2)) : Option (List AV × AH O)).bind fun r11 =>
 (AV.asB (r11.1.getD 0 .u)).bind fun b12 =>
 ((bif (b12 == false) then
 Option.bind p5 fun q13 =>
 (r11.2.ld q13.1 q13.2).bind fun w14 =>
 (AV.asSl w14).bind fun l15 =>
 let c16 : Bool := (decide (n3 > (IntKind.i64.wrap ((l15.2 : Int) - n2))))
 some ([(.b c16)], r11.2)
 else some ([(.b true)], r11.2)) : Option (List AV × AH O)).bind fun r17 =>
 (AV.asB (r17.1.getD 0 .u)).bind fun b18 =>
 (bif b18 then
 none
 else Option.bind p5 fun q19 =>
 (r17.2.ld q19.1 q19.2).bind fun w20 =>
 (AV.asSl w20).bind fun l21 =>
 (bif (((decide ((0 : Int) ≤ n2)) && (decide (n2 ≤ (IntKind.i64.wrap (n2 + n3))))) && (decide ((IntKind.i64.wrap (n2 + n3)) ≤ (l21.2 : Int)))) then
 (SA.adv l21.1 n2.toNat 1).bind fun a22 =>
 some ((.tup [(.sl a22 ((IntKind.i64.wrap (n2 + n3)).toNat - n2.toNat)), J 0]), r17.2)
 else none)))
 else none
noncomputable def mem_Mem__within {O : Type} : Sm O := mem_Mem__within_c mem_Mem__at
theorem mem_Mem__within_ent : Entered Tryz.prog 277 := Tryz.call277
theorem mem_Mem__within_run {O : Type} (k321 : Sm O) : run (O := O) Tryz.prog [(321, k321)] Tryz.f277 (.n .z (.n .z (.n (.n (.n .z (.n .x (.n (.g [(2, 2, [(23, .one .b)]), (6, 7, [(32, .one .b)]), (15, 9, [(43, .one .b)])]) (.n .x .z)))) .z) .z))) = mem_Mem__within_c k321 := by kernel_rfl
theorem mem_Mem__within_sound {O : Type} {RO : O → Loc → (Nat → Option Obj) → Prop} : FSound RO Tryz.prog 277 (mem_Mem__within) :=
   have h : FSound RO Tryz.prog 277 (mem_Mem__within_c mem_Mem__at) := (mem_Mem__within_run mem_Mem__at) ▸ run_sound (gcons mem_Mem__at_ent (mem_Mem__at_sound) <| gnil) mixed Tryz.func277 (by kernel_rfl) _
   h
noncomputable def wide_Of_c {O : Type} : Sm O := fun xs σ =>
 bif Nat.beq xs.length 1 then
 (AV.asI .u64 (xs.getD 0 .u)).bind fun n0 =>
 let σ1 := σ.bump 1
 let σ2 := σ1.put σ.next (.cells true 98 [(.i .u64 0), (.i .u64 0)])
 (σ2.st (.n σ.next) 0 [(.i .u64 0), (.i .u64 n0)]).bind fun σ3 =>
 (σ3.ld (.n σ.next) 0).bind fun w4 =>
 (AV.asI .u64 w4).bind fun n5 =>
 (σ3.ld (.n σ.next) 1).bind fun w6 =>
 (AV.asI .u64 w6).bind fun n7 =>
 some ((.agg [(.i .u64 n5), (.i .u64 n7)]), σ3)
 else none
noncomputable def wide_Of {O : Type} : Sm O := wide_Of_c
theorem wide_Of_ent : Entered Tryz.prog 61 := Tryz.call61
theorem wide_Of_run {O : Type} : run (O := O) Tryz.prog [] Tryz.f61 (.n .z .z) = wide_Of_c  := by kernel_rfl
theorem wide_Of_sound {O : Type} {RO : O → Loc → (Nat → Option Obj) → Prop} : FSound RO Tryz.prog 61 (wide_Of) :=
   have h : FSound RO Tryz.prog 61 (wide_Of_c) := (wide_Of_run) ▸ run_sound (gnil) mixed Tryz.func61 (by kernel_rfl) _
   h
noncomputable def meter_Meter__Step_c {O : Type} (k61 k54 : Sm O) : Sm O := fun xs σ =>
 bif Nat.beq xs.length 3 then
 (AV.asP (xs.getD 0 .u)).bind fun p0 =>
 (AV.asI .i64 (xs.getD 1 .u)).bind fun n1 =>
 (AV.asI .i64 (xs.getD 2 .u)).bind fun n2 =>
 ((bif ((Option.isNone p0) == false) then
 some ([(.b (decide (n1 < 0)))], σ)
 else some ([(.b true)], σ)) : Option (List AV × AH O)).bind fun r3 =>
 (AV.asB (r3.1.getD 0 .u)).bind fun b4 =>
 ((bif (b4 == false) then
 some ([(.b (decide (n1 ≥ 2)))], r3.2)
 else some ([(.b true)], r3.2)) : Option (List AV × AH O)).bind fun r5 =>
 (AV.asB (r5.1.getD 0 .u)).bind fun b6 =>
 ((bif (b6 == false) then
 some ([(.b (decide (n2 < 1)))], r5.2)
 else some ([(.b true)], r5.2)) : Option (List AV × AH O)).bind fun r7 =>
 (AV.asB (r7.1.getD 0 .u)).bind fun b8 =>
 (bif b8 then
 none
 else Option.bind p0 fun q9 =>
 (bif ((decide ((0 : Int) ≤ n1)) && (decide (n1 < 2))) then
 (r7.2.ld q9.1 (q9.2 + (n1.toNat * 2))).bind fun w10 =>
 (AV.asI .u64 w10).bind fun n11 =>
 (r7.2.ld q9.1 ((q9.2 + (n1.toNat * 2)) + 1)).bind fun w12 =>
 (AV.asI .u64 w12).bind fun n13 =>
 Option.bind p0 fun q14 =>
 (k61 [(.i .u64 (IntKind.u64.wrap n2))] r7.2).bind fun r15 =>
 (AV.asAgg 2 r15.1).bind fun c16 =>
 (AV.asI .u64 (c16.getD 0 .u)).bind fun n17 =>
 (AV.asI .u64 (c16.getD 1 .u)).bind fun n18 =>
 (chkE (r15.2.ld q9.1 (q9.2 + (n1.toNat * 2))) (some (.i .u64 n11))).bind fun _ =>
 (chkE (r15.2.ld q9.1 ((q9.2 + (n1.toNat * 2)) + 1)) (some (.i .u64 n13))).bind fun _ =>
 (k54 [(.agg [(.i .u64 n11), (.i .u64 n13)]), (.agg [(.i .u64 n17), (.i .u64 n18)])] r15.2).bind fun r19 =>
 (AV.asTup 2 r19.1).bind fun c20 =>
 (AV.asAgg 2 (c20.getD 0 .u)).bind fun c21 =>
 (AV.asI .u64 (c21.getD 0 .u)).bind fun n22 =>
 (AV.asI .u64 (c21.getD 1 .u)).bind fun n23 =>
 (AV.asB (c20.getD 1 .u)).bind fun b24 =>
 (bif ((decide ((0 : Int) ≤ n1)) && (decide (n1 < 2))) then
 (r19.2.st q14.1 (q14.2 + (n1.toNat * 2)) [(.i .u64 n22), (.i .u64 n23)]).bind fun σ25 =>
 some ((.tup []), σ25)
 else none)
 else none))
 else none
noncomputable def meter_Meter__Step {O : Type} : Sm O := meter_Meter__Step_c wide_Of wide_Add
theorem meter_Meter__Step_ent : Entered Tryz.prog 278 := Tryz.call278
theorem meter_Meter__Step_run {O : Type} (k61 k54 : Sm O) : run (O := O) Tryz.prog [(61, k61), (54, k54)] Tryz.f278 (.n (.n (.g [(2, 2, [(11, .one .b)]), (6, 2, [(15, .one .b)]), (10, 2, [(19, .one .b)])]) (.n .x .z)) (.d [] [0, 1, 2, 3, 4, 5, 6, 7, 8, 9, 15, 16, 10, 11, 12, 13, 14, 17, 18] [0, 0, 0, 0, 4, 20, 60, 124, 0, 256, 768, 2044, 4092, 8188, 8188, 1, 32769, 114687, 245759])) = meter_Meter__Step_c k61 k54 := by kernel_rfl
theorem meter_Meter__Step_sound {O : Type} {RO : O → Loc → (Nat → Option Obj) → Prop} : FSound RO Tryz.prog 278 (meter_Meter__Step) :=
   have h : FSound RO Tryz.prog 278 (meter_Meter__Step_c wide_Of wide_Add) := (meter_Meter__Step_run wide_Of wide_Add) ▸ run_sound (gcons wide_Of_ent (wide_Of_sound) <| gcons wide_Add_ent (wide_Add_sound) <| gnil) mixed Tryz.func278 (by kernel_rfl) _
   h
noncomputable def mem_Mem__Write_c {O : Type} (k277 k278 : Sm O) : Sm O := fun xs σ =>
 bif Nat.beq xs.length 4 then
 (AV.asP (xs.getD 0 .u)).bind fun p0 =>
 (AV.asI .i64 (xs.getD 1 .u)).bind fun n1 =>
 (AV.asI .i64 (xs.getD 2 .u)).bind fun n2 =>
 (AV.asI .u64 (xs.getD 3 .u)).bind fun n3 =>
 (k277 [(.p p0), J n1, J n2, J 1] σ).bind fun r4 =>
 (AV.asTup 2 r4.1).bind fun c5 =>
 Is c5 0 fun l6 => I6 c5 1 fun n7 => (bif ((n7 : Int) != 0) then
 none
 else Option.bind p0 fun q8 =>
 (r4.2.ld q8.1 q8.2).bind fun w9 =>
 (AV.asP w9).bind fun p10 =>
 (k278 [(.p p10), J 1, J 1] r4.2).bind fun r11 =>
 (AV.asTup 0 r11.1).bind fun c12 =>
 (bif (decide ((0 : Int) < (l6.2 : Int))) then
 (SA.ref l6.1).bind fun q13 =>
 (r11.2.st q13.1 q13.2 [(.i .u64 n3)]).bind fun σ14 =>
 some (J 0, σ14)
 else none))
 else none
noncomputable def mem_Mem__Write {O : Type} : Sm O := mem_Mem__Write_c mem_Mem__within meter_Meter__Step
theorem mem_Mem__Write_ent : Entered Tryz.prog 287 := Tryz.call287
theorem mem_Mem__Write_run {O : Type} (k277 k278 : Sm O) : run (O := O) Tryz.prog [(277, k277), (278, k278)] Tryz.f287 (.n .z (.n .z (.n (.n .z (.n .x .z)) (.n .z (.n .z .z))))) = mem_Mem__Write_c k277 k278 := by kernel_rfl
theorem mem_Mem__Write_sound {O : Type} {RO : O → Loc → (Nat → Option Obj) → Prop} : FSound RO Tryz.prog 287 (mem_Mem__Write) :=
   have h : FSound RO Tryz.prog 287 (mem_Mem__Write_c mem_Mem__within meter_Meter__Step) := (mem_Mem__Write_run mem_Mem__within meter_Meter__Step) ▸ run_sound (gcons mem_Mem__within_ent (mem_Mem__within_sound) <| gcons meter_Meter__Step_ent (meter_Meter__Step_sound) <| gnil) mixed Tryz.func287 (by kernel_rfl) _
   h
noncomputable def chain_Table__set_c {O : Type} (k383 k287 : Sm O) : Sm O := fun xs σ =>
 bif Nat.beq xs.length 4 then
 (AV.asAgg 5 (xs.getD 0 .u)).bind fun c0 =>
 (AV.asP (c0.getD 0 .u)).bind fun p1 =>
 I6 c0 1 fun n2 => I6 c0 2 fun n3 => I6 c0 3 fun n4 => I6 c0 4 fun n5 => (AV.asI .i64 (xs.getD 1 .u)).bind fun n6 =>
 (AV.asI .i64 (xs.getD 2 .u)).bind fun n7 =>
 (AV.asI .i64 (xs.getD 3 .u)).bind fun n8 =>
 let σ9 := σ.bump 1
 let σ10 := σ9.put σ.next (.cells true 328 [(.p p1), J n2, J n3, J n4, J n5])
 (σ10.ld (.n σ.next) 0).bind fun w11 =>
 (AV.asP w11).bind fun p12 =>
 (σ10.ld (.n σ.next) 1).bind fun w13 =>
 (AV.asI .i64 w13).bind fun n14 =>
 (σ10.ld (.n σ.next) 0).bind fun w15 =>
 (AV.asP w15).bind fun p16 =>
 (σ10.ld (.n σ.next) 1).bind fun w17 =>
 (AV.asI .i64 w17).bind fun n18 =>
 (σ10.ld (.n σ.next) 2).bind fun w19 =>
 (AV.asI .i64 w19).bind fun n20 =>
 (σ10.ld (.n σ.next) 3).bind fun w21 =>
 (AV.asI .i64 w21).bind fun n22 =>
 (σ10.ld (.n σ.next) 4).bind fun w23 =>
 (AV.asI .i64 w23).bind fun n24 =>
 (k383 [(.agg [(.p p16), J n18, J n20, J n22, J n24]), J n6, J n7] σ10).bind fun r25 =>
 (AV.asI .i64 r25.1).bind fun n26 =>
 (chkE (r25.2.ld (.n σ.next) 0) (some (.p p12))).bind fun _ =>
 (chkE (r25.2.ld (.n σ.next) 1) (some (.i .i64 n14))).bind fun _ =>
 (k287 [(.p p12), J n14, J n26, (.i .u64 (IntKind.u64.wrap n8))] r25.2).bind fun r27 =>
 (AV.asI .i64 r27.1).bind fun n28 =>
 some ((.tup []), r27.2)
 else none
noncomputable def chain_Table__set {O : Type} : Sm O := chain_Table__set_c chain_Table__at mem_Mem__Write
theorem chain_Table__set_ent : Entered Tryz.prog 388 := Tryz.call388
theorem chain_Table__set_run {O : Type} (k383 k287 : Sm O) : run (O := O) Tryz.prog [(383, k383), (287, k287)] Tryz.f388 (.n .z (.d [] [0, 1, 2, 3, 4, 5, 6, 8, 9, 7, 10] [0, 1, 0, 4, 0, 0, 0, 112, 0, 256, 1023])) = chain_Table__set_c k383 k287 := by kernel_rfl
theorem chain_Table__set_sound {O : Type} {RO : O → Loc → (Nat → Option Obj) → Prop} : FSound RO Tryz.prog 388 (chain_Table__set) :=
   have h : FSound RO Tryz.prog 388 (chain_Table__set_c chain_Table__at mem_Mem__Write) := (chain_Table__set_run chain_Table__at mem_Mem__Write) ▸ run_sound (gcons chain_Table__at_ent (chain_Table__at_sound) <| gcons mem_Mem__Write_ent (mem_Mem__Write_sound) <| gnil) mixed Tryz.func388 (by kernel_rfl) _
   h
noncomputable def chain_Table__Join_c {O : Type} (k381 k388 : Sm O) : Sm O := fun xs σ =>
 bif Nat.beq xs.length 3 then
 (AV.asAgg 5 (xs.getD 0 .u)).bind fun c0 =>
 (AV.asP (c0.getD 0 .u)).bind fun p1 =>
 I6 c0 1 fun n2 => I6 c0 2 fun n3 => I6 c0 3 fun n4 => I6 c0 4 fun n5 => (AV.asAgg 3 (xs.getD 1 .u)).bind fun c6 =>
 I6 c6 0 fun n7 => I6 c6 1 fun n8 => I6 c6 2 fun n9 => (AV.asAgg 3 (xs.getD 2 .u)).bind fun c10 =>
 I6 c10 0 fun n11 => I6 c10 1 fun n12 => I6 c10 2 fun n13 => let σ14 := σ.bump 4
 let σ15 := σ14.put σ.next (.cells true 328 [(.p p1), J n2, J n3, J n4, J n5])
 let σ16 := σ15.put (σ.next + 1) (.cells true 296 [J n7, J n8, J n9])
 let σ17 := σ16.put ((σ.next + 1) + 1) (.cells true 296 [J n11, J n12, J n13])
 let σ18 := σ17.put (((σ.next + 1) + 1) + 1) (.cells true 296 [J 0, J 0, J 0])
 (σ18.ld (.n σ.next) 0).bind fun w19 =>
 (AV.asP w19).bind fun p20 =>
 (σ18.ld (.n σ.next) 1).bind fun w21 =>
 (AV.asI .i64 w21).bind fun n22 =>
 (σ18.ld (.n σ.next) 2).bind fun w23 =>
 (AV.asI .i64 w23).bind fun n24 =>
 (σ18.ld (.n σ.next) 3).bind fun w25 =>
 (AV.asI .i64 w25).bind fun n26 =>
 (σ18.ld (.n σ.next) 4).bind fun w27 =>
 (AV.asI .i64 w27).bind fun n28 =>
 (k381 [(.agg [(.p p20), J n22, J n24, J n26, J n28])] σ18).bind fun r29 =>
 (AV.asB r29.1).bind fun b30 =>
 (bif (!b30) then
 none
 else (r29.2.ld (.n (σ.next + 1)) 2).bind fun w31 =>
 (AV.asI .i64 w31).bind fun n32 =>
 (bif ((n32 : Int) == 0) then
 (r29.2.ld (.n ((σ.next + 1) + 1)) 0).bind fun w33 =>
 (AV.asI .i64 w33).bind fun n34 =>
 (r29.2.ld (.n ((σ.next + 1) + 1)) 1).bind fun w35 =>
 (AV.asI .i64 w35).bind fun n36 =>
 (r29.2.ld (.n ((σ.next + 1) + 1)) 2).bind fun w37 =>
 (AV.asI .i64 w37).bind fun n38 =>
 (r29.2.st (.n (((σ.next + 1) + 1) + 1)) 0 [J n34, J n36, J n38]).bind fun σ39 =>
 (σ39.ld (.n (((σ.next + 1) + 1) + 1)) 0).bind fun w40 =>
 (AV.asI .i64 w40).bind fun n41 =>
 (σ39.ld (.n (((σ.next + 1) + 1) + 1)) 1).bind fun w42 =>
 (AV.asI .i64 w42).bind fun n43 =>
 (σ39.ld (.n (((σ.next + 1) + 1) + 1)) 2).bind fun w44 =>
 (AV.asI .i64 w44).bind fun n45 =>
 some ((.tup [(.agg [J n41, J n43, J n45]), J 0]), σ39)
 else none))
 else none
noncomputable def chain_Table__Join {O : Type} : Sm O := chain_Table__Join_c chain_Table__Right chain_Table__set
theorem chain_Table__Join_ent : Entered Tryz.prog 415 := Tryz.call415
theorem chain_Table__Join_run {O : Type} (k381 k388 : Sm O) : run (O := O) Tryz.prog [(381, k381), (388, k388)] Tryz.f415 (.n .z (.n (.n (.n .z (.n .x (.n .z (.n .z .x)))) .z) (.n .z (.n .z .z)))) = chain_Table__Join_c k381 k388 := by kernel_rfl
theorem chain_Table__Join_sound {O : Type} {RO : O → Loc → (Nat → Option Obj) → Prop} : FSound RO Tryz.prog 415 (chain_Table__Join) :=
   have h : FSound RO Tryz.prog 415 (chain_Table__Join_c chain_Table__Right chain_Table__set) := (chain_Table__Join_run chain_Table__Right chain_Table__set) ▸ run_sound (gcons chain_Table__Right_ent (chain_Table__Right_sound) <| gcons chain_Table__set_ent (chain_Table__set_sound) <| gnil) mixed Tryz.func415 (by kernel_rfl) _
   h
noncomputable def large_Large__Begin_c {O : Type} (k201 k415 : Sm O) : Sm O := fun xs σ =>
 bif Nat.beq xs.length 1 then
 (AV.asP (xs.getD 0 .u)).bind fun p0 =>
 Option.bind p0 fun q1 =>
 (σ.ld q1.1 (q1.2 + 8)).bind fun w2 =>
 (AV.asI .u64 w2).bind fun n3 =>
 Option.bind p0 fun q4 =>
 (σ.st q4.1 (q4.2 + 8) [(.i .u64 (IntKind.u64.wrap (n3 + 1)))]).bind fun σ5 =>
 Option.bind p0 fun q6 =>
 (σ5.ld q6.1 (q6.2 + 5)).bind fun w7 =>
 (AV.asI .i64 w7).bind fun n8 =>
 (σ5.ld q6.1 ((q6.2 + 5) + 1)).bind fun w9 =>
 (AV.asI .i64 w9).bind fun n10 =>
 (σ5.ld q6.1 (((q6.2 + 5) + 1) + 1)).bind fun w11 =>
 (AV.asI .i64 w11).bind fun n12 =>
 Option.bind p0 fun q13 =>
 (σ5.ld q13.1 (q13.2 + 2)).bind fun w14 =>
 (AV.asI .i64 w14).bind fun n15 =>
 (σ5.ld q13.1 ((q13.2 + 2) + 1)).bind fun w16 =>
 (AV.asI .i64 w16).bind fun n17 =>
 (σ5.ld q13.1 (((q13.2 + 2) + 1) + 1)).bind fun w18 =>
 (AV.asI .i64 w18).bind fun n19 =>
 (k201 [(.p p0)] σ5).bind fun r20 =>
 (AV.asAgg 5 r20.1).bind fun c21 =>
 (AV.asP (c21.getD 0 .u)).bind fun p22 =>
 I6 c21 1 fun n23 => I6 c21 2 fun n24 => I6 c21 3 fun n25 => I6 c21 4 fun n26 => (chkE (r20.2.ld q6.1 (q6.2 + 5)) (some (.i .i64 n8))).bind fun _ =>
 (chkE (r20.2.ld q6.1 ((q6.2 + 5) + 1)) (some (.i .i64 n10))).bind fun _ =>
 (chkE (r20.2.ld q6.1 (((q6.2 + 5) + 1) + 1)) (some (.i .i64 n12))).bind fun _ =>
 (chkE (r20.2.ld q13.1 (q13.2 + 2)) (some (.i .i64 n15))).bind fun _ =>
 (chkE (r20.2.ld q13.1 ((q13.2 + 2) + 1)) (some (.i .i64 n17))).bind fun _ =>
 (chkE (r20.2.ld q13.1 (((q13.2 + 2) + 1) + 1)) (some (.i .i64 n19))).bind fun _ =>
 (k415 [(.agg [(.p p22), J n23, J n24, J n25, J n26]), (.agg [J n8, J n10, J n12]), (.agg [J n15, J n17, J n19])] r20.2).bind fun r27 =>
 (AV.asTup 2 r27.1).bind fun c28 =>
 (AV.asAgg 3 (c28.getD 0 .u)).bind fun c29 =>
 I6 c29 0 fun n30 => I6 c29 1 fun n31 => I6 c29 2 fun n32 => I6 c28 1 fun n33 => Option.bind p0 fun q34 =>
 (r27.2.st q34.1 (q34.2 + 5) [J n30, J n31, J n32]).bind fun σ35 =>
 Option.bind p0 fun q36 =>
 (σ35.st q36.1 (q36.2 + 2) [J 0, J 0, J 0]).bind fun σ37 =>
 Option.bind p0 fun q38 =>
 (σ37.st q38.1 (q38.2 + 9) [J 0]).bind fun σ39 =>
 some ((.tup []), σ39)
 else none
noncomputable def large_Large__Begin {O : Type} : Sm O := large_Large__Begin_c large_Large__table chain_Table__Join
theorem large_Large__Begin_ent : Entered Tryz.prog 392 := Tryz.call392
theorem large_Large__Begin_run {O : Type} (k201 k415 : Sm O) : run (O := O) Tryz.prog [(201, k201), (415, k415)] Tryz.f392 (.n .z (.n (.d [] [0, 1, 3, 4, 5, 6, 7, 8, 9, 10, 2, 11, 12, 13, 14, 15, 16, 17] [0, 0, 2, 0, 8, 24, 56, 0, 128, 384, 896, 2046, 4094, 8190, 8190, 16383, 49151, 114687]) .z)) = large_Large__Begin_c k201 k415 := by kernel_rfl
theorem large_Large__Begin_sound {O : Type} {RO : O → Loc → (Nat → Option Obj) → Prop} : FSound RO Tryz.prog 392 (large_Large__Begin) :=
   have h : FSound RO Tryz.prog 392 (large_Large__Begin_c large_Large__table chain_Table__Join) := (large_Large__Begin_run large_Large__table chain_Table__Join) ▸ run_sound (gcons large_Large__table_ent (large_Large__table_sound) <| gcons chain_Table__Join_ent (chain_Table__Join_sound) <| gnil) mixed Tryz.func392 (by kernel_rfl) _
   h
noncomputable def evac_Mover__Begin_c {O : Type} (k111 k112 k391 k118 k392 : Sm O) : Sm O := fun xs σ =>
 bif Nat.beq xs.length 1 then
 (AV.asP (xs.getD 0 .u)).bind fun p0 =>
 Option.bind p0 fun q1 =>
 (σ.ld q1.1 q1.2).bind fun w2 =>
 (AV.asP w2).bind fun p3 =>
 (k111 [(.p p3)] σ).bind fun r4 =>
 (AV.asP r4.1).bind fun p5 =>
 (k112 [(.p p5)] r4.2).bind fun r6 =>
 (AV.asI .i64 r6.1).bind fun n7 =>
 (k391 [(.p p5), J n7] r6.2).bind fun r8 =>
 (AV.asI .i64 r8.1).bind fun n9 =>
 (bif ((n9 : Int) != 0) then
 none
 else Option.bind p0 fun q10 =>
 (r8.2.ld q10.1 q10.2).bind fun w11 =>
 (AV.asP w11).bind fun p12 =>
 (k118 [(.p p12)] r8.2).bind fun r13 =>
 (AV.asP r13.1).bind fun p14 =>
 (k392 [(.p p14)] r13.2).bind fun r15 =>
 (AV.asTup 0 r15.1).bind fun c16 =>
 some (J 0, r15.2))
 else none
noncomputable def evac_Mover__Begin {O : Type} : Sm O := evac_Mover__Begin_c store_Store__Semi semi_Semi__Top semi_Semi__Flip store_Store__Large large_Large__Begin
theorem evac_Mover__Begin_ent : Entered Tryz.prog 346 := Tryz.call346
theorem evac_Mover__Begin_run {O : Type} (k111 k112 k391 k118 k392 : Sm O) : run (O := O) Tryz.prog [(111, k111), (112, k112), (391, k391), (118, k118), (392, k392)] Tryz.f346 (.n .z (.n .z (.n (.n .z (.n .z (.n .x .z))) (.n .z .z)))) = evac_Mover__Begin_c k111 k112 k391 k118 k392 := by kernel_rfl
theorem evac_Mover__Begin_sound {O : Type} {RO : O → Loc → (Nat → Option Obj) → Prop} : FSound RO Tryz.prog 346 (evac_Mover__Begin) :=
   have h : FSound RO Tryz.prog 346 (evac_Mover__Begin_c store_Store__Semi semi_Semi__Top semi_Semi__Flip store_Store__Large large_Large__Begin) := (evac_Mover__Begin_run store_Store__Semi semi_Semi__Top semi_Semi__Flip store_Store__Large large_Large__Begin) ▸ run_sound (gcons store_Store__Semi_ent (store_Store__Semi_sound) <| gcons semi_Semi__Top_ent (semi_Semi__Top_sound) <| gcons semi_Semi__Flip_ent (semi_Semi__Flip_sound) <| gcons store_Store__Large_ent (store_Store__Large_sound) <| gcons large_Large__Begin_ent (large_Large__Begin_sound) <| gnil) mixed Tryz.func346 (by kernel_rfl) _
   h
noncomputable def audit_view__roots_1_c {O : Type} : Sm O := fun xs σ =>
 bif Nat.beq xs.length 3 then
 (AV.asI .i64 (xs.getD 0 .u)).bind fun n0 =>
 let σ1 := σ.bump 1
 let σ2 := σ1.put σ.next (.cells true 194 [J n0])
 some ((.fn (some (.func 126, [], [(xs.getD 1 .u), (.p (some ((.n σ.next), 0))), (xs.getD 2 .u)]))), σ2)
 else none
noncomputable def audit_view__roots_1 {O : Type} : Sm O := audit_view__roots_1_c
theorem audit_view__roots_1_ent : Entered Tryz.prog 125 := Tryz.call125
theorem audit_view__roots_1_run {O : Type} : run (O := O) Tryz.prog [] Tryz.f125 (.n .z .z) = audit_view__roots_1_c  := by kernel_rfl
theorem audit_view__roots_1_sound {O : Type} {RO : O → Loc → (Nat → Option Obj) → Prop} : FSound RO Tryz.prog 125 (audit_view__roots_1) :=
   have h : FSound RO Tryz.prog 125 (audit_view__roots_1_c) := (audit_view__roots_1_run) ▸ run_sound (gnil) mixed Tryz.func125 (by kernel_rfl) _
   h
noncomputable def mem_Mem__Read_c {O : Type} (k277 k278 : Sm O) : Sm O := fun xs σ =>
 bif Nat.beq xs.length 3 then
 (AV.asP (xs.getD 0 .u)).bind fun p0 =>
 (AV.asI .i64 (xs.getD 1 .u)).bind fun n1 =>
 (AV.asI .i64 (xs.getD 2 .u)).bind fun n2 =>
 (k277 [(.p p0), J n1, J n2, J 1] σ).bind fun r3 =>
 (AV.asTup 2 r3.1).bind fun c4 =>
 Is c4 0 fun l5 => I6 c4 1 fun n6 => (bif ((n6 : Int) != 0) then
 none
 else Option.bind p0 fun q7 =>
 (r3.2.ld q7.1 q7.2).bind fun w8 =>
 (AV.asP w8).bind fun p9 =>
 (k278 [(.p p9), J 0, J 1] r3.2).bind fun r10 =>
 (AV.asTup 0 r10.1).bind fun c11 =>
 (bif (decide ((0 : Int) < (l5.2 : Int))) then
 (SA.ref l5.1).bind fun q12 =>
 (r10.2.ld q12.1 q12.2).bind fun w13 =>
 (AV.asI .u64 w13).bind fun n14 =>
 some ((.tup [(.i .u64 n14), J 0]), r10.2)
 else none))
 else none
noncomputable def mem_Mem__Read {O : Type} : Sm O := mem_Mem__Read_c mem_Mem__within meter_Meter__Step
theorem mem_Mem__Read_ent : Entered Tryz.prog 195 := Tryz.call195
theorem mem_Mem__Read_run {O : Type} (k277 k278 : Sm O) : run (O := O) Tryz.prog [(277, k277), (278, k278)] Tryz.f195 (.n .z (.n .z (.n (.n .z (.n .x .z)) (.n .z .z)))) = mem_Mem__Read_c k277 k278 := by kernel_rfl
theorem mem_Mem__Read_sound {O : Type} {RO : O → Loc → (Nat → Option Obj) → Prop} : FSound RO Tryz.prog 195 (mem_Mem__Read) :=
   have h : FSound RO Tryz.prog 195 (mem_Mem__Read_c mem_Mem__within meter_Meter__Step) := (mem_Mem__Read_run mem_Mem__within meter_Meter__Step) ▸ run_sound (gcons mem_Mem__within_ent (mem_Mem__within_sound) <| gcons meter_Meter__Step_ent (meter_Meter__Step_sound) <| gnil) mixed Tryz.func195 (by kernel_rfl) _
   h
noncomputable def frames_Frames__Turn_L1 {O : Type}  : List AV × AH O → Option ((List AV × AH O) ⊕ (List AV × AH O)) := (fun r13 =>
 (AV.asB (r13.1.getD 0 .u)).bind fun b14 =>
 (bif b14 then
 none
 else some (Sum.inr ([], r13.2))))
noncomputable def frames_Frames__Turn_c {O : Type} (k195 k287 k125 : Sm O) : Sm O := fun xs σ =>
 bif Nat.beq xs.length 2 then
 (AV.asP (xs.getD 0 .u)).bind fun p0 =>
 (AV.asF (xs.getD 1 .u)).bind fun f1 =>
 (bif (Option.isNone f1) then
 none
 else let σ2 := σ.bump 1
 Option.bind p0 fun q3 =>
 (σ2.ld q3.1 (q3.2 + 5)).bind fun w4 =>
 (AV.asI .i64 w4).bind fun n5 =>
 (σ2.ld q3.1 ((q3.2 + 5) + 1)).bind fun w6 =>
 (AV.asI .i64 w6).bind fun n7 =>
 Option.bind p0 fun q8 =>
 (σ2.ld q8.1 (q8.2 + 4)).bind fun w9 =>
 (AV.asI .i64 w9).bind fun n10 =>
 let σ11 := σ2.put σ.next (.cells true 300 [J 0, J 0])
 (σ11.st (.n σ.next) 0 [J n5, J n7]).bind fun σ12 =>
 (chkE (σ12.ld q8.1 (q8.2 + 4)) (some (.i .i64 n10))).bind fun _ =>
 (loopF (S := List AV × AH O) (T := List AV × AH O) (frames_Frames__Turn_L1) ([(.b (decide (n10 > 0)))], σ12)).bind fun r15 =>
 some ((.tup []), r15.2))
 else none
noncomputable def frames_Frames__Turn {O : Type} : Sm O := frames_Frames__Turn_c mem_Mem__Read mem_Mem__Write audit_view__roots_1
theorem frames_Frames__Turn_ent : Entered Tryz.prog 206 := Tryz.call206
theorem frames_Frames__Turn_run {O : Type} (k195 k287 k125 : Sm O) : run (O := O) Tryz.prog [(195, k195), (287, k287), (125, k125)] Tryz.f206 (.n (.n .z (.n .x .z)) (.n (.d [] [0, 1, 2, 3, 4, 5, 6, 7, 8, 9, 10, 11] [0, 1, 3, 7, 0, 16, 48, 112, 240, 0, 527, 2047]) (.n (.lp false 0 [(5, .one .b)] [] (.n (.n .z (.n .x .z)) (.n (.n (.n .z (.n (.lp false 1000000 [(24, .one (.i .i64))] [] (.n .z (.n (.n .x .x) (.n (.n (.n .z (.n .z (.n (.d [] [0, 1, 2, 3, 4, 5, 6, 7, 8, 9, 10, 11, 12, 13, 14] [0, 1, 3, 7, 0, 16, 48, 112, 0, 511, 1023, 2047, 2047, 4095, 16383]) (.n .z (.n .x .x))))) .z) .z)))) .z)) .z) .z))) .z))) = frames_Frames__Turn_c k195 k287 k125 := by kernel_rfl
theorem frames_Frames__Turn_sound {O : Type} {RO : O → Loc → (Nat → Option Obj) → Prop} : FSound RO Tryz.prog 206 (frames_Frames__Turn) :=
   have h : FSound RO Tryz.prog 206 (frames_Frames__Turn_c mem_Mem__Read mem_Mem__Write audit_view__roots_1) := (frames_Frames__Turn_run mem_Mem__Read mem_Mem__Write audit_view__roots_1) ▸ run_sound (gcons mem_Mem__Read_ent (mem_Mem__Read_sound) <| gcons mem_Mem__Write_ent (mem_Mem__Write_sound) <| gcons audit_view__roots_1_ent (audit_view__roots_1_sound) <| gnil) mixed Tryz.func206 (by kernel_rfl) _
   h
noncomputable def mem_Mem__Size_c {O : Type} (k321 : Sm O) : Sm O := fun xs σ =>
 bif Nat.beq xs.length 2 then
 (AV.asP (xs.getD 0 .u)).bind fun p0 =>
 (AV.asI .i64 (xs.getD 1 .u)).bind fun n1 =>
 (k321 [(.p p0), J n1] σ).bind fun r2 =>
 (AV.asP r2.1).bind fun p3 =>
 (bif (Option.isNone p3) then
 none
 else Option.bind p3 fun q4 =>
 (r2.2.ld q4.1 q4.2).bind fun w5 =>
 (AV.asSl w5).bind fun l6 =>
 some ((.tup [(.i .i64 (l6.2 : Int)), J 0]), r2.2))
 else none
noncomputable def mem_Mem__Size {O : Type} : Sm O := mem_Mem__Size_c mem_Mem__at
theorem mem_Mem__Size_ent : Entered Tryz.prog 389 := Tryz.call389
theorem mem_Mem__Size_run {O : Type} (k321 : Sm O) : run (O := O) Tryz.prog [(321, k321)] Tryz.f389 (.n .z (.n .z (.n (.n .z (.n .x .z)) .z))) = mem_Mem__Size_c k321 := by kernel_rfl
theorem mem_Mem__Size_sound {O : Type} {RO : O → Loc → (Nat → Option Obj) → Prop} : FSound RO Tryz.prog 389 (mem_Mem__Size) :=
   have h : FSound RO Tryz.prog 389 (mem_Mem__Size_c mem_Mem__at) := (mem_Mem__Size_run mem_Mem__at) ▸ run_sound (gcons mem_Mem__at_ent (mem_Mem__at_sound) <| gnil) mixed Tryz.func389 (by kernel_rfl) _
   h
noncomputable def chain_Table__Entries_c {O : Type} (k381 k389 : Sm O) : Sm O := fun xs σ =>
 bif Nat.beq xs.length 1 then
 (AV.asAgg 5 (xs.getD 0 .u)).bind fun c0 =>
 (AV.asP (c0.getD 0 .u)).bind fun p1 =>
 I6 c0 1 fun n2 => I6 c0 2 fun n3 => I6 c0 3 fun n4 => I6 c0 4 fun n5 => let σ6 := σ.bump 1
 let σ7 := σ6.put σ.next (.cells true 328 [(.p p1), J n2, J n3, J n4, J n5])
 (σ7.ld (.n σ.next) 0).bind fun w8 =>
 (AV.asP w8).bind fun p9 =>
 (σ7.ld (.n σ.next) 1).bind fun w10 =>
 (AV.asI .i64 w10).bind fun n11 =>
 (σ7.ld (.n σ.next) 2).bind fun w12 =>
 (AV.asI .i64 w12).bind fun n13 =>
 (σ7.ld (.n σ.next) 3).bind fun w14 =>
 (AV.asI .i64 w14).bind fun n15 =>
 (σ7.ld (.n σ.next) 4).bind fun w16 =>
 (AV.asI .i64 w16).bind fun n17 =>
 (k381 [(.agg [(.p p9), J n11, J n13, J n15, J n17])] σ7).bind fun r18 =>
 (AV.asB r18.1).bind fun b19 =>
 (bif (!b19) then
 none
 else (r18.2.ld (.n σ.next) 0).bind fun w20 =>
 (AV.asP w20).bind fun p21 =>
 (r18.2.ld (.n σ.next) 1).bind fun w22 =>
 (AV.asI .i64 w22).bind fun n23 =>
 (k389 [(.p p21), J n23] r18.2).bind fun r24 =>
 (AV.asTup 2 r24.1).bind fun c25 =>
 I6 c25 0 fun n26 => I6 c25 1 fun n27 => (r24.2.ld (.n σ.next) 2).bind fun w28 =>
 (AV.asI .i64 w28).bind fun n29 =>
 (bif (n29 == 0) then
 none
 else some ((.i .i64 (IntKind.i64.wrap (Int.tdiv n26 n29))), r24.2)))
 else none
noncomputable def chain_Table__Entries {O : Type} : Sm O := chain_Table__Entries_c chain_Table__Right mem_Mem__Size
theorem chain_Table__Entries_ent : Entered Tryz.prog 382 := Tryz.call382
theorem chain_Table__Entries_run {O : Type} (k381 k389 : Sm O) : run (O := O) Tryz.prog [(381, k381), (389, k389)] Tryz.f382 (.n .z (.n (.n .z (.n .x .z)) (.n .z .z))) = chain_Table__Entries_c k381 k389 := by kernel_rfl
theorem chain_Table__Entries_sound {O : Type} {RO : O → Loc → (Nat → Option Obj) → Prop} : FSound RO Tryz.prog 382 (chain_Table__Entries) :=
   have h : FSound RO Tryz.prog 382 (chain_Table__Entries_c chain_Table__Right mem_Mem__Size) := (chain_Table__Entries_run chain_Table__Right mem_Mem__Size) ▸ run_sound (gcons chain_Table__Right_ent (chain_Table__Right_sound) <| gcons mem_Mem__Size_ent (mem_Mem__Size_sound) <| gnil) mixed Tryz.func382 (by kernel_rfl) _
   h
noncomputable def chain_Table__check_c {O : Type} (k381 k382 : Sm O) : Sm O := fun xs σ =>
 bif Nat.beq xs.length 2 then
 (AV.asAgg 5 (xs.getD 0 .u)).bind fun c0 =>
 (AV.asP (c0.getD 0 .u)).bind fun p1 =>
 I6 c0 1 fun n2 => I6 c0 2 fun n3 => I6 c0 3 fun n4 => I6 c0 4 fun n5 => (AV.asI .i64 (xs.getD 1 .u)).bind fun n6 =>
 let σ7 := σ.bump 1
 let σ8 := σ7.put σ.next (.cells true 328 [(.p p1), J n2, J n3, J n4, J n5])
 (σ8.ld (.n σ.next) 0).bind fun w9 =>
 (AV.asP w9).bind fun p10 =>
 (σ8.ld (.n σ.next) 1).bind fun w11 =>
 (AV.asI .i64 w11).bind fun n12 =>
 (σ8.ld (.n σ.next) 2).bind fun w13 =>
 (AV.asI .i64 w13).bind fun n14 =>
 (σ8.ld (.n σ.next) 3).bind fun w15 =>
 (AV.asI .i64 w15).bind fun n16 =>
 (σ8.ld (.n σ.next) 4).bind fun w17 =>
 (AV.asI .i64 w17).bind fun n18 =>
 (k381 [(.agg [(.p p10), J n12, J n14, J n16, J n18])] σ8).bind fun r19 =>
 (AV.asB r19.1).bind fun b20 =>
 (bif (!b20) then
 none
 else ((bif ((decide (n6 < 1)) == false) then
 (r19.2.ld (.n σ.next) 0).bind fun w21 =>
 (AV.asP w21).bind fun p22 =>
 (r19.2.ld (.n σ.next) 1).bind fun w23 =>
 (AV.asI .i64 w23).bind fun n24 =>
 (r19.2.ld (.n σ.next) 2).bind fun w25 =>
 (AV.asI .i64 w25).bind fun n26 =>
 (r19.2.ld (.n σ.next) 3).bind fun w27 =>
 (AV.asI .i64 w27).bind fun n28 =>
 (r19.2.ld (.n σ.next) 4).bind fun w29 =>
 (AV.asI .i64 w29).bind fun n30 =>
 (k382 [(.agg [(.p p22), J n24, J n26, J n28, J n30])] r19.2).bind fun r31 =>
 (AV.asI .i64 r31.1).bind fun n32 =>
 some ([(.b (decide (n6 > n32)))], r31.2)
 else some ([(.b true)], r19.2)) : Option (List AV × AH O)).bind fun r33 =>
 (AV.asB (r33.1.getD 0 .u)).bind fun b34 =>
 (bif b34 then
 none
 else some (J 0, r33.2)))
 else none
noncomputable def chain_Table__check {O : Type} : Sm O := chain_Table__check_c chain_Table__Right chain_Table__Entries
theorem chain_Table__check_ent : Entered Tryz.prog 325 := Tryz.call325
theorem chain_Table__check_run {O : Type} (k381 k382 : Sm O) : run (O := O) Tryz.prog [(381, k381), (382, k382)] Tryz.f325 (.n .z (.n (.n (.n .z (.n .x (.n (.g [(2, 4, [(17, .one .b)])]) (.n .x .z)))) .z) .z)) = chain_Table__check_c k381 k382 := by kernel_rfl
theorem chain_Table__check_sound {O : Type} {RO : O → Loc → (Nat → Option Obj) → Prop} : FSound RO Tryz.prog 325 (chain_Table__check) :=
   have h : FSound RO Tryz.prog 325 (chain_Table__check_c chain_Table__Right chain_Table__Entries) := (chain_Table__check_run chain_Table__Right chain_Table__Entries) ▸ run_sound (gcons chain_Table__Right_ent (chain_Table__Right_sound) <| gcons chain_Table__Entries_ent (chain_Table__Entries_sound) <| gnil) mixed Tryz.func325 (by kernel_rfl) _
   h
noncomputable def chain_Table__get_c {O : Type} (k383 k195 : Sm O) : Sm O := fun xs σ =>
 bif Nat.beq xs.length 3 then
 (AV.asAgg 5 (xs.getD 0 .u)).bind fun c0 =>
 (AV.asP (c0.getD 0 .u)).bind fun p1 =>
 I6 c0 1 fun n2 => I6 c0 2 fun n3 => I6 c0 3 fun n4 => I6 c0 4 fun n5 => (AV.asI .i64 (xs.getD 1 .u)).bind fun n6 =>
 (AV.asI .i64 (xs.getD 2 .u)).bind fun n7 =>
 let σ8 := σ.bump 1
 let σ9 := σ8.put σ.next (.cells true 328 [(.p p1), J n2, J n3, J n4, J n5])
 (σ9.ld (.n σ.next) 0).bind fun w10 =>
 (AV.asP w10).bind fun p11 =>
 (σ9.ld (.n σ.next) 1).bind fun w12 =>
 (AV.asI .i64 w12).bind fun n13 =>
 (σ9.ld (.n σ.next) 0).bind fun w14 =>
 (AV.asP w14).bind fun p15 =>
 (σ9.ld (.n σ.next) 1).bind fun w16 =>
 (AV.asI .i64 w16).bind fun n17 =>
 (σ9.ld (.n σ.next) 2).bind fun w18 =>
 (AV.asI .i64 w18).bind fun n19 =>
 (σ9.ld (.n σ.next) 3).bind fun w20 =>
 (AV.asI .i64 w20).bind fun n21 =>
 (σ9.ld (.n σ.next) 4).bind fun w22 =>
 (AV.asI .i64 w22).bind fun n23 =>
 (k383 [(.agg [(.p p15), J n17, J n19, J n21, J n23]), J n6, J n7] σ9).bind fun r24 =>
 (AV.asI .i64 r24.1).bind fun n25 =>
 (chkE (r24.2.ld (.n σ.next) 0) (some (.p p11))).bind fun _ =>
 (chkE (r24.2.ld (.n σ.next) 1) (some (.i .i64 n13))).bind fun _ =>
 (k195 [(.p p11), J n13, J n25] r24.2).bind fun r26 =>
 (AV.asTup 2 r26.1).bind fun c27 =>
 (AV.asI .u64 (c27.getD 0 .u)).bind fun n28 =>
 I6 c27 1 fun n29 => some ((.i .i64 (IntKind.i64.wrap n28)), r26.2)
 else none
noncomputable def chain_Table__get {O : Type} : Sm O := chain_Table__get_c chain_Table__at mem_Mem__Read
theorem chain_Table__get_ent : Entered Tryz.prog 326 := Tryz.call326
theorem chain_Table__get_run {O : Type} (k383 k195 : Sm O) : run (O := O) Tryz.prog [(383, k383), (195, k195)] Tryz.f326 (.n .z (.n (.d [] [0, 1, 2, 3, 4, 5, 6, 7, 8, 9, 10, 11, 12, 13] [0, 1, 0, 4, 0, 0, 0, 112, 255, 511, 1023, 1023, 2047, 8191]) .z)) = chain_Table__get_c k383 k195 := by kernel_rfl
theorem chain_Table__get_sound {O : Type} {RO : O → Loc → (Nat → Option Obj) → Prop} : FSound RO Tryz.prog 326 (chain_Table__get) :=
   have h : FSound RO Tryz.prog 326 (chain_Table__get_c chain_Table__at mem_Mem__Read) := (chain_Table__get_run chain_Table__at mem_Mem__Read) ▸ run_sound (gcons chain_Table__at_ent (chain_Table__at_sound) <| gcons mem_Mem__Read_ent (mem_Mem__Read_sound) <| gnil) mixed Tryz.func326 (by kernel_rfl) _
   h
noncomputable def chain_Table__After_c {O : Type} (k325 k326 : Sm O) : Sm O := fun xs σ =>
 bif Nat.beq xs.length 2 then
 (AV.asAgg 5 (xs.getD 0 .u)).bind fun c0 =>
 (AV.asP (c0.getD 0 .u)).bind fun p1 =>
 I6 c0 1 fun n2 => I6 c0 2 fun n3 => I6 c0 3 fun n4 => I6 c0 4 fun n5 => (AV.asI .i64 (xs.getD 1 .u)).bind fun n6 =>
 let σ7 := σ.bump 1
 let σ8 := σ7.put σ.next (.cells true 328 [(.p p1), J n2, J n3, J n4, J n5])
 (σ8.ld (.n σ.next) 0).bind fun w9 =>
 (AV.asP w9).bind fun p10 =>
 (σ8.ld (.n σ.next) 1).bind fun w11 =>
 (AV.asI .i64 w11).bind fun n12 =>
 (σ8.ld (.n σ.next) 2).bind fun w13 =>
 (AV.asI .i64 w13).bind fun n14 =>
 (σ8.ld (.n σ.next) 3).bind fun w15 =>
 (AV.asI .i64 w15).bind fun n16 =>
 (σ8.ld (.n σ.next) 4).bind fun w17 =>
 (AV.asI .i64 w17).bind fun n18 =>
 (k325 [(.agg [(.p p10), J n12, J n14, J n16, J n18]), J n6] σ8).bind fun r19 =>
 (AV.asI .i64 r19.1).bind fun n20 =>
 (bif ((n20 : Int) != 0) then
 none
 else (r19.2.ld (.n σ.next) 0).bind fun w21 =>
 (AV.asP w21).bind fun p22 =>
 (r19.2.ld (.n σ.next) 1).bind fun w23 =>
 (AV.asI .i64 w23).bind fun n24 =>
 (r19.2.ld (.n σ.next) 2).bind fun w25 =>
 (AV.asI .i64 w25).bind fun n26 =>
 (r19.2.ld (.n σ.next) 3).bind fun w27 =>
 (AV.asI .i64 w27).bind fun n28 =>
 (r19.2.ld (.n σ.next) 4).bind fun w29 =>
 (AV.asI .i64 w29).bind fun n30 =>
 (r19.2.ld (.n σ.next) 3).bind fun w31 =>
 (AV.asI .i64 w31).bind fun n32 =>
 (k326 [(.agg [(.p p22), J n24, J n26, J n28, J n30]), J n6, J n32] r19.2).bind fun r33 =>
 (AV.asI .i64 r33.1).bind fun n34 =>
 some ((.tup [J n34, J 0]), r33.2))
 else none
noncomputable def chain_Table__After {O : Type} : Sm O := chain_Table__After_c chain_Table__check chain_Table__get
theorem chain_Table__After_ent : Entered Tryz.prog 284 := Tryz.call284
theorem chain_Table__After_run {O : Type} (k325 k326 : Sm O) : run (O := O) Tryz.prog [(325, k325), (326, k326)] Tryz.f284 (.n .z (.n (.n .z (.n .z (.n .x .z))) .z)) = chain_Table__After_c k325 k326 := by kernel_rfl
theorem chain_Table__After_sound {O : Type} {RO : O → Loc → (Nat → Option Obj) → Prop} : FSound RO Tryz.prog 284 (chain_Table__After) :=
   have h : FSound RO Tryz.prog 284 (chain_Table__After_c chain_Table__check chain_Table__get) := (chain_Table__After_run chain_Table__check chain_Table__get) ▸ run_sound (gcons chain_Table__check_ent (chain_Table__check_sound) <| gcons chain_Table__get_ent (chain_Table__get_sound) <| gnil) mixed Tryz.func284 (by kernel_rfl) _
   h
noncomputable def chain_Table__All_1_L1 {O : Type} (n6 : Int) (k284 : Sm O) (ky0 : Sm O) (f0 : Option (Fn × List AV × List AV)) (xs : List AV) : List AV × AH O → Option ((List AV × AH O) ⊕ (List AV × AH O)) := (fun r7 =>
 (AV.asI .i64 (r7.1.getD 0 .u)).bind fun n8 =>
 (AV.asI .i64 (r7.1.getD 1 .u)).bind fun n9 =>
 (bif (decide (n9 < n6)) then
 (callV [(284, k284), (1000000, ky0)] f0 [J n8] r7.2).bind fun r10 =>
 (AV.asB r10.1).bind fun b11 =>
 (bif (!b11) then
 none
 else (AV.asPS (xs.getD 2 .u)).bind fun q12 =>
 (r10.2.ld q12.1 q12.2).bind fun w13 =>
 (AV.asP w13).bind fun p14 =>
 (r10.2.ld q12.1 (q12.2 + 1)).bind fun w15 =>
 (AV.asI .i64 w15).bind fun n16 =>
 (r10.2.ld q12.1 ((q12.2 + 1) + 1)).bind fun w17 =>
 (AV.asI .i64 w17).bind fun n18 =>
 (r10.2.ld q12.1 (((q12.2 + 1) + 1) + 1)).bind fun w19 =>
 (AV.asI .i64 w19).bind fun n20 =>
 (r10.2.ld q12.1 ((((q12.2 + 1) + 1) + 1) + 1)).bind fun w21 =>
 (AV.asI .i64 w21).bind fun n22 =>
 (k284 [(.agg [(.p p14), J n16, J n18, J n20, J n22]), J n8] r10.2).bind fun r23 =>
 (AV.asTup 2 r23.1).bind fun c24 =>
 I6 c24 0 fun n25 => I6 c24 1 fun n26 => (bif ((n26 : Int) != 0) then
 none
 else some (Sum.inl ([J n25, (.i .i64 (IntKind.i64.wrap (n9 + 1)))], r23.2))))
 else some (Sum.inr ([], r7.2))))
noncomputable def chain_Table__All_1_c {O : Type} (k284 ky0 : Sm O) : Sm O := fun xs σ =>
 bif Nat.beq xs.length 3 then
 (AV.asF (xs.getD 0 .u)).bind fun f0 =>
 (AV.asPS (xs.getD 1 .u)).bind fun q1 =>
 (σ.ld q1.1 q1.2).bind fun w2 =>
 (AV.asI .i64 w2).bind fun n3 =>
 (AV.asPS (xs.getD 1 .u)).bind fun q4 =>
 (σ.ld q4.1 (q4.2 + 2)).bind fun w5 =>
 (AV.asI .i64 w5).bind fun n6 =>
 (loopF (S := List AV × AH O) (T := List AV × AH O) (chain_Table__All_1_L1 n6 k284 ky0 f0 xs) ([J n3, J 0], σ)).bind fun r27 =>
 some ((.tup []), r27.2)
 else none
noncomputable def chain_Table__All_1 {O : Type} (ky0 : Sm O) : Sm O := chain_Table__All_1_c chain_Table__After ky0
theorem chain_Table__All_1_ent : Entered Tryz.prog 283 := Tryz.call283
theorem chain_Table__All_1_run {O : Type} (k284 ky0 : Sm O) : run (O := O) Tryz.prog [(284, k284), (1000000, ky0)] Tryz.f283 (.n .z (.n .z (.n (.lp false 0 [(4, .one (.i .i64)), (11, .one (.i .i64))] [] (.n .z (.n .z (.n (.n (.n (.n .z (.n .x .z)) (.n .z (.n (.n .z (.n .x .z)) .z))) .z) .z)))) .z))) = chain_Table__All_1_c k284 ky0 := by kernel_rfl
theorem chain_Table__All_1_sound {O : Type} {RO : O → Loc → (Nat → Option Obj) → Prop} {ky0 : Sm O} (hy : YSound RO Tryz.prog ky0) : FSound RO Tryz.prog 283 (chain_Table__All_1 ky0) :=
   have h : FSound RO Tryz.prog 283 (chain_Table__All_1_c chain_Table__After ky0) := (chain_Table__All_1_run chain_Table__After ky0) ▸ run_sound (gcons chain_Table__After_ent (chain_Table__After_sound) <| gyld hy <| gnil) mixed Tryz.func283 (by kernel_rfl) _
   h
noncomputable def handles_Handles__table_c {O : Type} (k282 : Sm O) : Sm O := fun xs σ =>
 bif Nat.beq xs.length 1 then
 (AV.asP (xs.getD 0 .u)).bind fun p0 =>
 let σ1 := σ.bump 1
 let σ2 := σ1.put σ.next (.cells true 328 [(.p none), J 0, J 0, J 0, J 0])
 Option.bind p0 fun q3 =>
 (σ2.ld q3.1 q3.2).bind fun w4 =>
 (AV.asP w4).bind fun p5 =>
 (k282 [(.p p5), J 1, J 2] σ2).bind fun r6 =>
 (AV.asAgg 5 r6.1).bind fun c7 =>
 (AV.asP (c7.getD 0 .u)).bind fun p8 =>
 I6 c7 1 fun n9 => I6 c7 2 fun n10 => I6 c7 3 fun n11 => I6 c7 4 fun n12 => (r6.2.st (.n σ.next) 0 [(.p p8), J n9, J n10, J n11, J n12]).bind fun σ13 =>
 (σ13.ld (.n σ.next) 0).bind fun w14 =>
 (AV.asP w14).bind fun p15 =>
 (σ13.ld (.n σ.next) 1).bind fun w16 =>
 (AV.asI .i64 w16).bind fun n17 =>
 (σ13.ld (.n σ.next) 2).bind fun w18 =>
 (AV.asI .i64 w18).bind fun n19 =>
 (σ13.ld (.n σ.next) 3).bind fun w20 =>
 (AV.asI .i64 w20).bind fun n21 =>
 (σ13.ld (.n σ.next) 4).bind fun w22 =>
 (AV.asI .i64 w22).bind fun n23 =>
 some ((.agg [(.p p15), J n17, J n19, J n21, J n23]), σ13)
 else none
noncomputable def handles_Handles__table {O : Type} : Sm O := handles_Handles__table_c pool_Pool__Table
theorem handles_Handles__table_ent : Entered Tryz.prog 289 := Tryz.call289
theorem handles_Handles__table_run {O : Type} (k282 : Sm O) : run (O := O) Tryz.prog [(282, k282)] Tryz.f289 (.n .z .z) = handles_Handles__table_c k282 := by kernel_rfl
theorem handles_Handles__table_sound {O : Type} {RO : O → Loc → (Nat → Option Obj) → Prop} : FSound RO Tryz.prog 289 (handles_Handles__table) :=
   have h : FSound RO Tryz.prog 289 (handles_Handles__table_c pool_Pool__Table) := (handles_Handles__table_run pool_Pool__Table) ▸ run_sound (gcons pool_Pool__Table_ent (pool_Pool__Table_sound) <| gnil) mixed Tryz.func289 (by kernel_rfl) _
   h
noncomputable def chain_Table__All_c {O : Type} : Sm O := fun xs σ =>
 bif Nat.beq xs.length 2 then
 (AV.asAgg 5 (xs.getD 0 .u)).bind fun c0 =>
 (AV.asP (c0.getD 0 .u)).bind fun p1 =>
 I6 c0 1 fun n2 => I6 c0 2 fun n3 => I6 c0 3 fun n4 => I6 c0 4 fun n5 => (AV.asAgg 3 (xs.getD 1 .u)).bind fun c6 =>
 I6 c6 0 fun n7 => I6 c6 1 fun n8 => I6 c6 2 fun n9 => let σ10 := σ.bump 2
 let σ11 := σ10.put σ.next (.cells true 328 [(.p p1), J n2, J n3, J n4, J n5])
 let σ12 := σ11.put (σ.next + 1) (.cells true 296 [J n7, J n8, J n9])
 some ((.fn (some (.func 283, [], [(.p (some ((.n (σ.next + 1)), 0))), (.p (some ((.n σ.next), 0)))]))), σ12)
 else none
noncomputable def chain_Table__All {O : Type} : Sm O := chain_Table__All_c
theorem chain_Table__All_ent : Entered Tryz.prog 202 := Tryz.call202
theorem chain_Table__All_run {O : Type} : run (O := O) Tryz.prog [] Tryz.f202 (.n .z .z) = chain_Table__All_c  := by kernel_rfl
theorem chain_Table__All_sound {O : Type} {RO : O → Loc → (Nat → Option Obj) → Prop} : FSound RO Tryz.prog 202 (chain_Table__All) :=
   have h : FSound RO Tryz.prog 202 (chain_Table__All_c) := (chain_Table__All_run) ▸ run_sound (gnil) mixed Tryz.func202 (by kernel_rfl) _
   h
noncomputable def pool_Pool__at_c {O : Type} (k324 : Sm O) : Sm O := fun xs σ =>
 bif Nat.beq xs.length 3 then
 (AV.asP (xs.getD 0 .u)).bind fun p0 =>
 (AV.asI .i64 (xs.getD 1 .u)).bind fun n1 =>
 (AV.asI .i64 (xs.getD 2 .u)).bind fun n2 =>
 (k324 [(.p p0)] σ).bind fun r3 =>
 (AV.asI .i64 r3.1).bind fun n4 =>
 let v5 : Int := (IntKind.i64.wrap ((IntKind.i64.wrap (n1 - 1)) * n4))
 let v6 : Int := (IntKind.i64.wrap ((IntKind.i64.wrap (v5 + 1)) + n2))
 some (J v6, r3.2)
 else none
noncomputable def pool_Pool__at {O : Type} : Sm O := pool_Pool__at_c pool_Pool__width
theorem pool_Pool__at_ent : Entered Tryz.prog 286 := Tryz.call286
theorem pool_Pool__at_run {O : Type} (k324 : Sm O) : run (O := O) Tryz.prog [(324, k324)] Tryz.f286 (.n .z .z) = pool_Pool__at_c k324 := by kernel_rfl
theorem pool_Pool__at_sound {O : Type} {RO : O → Loc → (Nat → Option Obj) → Prop} : FSound RO Tryz.prog 286 (pool_Pool__at) :=
   have h : FSound RO Tryz.prog 286 (pool_Pool__at_c pool_Pool__width) := (pool_Pool__at_run pool_Pool__width) ▸ run_sound (gcons pool_Pool__width_ent (pool_Pool__width_sound) <| gnil) mixed Tryz.func286 (by kernel_rfl) _
   h
noncomputable def pool_Pool__look_c {O : Type} (k286 k195 : Sm O) : Sm O := fun xs σ =>
 bif Nat.beq xs.length 2 then
 (AV.asP (xs.getD 0 .u)).bind fun p0 =>
 (AV.asI .i64 (xs.getD 1 .u)).bind fun n1 =>
 ((bif ((decide (n1 < 1)) == false) then
 Option.bind p0 fun q2 =>
 (σ.ld q2.1 (q2.2 + 3)).bind fun w3 =>
 (AV.asI .i64 w3).bind fun n4 =>
 some ([(.b (decide (n1 > n4)))], σ)
 else some ([(.b true)], σ)) : Option (List AV × AH O)).bind fun r5 =>
 (AV.asB (r5.1.getD 0 .u)).bind fun b6 =>
 (bif b6 then
 none
 else Option.bind p0 fun q7 =>
 (r5.2.ld q7.1 q7.2).bind fun w8 =>
 (AV.asP w8).bind fun p9 =>
 Option.bind p0 fun q10 =>
 (r5.2.ld q10.1 (q10.2 + 1)).bind fun w11 =>
 (AV.asI .i64 w11).bind fun n12 =>
 (k286 [(.p p0), J n1, (.i .i64 (-1))] r5.2).bind fun r13 =>
 (AV.asI .i64 r13.1).bind fun n14 =>
 (chkE (r13.2.ld q7.1 q7.2) (some (.p p9))).bind fun _ =>
 (chkE (r13.2.ld q10.1 (q10.2 + 1)) (some (.i .i64 n12))).bind fun _ =>
 (k195 [(.p p9), J n12, J n14] r13.2).bind fun r15 =>
 (AV.asTup 2 r15.1).bind fun c16 =>
 (AV.asI .u64 (c16.getD 0 .u)).bind fun n17 =>
 I6 c16 1 fun n18 => some ((.tup [(.i .u64 n17), (.b true)]), r15.2))
 else none
noncomputable def pool_Pool__look {O : Type} : Sm O := pool_Pool__look_c pool_Pool__at mem_Mem__Read
theorem pool_Pool__look_ent : Entered Tryz.prog 384 := Tryz.call384
theorem pool_Pool__look_run {O : Type} (k286 k195 : Sm O) : run (O := O) Tryz.prog [(286, k286), (195, k195)] Tryz.f384 (.n .z (.n (.n (.g [(2, 6, [(17, .one .b)])]) (.n .x .z)) (.n (.d [] [0, 1, 2, 3, 4, 5, 6, 7, 8, 9, 10, 11, 12, 13, 14, 15, 16] [0, 1, 3, 7, 0, 16, 48, 112, 0, 0, 768, 2047, 4095, 8191, 8191, 16383, 65535]) .z))) = pool_Pool__look_c k286 k195 := by kernel_rfl
theorem pool_Pool__look_sound {O : Type} {RO : O → Loc → (Nat → Option Obj) → Prop} : FSound RO Tryz.prog 384 (pool_Pool__look) :=
   have h : FSound RO Tryz.prog 384 (pool_Pool__look_c pool_Pool__at mem_Mem__Read) := (pool_Pool__look_run pool_Pool__at mem_Mem__Read) ▸ run_sound (gcons pool_Pool__at_ent (pool_Pool__at_sound) <| gcons mem_Mem__Read_ent (mem_Mem__Read_sound) <| gnil) mixed Tryz.func384 (by kernel_rfl) _
   h
noncomputable def pool_Pool__Taken_c {O : Type} (k384 : Sm O) : Sm O := fun xs σ =>
 bif Nat.beq xs.length 2 then
 (AV.asP (xs.getD 0 .u)).bind fun p0 =>
 (AV.asI .i64 (xs.getD 1 .u)).bind fun n1 =>
 (k384 [(.p p0), J n1] σ).bind fun r2 =>
 (AV.asTup 2 r2.1).bind fun c3 =>
 (AV.asI .u64 (c3.getD 0 .u)).bind fun n4 =>
 (AV.asB (c3.getD 1 .u)).bind fun b5 =>
 ((bif (b5 == true) then
 some ([(.b (((ibits .and .u64 n4 1) : Int) == 1))], r2.2)
 else some ([(.b false)], r2.2)) : Option (List AV × AH O)).bind fun r6 =>
 (AV.asB (r6.1.getD 0 .u)).bind fun b7 =>
 some ((.b b7), r6.2)
 else none
noncomputable def pool_Pool__Taken {O : Type} : Sm O := pool_Pool__Taken_c pool_Pool__look
theorem pool_Pool__Taken_ent : Entered Tryz.prog 327 := Tryz.call327
theorem pool_Pool__Taken_run {O : Type} (k384 : Sm O) : run (O := O) Tryz.prog [(384, k384)] Tryz.f327 (.n .z (.n .z (.n (.g [(1, 3, [(18, .one .b)])]) .z))) = pool_Pool__Taken_c k384 := by kernel_rfl
theorem pool_Pool__Taken_sound {O : Type} {RO : O → Loc → (Nat → Option Obj) → Prop} : FSound RO Tryz.prog 327 (pool_Pool__Taken) :=
   have h : FSound RO Tryz.prog 327 (pool_Pool__Taken_c pool_Pool__look) := (pool_Pool__Taken_run pool_Pool__look) ▸ run_sound (gcons pool_Pool__look_ent (pool_Pool__look_sound) <| gnil) mixed Tryz.func327 (by kernel_rfl) _
   h
noncomputable def pool_Pool__check_c {O : Type} (k327 : Sm O) : Sm O := fun xs σ =>
 bif Nat.beq xs.length 3 then
 (AV.asP (xs.getD 0 .u)).bind fun p0 =>
 (AV.asI .i64 (xs.getD 1 .u)).bind fun n1 =>
 (AV.asI .i64 (xs.getD 2 .u)).bind fun n2 =>
 (k327 [(.p p0), J n1] σ).bind fun r3 =>
 (AV.asB r3.1).bind fun b4 =>
 (bif (!b4) then
 none
 else ((bif ((decide (n2 < 0)) == false) then
 Option.bind p0 fun q5 =>
 (r3.2.ld q5.1 (q5.2 + 2)).bind fun w6 =>
 (AV.asI .i64 w6).bind fun n7 =>
 some ([(.b (decide (n2 ≥ n7)))], r3.2)
 else some ([(.b true)], r3.2)) : Option (List AV × AH O)).bind fun r8 =>
 (AV.asB (r8.1.getD 0 .u)).bind fun b9 =>
 (bif b9 then
 none
 else some (J 0, r8.2)))
 else none
noncomputable def pool_Pool__check {O : Type} : Sm O := pool_Pool__check_c pool_Pool__Taken
theorem pool_Pool__check_ent : Entered Tryz.prog 285 := Tryz.call285
theorem pool_Pool__check_run {O : Type} (k327 : Sm O) : run (O := O) Tryz.prog [(327, k327)] Tryz.f285 (.n .z (.n (.n (.n .z (.n .x (.n (.g [(2, 6, [(22, .one .b)])]) (.n .x .z)))) .z) .z)) = pool_Pool__check_c k327 := by kernel_rfl
theorem pool_Pool__check_sound {O : Type} {RO : O → Loc → (Nat → Option Obj) → Prop} : FSound RO Tryz.prog 285 (pool_Pool__check) :=
   have h : FSound RO Tryz.prog 285 (pool_Pool__check_c pool_Pool__Taken) := (pool_Pool__check_run pool_Pool__Taken) ▸ run_sound (gcons pool_Pool__Taken_ent (pool_Pool__Taken_sound) <| gnil) mixed Tryz.func285 (by kernel_rfl) _
   h
noncomputable def pool_Pool__Get_c {O : Type} (k285 k286 k195 : Sm O) : Sm O := fun xs σ =>
 bif Nat.beq xs.length 3 then
 (AV.asP (xs.getD 0 .u)).bind fun p0 =>
 (AV.asI .i64 (xs.getD 1 .u)).bind fun n1 =>
 (AV.asI .i64 (xs.getD 2 .u)).bind fun n2 =>
 (k285 [(.p p0), J n1, J n2] σ).bind fun r3 =>
 (AV.asI .i64 r3.1).bind fun n4 =>
 (bif ((n4 : Int) != 0) then
 none
 else Option.bind p0 fun q5 =>
 (r3.2.ld q5.1 q5.2).bind fun w6 =>
 (AV.asP w6).bind fun p7 =>
 Option.bind p0 fun q8 =>
 (r3.2.ld q8.1 (q8.2 + 1)).bind fun w9 =>
 (AV.asI .i64 w9).bind fun n10 =>
 (k286 [(.p p0), J n1, J n2] r3.2).bind fun r11 =>
 (AV.asI .i64 r11.1).bind fun n12 =>
 (chkE (r11.2.ld q5.1 q5.2) (some (.p p7))).bind fun _ =>
 (chkE (r11.2.ld q8.1 (q8.2 + 1)) (some (.i .i64 n10))).bind fun _ =>
 (k195 [(.p p7), J n10, J n12] r11.2).bind fun r13 =>
 (AV.asTup 2 r13.1).bind fun c14 =>
 (AV.asI .u64 (c14.getD 0 .u)).bind fun n15 =>
 I6 c14 1 fun n16 => some ((.tup [(.i .u64 n15), J n16]), r13.2))
 else none
noncomputable def pool_Pool__Get {O : Type} : Sm O := pool_Pool__Get_c pool_Pool__check pool_Pool__at mem_Mem__Read
theorem pool_Pool__Get_ent : Entered Tryz.prog 203 := Tryz.call203
theorem pool_Pool__Get_run {O : Type} (k285 k286 k195 : Sm O) : run (O := O) Tryz.prog [(285, k285), (286, k286), (195, k195)] Tryz.f203 (.n .z (.n (.n .z (.n .z (.n .x .z))) (.n (.d [] [0, 1, 2, 3, 4, 5, 6, 7, 8, 9, 10, 11, 12, 13, 14, 15, 16] [0, 1, 3, 7, 0, 16, 48, 112, 0, 0, 0, 1792, 4095, 8191, 8191, 32767, 65535]) .z))) = pool_Pool__Get_c k285 k286 k195 := by kernel_rfl
theorem pool_Pool__Get_sound {O : Type} {RO : O → Loc → (Nat → Option Obj) → Prop} : FSound RO Tryz.prog 203 (pool_Pool__Get) :=
   have h : FSound RO Tryz.prog 203 (pool_Pool__Get_c pool_Pool__check pool_Pool__at mem_Mem__Read) := (pool_Pool__Get_run pool_Pool__check pool_Pool__at mem_Mem__Read) ▸ run_sound (gcons pool_Pool__check_ent (pool_Pool__check_sound) <| gcons pool_Pool__at_ent (pool_Pool__at_sound) <| gcons mem_Mem__Read_ent (mem_Mem__Read_sound) <| gnil) mixed Tryz.func203 (by kernel_rfl) _
   h
noncomputable def pool_Pool__Set_c {O : Type} (k285 k286 k287 : Sm O) : Sm O := fun xs σ =>
 bif Nat.beq xs.length 4 then
 (AV.asP (xs.getD 0 .u)).bind fun p0 =>
 (AV.asI .i64 (xs.getD 1 .u)).bind fun n1 =>
 (AV.asI .i64 (xs.getD 2 .u)).bind fun n2 =>
 (AV.asI .u64 (xs.getD 3 .u)).bind fun n3 =>
 (k285 [(.p p0), J n1, J n2] σ).bind fun r4 =>
 (AV.asI .i64 r4.1).bind fun n5 =>
 (bif ((n5 : Int) != 0) then
 none
 else Option.bind p0 fun q6 =>
 (r4.2.ld q6.1 q6.2).bind fun w7 =>
 (AV.asP w7).bind fun p8 =>
 Option.bind p0 fun q9 =>
 (r4.2.ld q9.1 (q9.2 + 1)).bind fun w10 =>
 (AV.asI .i64 w10).bind fun n11 =>
 (k286 [(.p p0), J n1, J n2] r4.2).bind fun r12 =>
 (AV.asI .i64 r12.1).bind fun n13 =>
 (chkE (r12.2.ld q6.1 q6.2) (some (.p p8))).bind fun _ =>
 (chkE (r12.2.ld q9.1 (q9.2 + 1)) (some (.i .i64 n11))).bind fun _ =>
 (k287 [(.p p8), J n11, J n13, (.i .u64 n3)] r12.2).bind fun r14 =>
 (AV.asI .i64 r14.1).bind fun n15 =>
 some (J n15, r14.2))
 else none
noncomputable def pool_Pool__Set {O : Type} : Sm O := pool_Pool__Set_c pool_Pool__check pool_Pool__at mem_Mem__Write
theorem pool_Pool__Set_ent : Entered Tryz.prog 290 := Tryz.call290
theorem pool_Pool__Set_run {O : Type} (k285 k286 k287 : Sm O) : run (O := O) Tryz.prog [(285, k285), (286, k286), (287, k287)] Tryz.f290 (.n .z (.n (.n .z (.n .z (.n .x .z))) (.n (.d [] [0, 1, 2, 3, 4, 5, 6, 7, 8, 9, 10, 12, 11, 13, 14] [0, 1, 3, 7, 0, 16, 48, 112, 0, 0, 0, 1792, 0, 8191, 16383]) .z))) = pool_Pool__Set_c k285 k286 k287 := by kernel_rfl
theorem pool_Pool__Set_sound {O : Type} {RO : O → Loc → (Nat → Option Obj) → Prop} : FSound RO Tryz.prog 290 (pool_Pool__Set) :=
   have h : FSound RO Tryz.prog 290 (pool_Pool__Set_c pool_Pool__check pool_Pool__at mem_Mem__Write) := (pool_Pool__Set_run pool_Pool__check pool_Pool__at mem_Mem__Write) ▸ run_sound (gcons pool_Pool__check_ent (pool_Pool__check_sound) <| gcons pool_Pool__at_ent (pool_Pool__at_sound) <| gcons mem_Mem__Write_ent (mem_Mem__Write_sound) <| gnil) mixed Tryz.func290 (by kernel_rfl) _
   h
noncomputable def handles_Handles__Turn_R0_c {O : Type} (k203 k290 : Sm O) : Sm O := roundW 207000 1 fun env0 ys0 blk0 σ =>
 (AV.asP (env0 2)).bind fun p0 =>
 (AV.asI .i64 (ys0.getD 0 .u)).bind fun n1 =>
 (busyL σ blk0).bind fun σ2 =>
 Option.bind p0 fun q3 =>
 (σ2.ld q3.1 q3.2).bind fun w4 =>
 (AV.asP w4).bind fun p5 =>
 Option.bind p5 fun q6 =>
 (σ2.ld q6.1 q6.2).bind fun w7 =>
 (AV.asP w7).bind fun p8 =>
 (k203 [(.p p8), J n1, J 0] σ2).bind fun r9 =>
 (AV.asTup 2 r9.1).bind fun c10 =>
 (AV.asI .u64 (c10.getD 0 .u)).bind fun n11 =>
 I6 c10 1 fun n12 => (bif ((n11 : Int) != 0) then
 none
 else (markL r9.2 blk0 .ready).bind fun σ => some (.b true, σ))
noncomputable def handles_Handles__Turn_R0 {O : Type} : Sm O := handles_Handles__Turn_R0_c pool_Pool__Get pool_Pool__Set
theorem handles_Handles__Turn_R0_run {O : Type} (k203 k290 : Sm O) : roundAt (O := O) Tryz.prog [(203, k203), (290, k290)] 207 Tryz.f207 0 [(2, .one .p)] [(16, .one (.i .i64))] (.n .z (.n (.n .z (.n .z (.n .x .z))) .z)) = handles_Handles__Turn_R0_c k203 k290 := by kernel_rfl
theorem handles_Handles__Turn_R0_sound {O : Type} {RO : O → Loc → (Nat → Option Obj) → Prop} : YSound RO Tryz.prog (handles_Handles__Turn_R0) :=
   have h : YSound RO Tryz.prog (handles_Handles__Turn_R0_c pool_Pool__Get pool_Pool__Set) := (handles_Handles__Turn_R0_run pool_Pool__Get pool_Pool__Set) ▸ roundAt_sound (gcons pool_Pool__Get_ent (pool_Pool__Get_sound) <| gcons pool_Pool__Set_ent (pool_Pool__Set_sound) <| gnil) mixed Tryz.func207 _ _ _ _
   h
noncomputable def handles_Handles__Turn_c {O : Type} (k289 k202 k203 k290 k125 kr283 : Sm O) : Sm O := fun xs σ =>
 bif Nat.beq xs.length 2 then
 (AV.asP (xs.getD 0 .u)).bind fun p0 =>
 (AV.asF (xs.getD 1 .u)).bind fun f1 =>
 let σ2 := σ.bump 2
 let σ3 := σ2.put σ.next (.cells true 217 [(.p p0)])
 let σ4 := σ3.put (σ.next + 1) (.cells true 252 [(.fn f1)])
 (σ4.ld (.n (σ.next + 1)) 0).bind fun w5 =>
 (AV.asF w5).bind fun f6 =>
 (bif (Option.isNone f6) then
 none
 else (σ4.ld (.n σ.next) 0).bind fun w7 =>
 (AV.asP w7).bind fun p8 =>
 (σ4.ld (.n σ.next) 0).bind fun w9 =>
 (AV.asP w9).bind fun p10 =>
 Option.bind p10 fun q11 =>
 (σ4.ld q11.1 (q11.2 + 1)).bind fun w12 =>
 (AV.asI .i64 w12).bind fun n13 =>
 (σ4.ld q11.1 ((q11.2 + 1) + 1)).bind fun w14 =>
 (AV.asI .i64 w14).bind fun n15 =>
 (σ4.ld q11.1 (((q11.2 + 1) + 1) + 1)).bind fun w16 =>
 (AV.asI .i64 w16).bind fun n17 =>
 (k289 [(.p p8)] σ4).bind fun r18 =>
 (AV.asAgg 5 r18.1).bind fun c19 =>
 (AV.asP (c19.getD 0 .u)).bind fun p20 =>
 I6 c19 1 fun n21 => I6 c19 2 fun n22 => I6 c19 3 fun n23 => I6 c19 4 fun n24 => (chkE (r18.2.ld (.n σ.next) 0) (some (.p p10))).bind fun _ =>
 (chkE (r18.2.ld q11.1 (q11.2 + 1)) (some (.i .i64 n13))).bind fun _ =>
 (chkE (r18.2.ld q11.1 ((q11.2 + 1) + 1)) (some (.i .i64 n15))).bind fun _ =>
 (chkE (r18.2.ld q11.1 (((q11.2 + 1) + 1) + 1)) (some (.i .i64 n17))).bind fun _ =>
 (k202 [(.agg [(.p p20), J n21, J n22, J n23, J n24]), (.agg [J n13, J n15, J n17])] r18.2).bind fun r25 =>
 (AV.asF r25.1).bind fun f26 =>
 (rangeV [(289, k289), (202, k202), (203, k203), (290, k290), (125, k125), (2000283, kr283)] f26 207000 [(2, (.p (some ((.n σ.next), 0))))] r25.2).bind fun r27 =>
 (lstN r27.2 r25.2.next).bind fun st28 =>
 let σ29 := r27.2.kill r25.2.next
 (bif Nat.beq st28 0 then
 some ((.tup []), σ29)
 else none))
 else none
noncomputable def handles_Handles__Turn {O : Type} : Sm O := handles_Handles__Turn_c handles_Handles__table chain_Table__All pool_Pool__Get pool_Pool__Set audit_view__roots_1 (chain_Table__All_1 (handles_Handles__Turn_R0))
theorem handles_Handles__Turn_ent : Entered Tryz.prog 207 := Tryz.call207
theorem handles_Handles__Turn_run {O : Type} (k289 k202 k203 k290 k125 kr283 : Sm O) : run (O := O) Tryz.prog [(289, k289), (202, k202), (203, k203), (290, k290), (125, k125), (2000283, kr283)] Tryz.f207 (.n .z (.n (.n .z (.n .x .z)) (.n (.d [] [0, 2, 3, 4, 5, 1, 6] [0, 1, 0, 4, 12, 28, 63]) (.n (.rf 207000 [2] []) .z)))) = handles_Handles__Turn_c k289 k202 k203 k290 k125 kr283 := by kernel_rfl
theorem handles_Handles__Turn_sound {O : Type} {RO : O → Loc → (Nat → Option Obj) → Prop} : FSound RO Tryz.prog 207 (handles_Handles__Turn) :=
   have h : FSound RO Tryz.prog 207 (handles_Handles__Turn_c handles_Handles__table chain_Table__All pool_Pool__Get pool_Pool__Set audit_view__roots_1 (chain_Table__All_1 (handles_Handles__Turn_R0))) := (handles_Handles__Turn_run handles_Handles__table chain_Table__All pool_Pool__Get pool_Pool__Set audit_view__roots_1 (chain_Table__All_1 (handles_Handles__Turn_R0))) ▸ run_soundR (gcons handles_Handles__table_ent (handles_Handles__table_sound) <| gcons chain_Table__All_ent (chain_Table__All_sound) <| gcons pool_Pool__Get_ent (pool_Pool__Get_sound) <| gcons pool_Pool__Set_ent (pool_Pool__Set_sound) <| gcons audit_view__roots_1_ent (audit_view__roots_1_sound) <| grf (c := 283) chain_Table__All_1_ent (chain_Table__All_1_sound (handles_Handles__Turn_R0_sound)) <| gnil) mixed Tryz.func207 (by kernel_rfl) _ (by kernel_rfl)
   h
noncomputable def roots_Roots__Turn_c {O : Type} (k206 k207 : Sm O) : Sm O := fun xs σ =>
 bif Nat.beq xs.length 2 then
 (AV.asP (xs.getD 0 .u)).bind fun p0 =>
 (AV.asF (xs.getD 1 .u)).bind fun f1 =>
 Option.bind p0 fun q2 =>
 (σ.ld q2.1 q2.2).bind fun w3 =>
 (AV.asP w3).bind fun p4 =>
 (k206 [(.p p4), (.fn f1)] σ).bind fun r5 =>
 (AV.asTup 0 r5.1).bind fun c6 =>
 Option.bind p0 fun q7 =>
 (r5.2.ld q7.1 (q7.2 + 1)).bind fun w8 =>
 (AV.asP w8).bind fun p9 =>
 (k207 [(.p p9), (.fn f1)] r5.2).bind fun r10 =>
 (AV.asTup 0 r10.1).bind fun c11 =>
 some ((.tup []), r10.2)
 else none
noncomputable def roots_Roots__Turn {O : Type} : Sm O := roots_Roots__Turn_c frames_Frames__Turn handles_Handles__Turn
theorem roots_Roots__Turn_ent : Entered Tryz.prog 127 := Tryz.call127
theorem roots_Roots__Turn_run {O : Type} (k206 k207 : Sm O) : run (O := O) Tryz.prog [(206, k206), (207, k207)] Tryz.f127 .z = roots_Roots__Turn_c k206 k207 := by kernel_rfl
theorem roots_Roots__Turn_sound {O : Type} {RO : O → Loc → (Nat → Option Obj) → Prop} : FSound RO Tryz.prog 127 (roots_Roots__Turn) :=
   have h : FSound RO Tryz.prog 127 (roots_Roots__Turn_c frames_Frames__Turn handles_Handles__Turn) := (roots_Roots__Turn_run frames_Frames__Turn handles_Handles__Turn) ▸ run_sound (gcons frames_Frames__Turn_ent (frames_Frames__Turn_sound) <| gcons handles_Handles__Turn_ent (handles_Handles__Turn_sound) <| gnil) mixed Tryz.func127 (by kernel_rfl) _
   h
noncomputable def grey_New_c {O : Type} : Sm O := fun xs σ =>
 bif Nat.beq xs.length 1 then
 (AV.asP (xs.getD 0 .u)).bind fun p0 =>
 let σ1 := σ.bump 1
 let σ2 := σ1.put σ.next (.cells true 438 [(.p p0), J 0, J 0])
 some ((.p (some ((.n σ.next), 0))), σ2)
 else none
noncomputable def grey_New {O : Type} : Sm O := grey_New_c
theorem grey_New_ent : Entered Tryz.prog 348 := Tryz.call348
theorem grey_New_run {O : Type} : run (O := O) Tryz.prog [] Tryz.f348 (.n .z .z) = grey_New_c  := by kernel_rfl
theorem grey_New_sound {O : Type} {RO : O → Loc → (Nat → Option Obj) → Prop} : FSound RO Tryz.prog 348 (grey_New) :=
   have h : FSound RO Tryz.prog 348 (grey_New_c) := (grey_New_run) ▸ run_sound (gnil) mixed Tryz.func348 (by kernel_rfl) _
   h
noncomputable def evac_Mover__Store_c {O : Type} : Sm O := fun xs σ =>
 bif Nat.beq xs.length 1 then
 (AV.asP (xs.getD 0 .u)).bind fun p0 =>
 Option.bind p0 fun q1 =>
 (σ.ld q1.1 q1.2).bind fun w2 =>
 (AV.asP w2).bind fun p3 =>
 some ((.p p3), σ)
 else none
noncomputable def evac_Mover__Store {O : Type} : Sm O := evac_Mover__Store_c
theorem evac_Mover__Store_ent : Entered Tryz.prog 425 := Tryz.call425
theorem evac_Mover__Store_run {O : Type} : run (O := O) Tryz.prog [] Tryz.f425 (.n .z .z) = evac_Mover__Store_c  := by kernel_rfl
theorem evac_Mover__Store_sound {O : Type} {RO : O → Loc → (Nat → Option Obj) → Prop} : FSound RO Tryz.prog 425 (evac_Mover__Store) :=
   have h : FSound RO Tryz.prog 425 (evac_Mover__Store_c) := (evac_Mover__Store_run) ▸ run_sound (gnil) mixed Tryz.func425 (by kernel_rfl) _
   h
noncomputable def large_Large__Grey_c {O : Type} (k201 k284 : Sm O) : Sm O := fun xs σ =>
 bif Nat.beq xs.length 1 then
 (AV.asP (xs.getD 0 .u)).bind fun p0 =>
 Option.bind p0 fun q1 =>
 (σ.ld q1.1 (q1.2 + 2)).bind fun w2 =>
 (AV.asI .i64 w2).bind fun n3 =>
 Option.bind p0 fun q4 =>
 (σ.ld q4.1 (q4.2 + 9)).bind fun w5 =>
 (AV.asI .i64 w5).bind fun n6 =>
 (bif ((n6 : Int) != 0) then
 none
 else (bif ((n3 : Int) == 0) then
 some ((.tup [J 0, (.b false)]), σ)
 else none))
 else none
noncomputable def large_Large__Grey {O : Type} : Sm O := large_Large__Grey_c large_Large__table chain_Table__After
theorem large_Large__Grey_ent : Entered Tryz.prog 434 := Tryz.call434
theorem large_Large__Grey_run {O : Type} (k201 k284 : Sm O) : run (O := O) Tryz.prog [(201, k201), (284, k284)] Tryz.f434 (.n .z (.n .z (.n (.n .z (.n .x .z)) (.n (.n .z (.n .z .x)) (.n .z .z))))) = large_Large__Grey_c k201 k284 := by kernel_rfl
theorem large_Large__Grey_sound {O : Type} {RO : O → Loc → (Nat → Option Obj) → Prop} : FSound RO Tryz.prog 434 (large_Large__Grey) :=
   have h : FSound RO Tryz.prog 434 (large_Large__Grey_c large_Large__table chain_Table__After) := (large_Large__Grey_run large_Large__table chain_Table__After) ▸ run_sound (gcons large_Large__table_ent (large_Large__table_sound) <| gcons chain_Table__After_ent (chain_Table__After_sound) <| gnil) mixed Tryz.func434 (by kernel_rfl) _
   h
noncomputable def grey_Scan__next_c {O : Type} (k425 k111 k112 k118 k434 : Sm O) : Sm O := fun xs σ =>
 bif Nat.beq xs.length 1 then
 (AV.asP (xs.getD 0 .u)).bind fun p0 =>
 Option.bind p0 fun q1 =>
 (σ.ld q1.1 (q1.2 + 1)).bind fun w2 =>
 (AV.asI .i64 w2).bind fun n3 =>
 Option.bind p0 fun q4 =>
 (σ.ld q4.1 q4.2).bind fun w5 =>
 (AV.asP w5).bind fun p6 =>
 (k425 [(.p p6)] σ).bind fun r7 =>
 (AV.asP r7.1).bind fun p8 =>
 (chkE (r7.2.ld q1.1 (q1.2 + 1)) (some (.i .i64 n3))).bind fun _ =>
 (k111 [(.p p8)] r7.2).bind fun r9 =>
 (AV.asP r9.1).bind fun p10 =>
 (chkE (r9.2.ld q1.1 (q1.2 + 1)) (some (.i .i64 n3))).bind fun _ =>
 (k112 [(.p p10)] r9.2).bind fun r11 =>
 (AV.asI .i64 r11.1).bind fun n12 =>
 (chkE (r11.2.ld q1.1 (q1.2 + 1)) (some (.i .i64 n3))).bind fun _ =>
 (bif (decide (n3 < n12)) then
 none
 else Option.bind p0 fun q13 =>
 (r11.2.ld q13.1 q13.2).bind fun w14 =>
 (AV.asP w14).bind fun p15 =>
 (k425 [(.p p15)] r11.2).bind fun r16 =>
 (AV.asP r16.1).bind fun p17 =>
 (k118 [(.p p17)] r16.2).bind fun r18 =>
 (AV.asP r18.1).bind fun p19 =>
 (k434 [(.p p19)] r18.2).bind fun r20 =>
 (AV.asTup 2 r20.1).bind fun c21 =>
 I6 c21 0 fun n22 => (AV.asB (c21.getD 1 .u)).bind fun b23 =>
 (bif (!b23) then
 some ((.tup [(.i .u64 0), (.b false)]), r20.2)
 else none))
 else none
noncomputable def grey_Scan__next {O : Type} : Sm O := grey_Scan__next_c evac_Mover__Store store_Store__Semi semi_Semi__Top store_Store__Large large_Large__Grey
theorem grey_Scan__next_ent : Entered Tryz.prog 424 := Tryz.call424
theorem grey_Scan__next_run {O : Type} (k425 k111 k112 k118 k434 : Sm O) : run (O := O) Tryz.prog [(425, k425), (111, k111), (112, k112), (118, k118), (434, k434)] Tryz.f424 (.n .z (.n (.n (.d [] [0, 1, 2, 3, 4, 5, 6, 7, 8, 9, 10, 11] [0, 1, 3, 7, 0, 16, 48, 112, 240, 496, 1008, 2047]) (.n .x .z)) (.n .z (.n (.n .z (.n .z .x)) (.n .z .z))))) = grey_Scan__next_c k425 k111 k112 k118 k434 := by kernel_rfl
theorem grey_Scan__next_sound {O : Type} {RO : O → Loc → (Nat → Option Obj) → Prop} : FSound RO Tryz.prog 424 (grey_Scan__next) :=
   have h : FSound RO Tryz.prog 424 (grey_Scan__next_c evac_Mover__Store store_Store__Semi semi_Semi__Top store_Store__Large large_Large__Grey) := (grey_Scan__next_run evac_Mover__Store store_Store__Semi semi_Semi__Top store_Store__Large large_Large__Grey) ▸ run_sound (gcons evac_Mover__Store_ent (evac_Mover__Store_sound) <| gcons store_Store__Semi_ent (store_Store__Semi_sound) <| gcons semi_Semi__Top_ent (semi_Semi__Top_sound) <| gcons store_Store__Large_ent (store_Store__Large_sound) <| gcons large_Large__Grey_ent (large_Large__Grey_sound) <| gnil) mixed Tryz.func424 (by kernel_rfl) _
   h
noncomputable def grey_Scan__Step_c {O : Type} (k424 k425 : Sm O) : Sm O := fun xs σ =>
 bif Nat.beq xs.length 1 then
 (AV.asP (xs.getD 0 .u)).bind fun p0 =>
 (k424 [(.p p0)] σ).bind fun r1 =>
 (AV.asTup 2 r1.1).bind fun c2 =>
 (AV.asI .u64 (c2.getD 0 .u)).bind fun n3 =>
 (AV.asB (c2.getD 1 .u)).bind fun b4 =>
 (bif (!b4) then
 some ((.b false), r1.2)
 else none)
 else none
noncomputable def grey_Scan__Step {O : Type} : Sm O := grey_Scan__Step_c grey_Scan__next evac_Mover__Store
theorem grey_Scan__Step_ent : Entered Tryz.prog 395 := Tryz.call395
theorem grey_Scan__Step_run {O : Type} (k424 k425 : Sm O) : run (O := O) Tryz.prog [(424, k424), (425, k425)] Tryz.f395 (.n .z (.n .z (.n (.n .z (.n .z .x)) (.n .z (.n .z (.n (.n .z (.n .x .x)) (.n (.n .z (.n .x .x)) (.n .z (.n .z .z))))))))) = grey_Scan__Step_c k424 k425 := by kernel_rfl
theorem grey_Scan__Step_sound {O : Type} {RO : O → Loc → (Nat → Option Obj) → Prop} : FSound RO Tryz.prog 395 (grey_Scan__Step) :=
   have h : FSound RO Tryz.prog 395 (grey_Scan__Step_c grey_Scan__next evac_Mover__Store) := (grey_Scan__Step_run grey_Scan__next evac_Mover__Store) ▸ run_sound (gcons grey_Scan__next_ent (grey_Scan__next_sound) <| gcons evac_Mover__Store_ent (evac_Mover__Store_sound) <| gnil) mixed Tryz.func395 (by kernel_rfl) _
   h
noncomputable def grey_Scan__Run_L1 {O : Type} (k395 : Sm O) (p0 : Option (Bid × Nat)) : List AV × AH O → Option ((List AV × AH O) ⊕ (List AV × AH O)) := (fun r4 =>
 (k395 [(.p p0)] r4.2).bind fun r5 =>
 (AV.asB r5.1).bind fun b6 =>
 (bif b6 then
 none
 else some (Sum.inr ([], r5.2))))
noncomputable def grey_Scan__Run_c {O : Type} (k395 : Sm O) : Sm O := fun xs σ =>
 bif Nat.beq xs.length 1 then
 (AV.asP (xs.getD 0 .u)).bind fun p0 =>
 Option.bind p0 fun q1 =>
 (σ.ld q1.1 (q1.2 + 2)).bind fun w2 =>
 (AV.asI .i64 w2).bind fun n3 =>
 (loopF (S := List AV × AH O) (T := List AV × AH O) (grey_Scan__Run_L1 k395 p0) ([], σ)).bind fun r7 =>
 Option.bind p0 fun q8 =>
 (r7.2.ld q8.1 (q8.2 + 2)).bind fun w9 =>
 (AV.asI .i64 w9).bind fun n10 =>
 some ((.i .i64 (IntKind.i64.wrap (n10 - n3))), r7.2)
 else none
noncomputable def grey_Scan__Run {O : Type} : Sm O := grey_Scan__Run_c grey_Scan__Step
theorem grey_Scan__Run_ent : Entered Tryz.prog 349 := Tryz.call349
theorem grey_Scan__Run_run {O : Type} (k395 : Sm O) : run (O := O) Tryz.prog [(395, k395)] Tryz.f349 (.n .z (.n .z (.n (.n (.lp false 0 [] [] (.n (.n .z (.n .x .z)) .z)) .z) .z))) = grey_Scan__Run_c k395 := by kernel_rfl
theorem grey_Scan__Run_sound {O : Type} {RO : O → Loc → (Nat → Option Obj) → Prop} : FSound RO Tryz.prog 349 (grey_Scan__Run) :=
   have h : FSound RO Tryz.prog 349 (grey_Scan__Run_c grey_Scan__Step) := (grey_Scan__Run_run grey_Scan__Step) ▸ run_sound (gcons grey_Scan__Step_ent (grey_Scan__Step_sound) <| gnil) mixed Tryz.func349 (by kernel_rfl) _
   h
noncomputable def roots_Roots__TurnWeak_c {O : Type} (k207 : Sm O) : Sm O := fun xs σ =>
 bif Nat.beq xs.length 2 then
 (AV.asP (xs.getD 0 .u)).bind fun p0 =>
 (AV.asF (xs.getD 1 .u)).bind fun f1 =>
 Option.bind p0 fun q2 =>
 (σ.ld q2.1 (q2.2 + 2)).bind fun w3 =>
 (AV.asP w3).bind fun p4 =>
 (k207 [(.p p4), (.fn f1)] σ).bind fun r5 =>
 (AV.asTup 0 r5.1).bind fun c6 =>
 some ((.tup []), r5.2)
 else none
noncomputable def roots_Roots__TurnWeak {O : Type} : Sm O := roots_Roots__TurnWeak_c handles_Handles__Turn
theorem roots_Roots__TurnWeak_ent : Entered Tryz.prog 128 := Tryz.call128
theorem roots_Roots__TurnWeak_run {O : Type} (k207 : Sm O) : run (O := O) Tryz.prog [(207, k207)] Tryz.f128 .z = roots_Roots__TurnWeak_c k207 := by kernel_rfl
theorem roots_Roots__TurnWeak_sound {O : Type} {RO : O → Loc → (Nat → Option Obj) → Prop} : FSound RO Tryz.prog 128 (roots_Roots__TurnWeak) :=
   have h : FSound RO Tryz.prog 128 (roots_Roots__TurnWeak_c handles_Handles__Turn) := (roots_Roots__TurnWeak_run handles_Handles__Turn) ▸ run_sound (gcons handles_Handles__Turn_ent (handles_Handles__Turn_sound) <| gnil) mixed Tryz.func128 (by kernel_rfl) _
   h
noncomputable def sweep_Weaks_c {O : Type} (k128 : Sm O) : Sm O := fun xs σ =>
 bif Nat.beq xs.length 2 then
 (AV.asP (xs.getD 0 .u)).bind fun p0 =>
 (AV.asP (xs.getD 1 .u)).bind fun p1 =>
 let σ2 := σ.bump 1
 let σ3 := σ2.put σ.next (.cells true 403 [(.p p0)])
 let σ4 := σ3.bump 1
 let σ5 := σ4.put σ3.next (.cells true 3 [J 0])
 (σ5.st (.n σ3.next) 0 [J 0]).bind fun σ6 =>
 (k128 [(.p p1), (.fn (some (.func 396, [], [(.p (some ((.n σ.next), 0))), (.p (some ((.n σ3.next), 0)))])))] σ6).bind fun r7 =>
 (AV.asTup 0 r7.1).bind fun c8 =>
 (r7.2.ld (.n σ3.next) 0).bind fun w9 =>
 (AV.asI .i64 w9).bind fun n10 =>
 some (J n10, r7.2)
 else none
noncomputable def sweep_Weaks {O : Type} : Sm O := sweep_Weaks_c roots_Roots__TurnWeak
theorem sweep_Weaks_ent : Entered Tryz.prog 350 := Tryz.call350
theorem sweep_Weaks_run {O : Type} (k128 : Sm O) : run (O := O) Tryz.prog [(128, k128)] Tryz.f350 (.n .z (.n .z (.n .z .z))) = sweep_Weaks_c k128 := by kernel_rfl
theorem sweep_Weaks_sound {O : Type} {RO : O → Loc → (Nat → Option Obj) → Prop} : FSound RO Tryz.prog 350 (sweep_Weaks) :=
   have h : FSound RO Tryz.prog 350 (sweep_Weaks_c roots_Roots__TurnWeak) := (sweep_Weaks_run roots_Roots__TurnWeak) ▸ run_sound (gcons roots_Roots__TurnWeak_ent (roots_Roots__TurnWeak_sound) <| gnil) mixed Tryz.func350 (by kernel_rfl) _
   h
noncomputable def semi_Semi__OldTop_c {O : Type} : Sm O := fun xs σ =>
 bif Nat.beq xs.length 1 then
 (AV.asP (xs.getD 0 .u)).bind fun p0 =>
 Option.bind p0 fun q1 =>
 (σ.ld q1.1 ((q1.2 + 3) + 1)).bind fun w2 =>
 (AV.asI .i64 w2).bind fun n3 =>
 some (J n3, σ)
 else none
noncomputable def semi_Semi__OldTop {O : Type} : Sm O := semi_Semi__OldTop_c
theorem semi_Semi__OldTop_ent : Entered Tryz.prog 398 := Tryz.call398
theorem semi_Semi__OldTop_run {O : Type} : run (O := O) Tryz.prog [] Tryz.f398 (.n .z .z) = semi_Semi__OldTop_c  := by kernel_rfl
theorem semi_Semi__OldTop_sound {O : Type} {RO : O → Loc → (Nat → Option Obj) → Prop} : FSound RO Tryz.prog 398 (semi_Semi__OldTop) :=
   have h : FSound RO Tryz.prog 398 (semi_Semi__OldTop_c) := (semi_Semi__OldTop_run) ▸ run_sound (gnil) mixed Tryz.func398 (by kernel_rfl) _
   h
noncomputable def meter_Meter__Free_c {O : Type} : Sm O := fun xs σ =>
 bif Nat.beq xs.length 2 then
 (AV.asP (xs.getD 0 .u)).bind fun p0 =>
 (AV.asI .i64 (xs.getD 1 .u)).bind fun n1 =>
 ((bif ((Option.isNone p0) == false) then
 some ([(.b (decide (n1 < 0)))], σ)
 else some ([(.b true)], σ)) : Option (List AV × AH O)).bind fun r2 =>
 (AV.asB (r2.1.getD 0 .u)).bind fun b3 =>
 (bif b3 then
 none
 else Option.bind p0 fun q4 =>
 (r2.2.ld q4.1 (q4.2 + 4)).bind fun w5 =>
 (AV.asI .i64 w5).bind fun n6 =>
 (bif (decide (n1 > n6)) then
 none
 else Option.bind p0 fun q7 =>
 (r2.2.ld q7.1 (q7.2 + 4)).bind fun w8 =>
 (AV.asI .i64 w8).bind fun n9 =>
 Option.bind p0 fun q10 =>
 (r2.2.st q10.1 (q10.2 + 4) [(.i .i64 (IntKind.i64.wrap (n9 - n1)))]).bind fun σ11 =>
 some (J 0, σ11)))
 else none
noncomputable def meter_Meter__Free {O : Type} : Sm O := meter_Meter__Free_c
theorem meter_Meter__Free_ent : Entered Tryz.prog 414 := Tryz.call414
theorem meter_Meter__Free_run {O : Type} : run (O := O) Tryz.prog [] Tryz.f414 (.n .z (.n (.n (.n (.g [(2, 2, [(11, .one .b)])]) (.n .x (.n .z (.n .x .z)))) .z) (.n .z .z))) = meter_Meter__Free_c  := by kernel_rfl
theorem meter_Meter__Free_sound {O : Type} {RO : O → Loc → (Nat → Option Obj) → Prop} : FSound RO Tryz.prog 414 (meter_Meter__Free) :=
   have h : FSound RO Tryz.prog 414 (meter_Meter__Free_c) := (meter_Meter__Free_run) ▸ run_sound (gnil) mixed Tryz.func414 (by kernel_rfl) _
   h
noncomputable def mem_Mem__Close_c {O : Type} (k321 k414 : Sm O) : Sm O := fun xs σ =>
 bif Nat.beq xs.length 2 then
 (AV.asP (xs.getD 0 .u)).bind fun p0 =>
 (AV.asI .i64 (xs.getD 1 .u)).bind fun n1 =>
 (k321 [(.p p0), J n1] σ).bind fun r2 =>
 (AV.asP r2.1).bind fun p3 =>
 (bif (Option.isNone p3) then
 none
 else Option.bind p0 fun q4 =>
 (r2.2.ld q4.1 q4.2).bind fun w5 =>
 (AV.asP w5).bind fun p6 =>
 Option.bind p3 fun q7 =>
 (r2.2.ld q7.1 q7.2).bind fun w8 =>
 (AV.asSl w8).bind fun l9 =>
 (k414 [(.p p6), (.i .i64 (l9.2 : Int))] r2.2).bind fun r10 =>
 (AV.asI .i64 r10.1).bind fun n11 =>
 Option.bind p3 fun q12 =>
 (r10.2.st q12.1 q12.2 [N, (.b false)]).bind fun σ13 =>
 Option.bind p0 fun q14 =>
 (σ13.ld q14.1 (q14.2 + 2)).bind fun w15 =>
 (AV.asI .i64 w15).bind fun n16 =>
 Option.bind p0 fun q17 =>
 (σ13.ld q17.1 (q17.2 + 3)).bind fun w18 =>
 (AV.asI .i64 w18).bind fun n19 =>
 Option.bind p0 fun q20 =>
 (σ13.st q20.1 (q20.2 + 2) [(.i .i64 (if n1 < n16 then n1 else n16))]).bind fun σ21 =>
 Option.bind p0 fun q22 =>
 (σ21.st q22.1 (q22.2 + 3) [(.i .i64 (IntKind.i64.wrap (n19 - 1)))]).bind fun σ23 =>
 some (J 0, σ23))
 else none
noncomputable def mem_Mem__Close {O : Type} : Sm O := mem_Mem__Close_c mem_Mem__at meter_Meter__Free
theorem mem_Mem__Close_ent : Entered Tryz.prog 385 := Tryz.call385
theorem mem_Mem__Close_run {O : Type} (k321 k414 : Sm O) : run (O := O) Tryz.prog [(321, k321), (414, k414)] Tryz.f385 (.n .z (.n .z (.n (.n .z (.n .x .z)) (.n (.d [] [0, 1, 2, 3, 4, 5, 6, 7, 8, 9] [0, 1, 3, 7, 0, 16, 48, 112, 240, 511]) (.n .z (.n (.d [] [0, 1, 2, 3, 4, 5, 6, 7, 8, 9, 10, 11, 12, 13, 14, 15, 16, 17, 18] [0, 0, 0, 4, 12, 28, 0, 124, 0, 256, 768, 1792, 3840, 4093, 12285, 28669, 65535, 131071, 262143]) .z)))))) = mem_Mem__Close_c k321 k414 := by kernel_rfl
theorem mem_Mem__Close_sound {O : Type} {RO : O → Loc → (Nat → Option Obj) → Prop} : FSound RO Tryz.prog 385 (mem_Mem__Close) :=
   have h : FSound RO Tryz.prog 385 (mem_Mem__Close_c mem_Mem__at meter_Meter__Free) := (mem_Mem__Close_run mem_Mem__at meter_Meter__Free) ▸ run_sound (gcons mem_Mem__at_ent (mem_Mem__at_sound) <| gcons meter_Meter__Free_ent (meter_Meter__Free_sound) <| gnil) mixed Tryz.func385 (by kernel_rfl) _
   h
noncomputable def large_Large__Sweep_L1 {O : Type} (n6 : Int) : List AV × AH O → Option ((List AV × AH O) ⊕ (List AV × AH O)) := (fun r7 =>
 (AV.asI .i64 (r7.1.getD 0 .u)).bind fun n8 =>
 (AV.asI .i64 (r7.1.getD 1 .u)).bind fun n9 =>
 (AV.asI .i64 (r7.1.getD 2 .u)).bind fun n10 =>
 (bif (decide (n10 < n6)) then
 none
 else some (Sum.inr ([J n8, J n9], r7.2))))
noncomputable def large_Large__Sweep_c {O : Type} (k201 k284 k203 k385 : Sm O) : Sm O := fun xs σ =>
 bif Nat.beq xs.length 1 then
 (AV.asP (xs.getD 0 .u)).bind fun p0 =>
 Option.bind p0 fun q1 =>
 (σ.ld q1.1 (q1.2 + 5)).bind fun w2 =>
 (AV.asI .i64 w2).bind fun n3 =>
 Option.bind p0 fun q4 =>
 (σ.ld q4.1 ((q4.2 + 5) + 2)).bind fun w5 =>
 (AV.asI .i64 w5).bind fun n6 =>
 (loopF (S := List AV × AH O) (T := List AV × AH O) (large_Large__Sweep_L1 n6) ([J 0, J 0, J 0], σ)).bind fun r11 =>
 (AV.asI .i64 (r11.1.getD 0 .u)).bind fun n12 =>
 (AV.asI .i64 (r11.1.getD 1 .u)).bind fun n13 =>
 Option.bind p0 fun q14 =>
 (r11.2.st q14.1 (q14.2 + 5) [J 0, J 0, J 0]).bind fun σ15 =>
 Option.bind p0 fun q16 =>
 (σ15.ld q16.1 (q16.2 + 10)).bind fun w17 =>
 (AV.asI .i64 w17).bind fun n18 =>
 Option.bind p0 fun q19 =>
 (σ15.st q19.1 (q19.2 + 10) [(.i .i64 (IntKind.i64.wrap (n18 - n13)))]).bind fun σ20 =>
 some ((.tup [J n12, J n13]), σ20)
 else none
noncomputable def large_Large__Sweep {O : Type} : Sm O := large_Large__Sweep_c large_Large__table chain_Table__After pool_Pool__Get mem_Mem__Close
theorem large_Large__Sweep_ent : Entered Tryz.prog 399 := Tryz.call399
theorem large_Large__Sweep_run {O : Type} (k201 k284 k203 k385 : Sm O) : run (O := O) Tryz.prog [(201, k201), (284, k284), (203, k203), (385, k385)] Tryz.f399 (.n .z (.n .z (.n (.n .z (.n (.lp false 0 [(2, .one (.i .i64)), (3, .one (.i .i64)), (21, .one (.i .i64))] [(2, .one (.i .i64)), (3, .one (.i .i64))] (.n .z (.n (.n .x .z) (.n (.n (.n .z (.n .z (.n .z (.n .z (.n .z .z))))) .z) .z)))) .z)) (.n .z (.n .z .z))))) = large_Large__Sweep_c k201 k284 k203 k385 := by kernel_rfl
theorem large_Large__Sweep_sound {O : Type} {RO : O → Loc → (Nat → Option Obj) → Prop} : FSound RO Tryz.prog 399 (large_Large__Sweep) :=
   have h : FSound RO Tryz.prog 399 (large_Large__Sweep_c large_Large__table chain_Table__After pool_Pool__Get mem_Mem__Close) := (large_Large__Sweep_run large_Large__table chain_Table__After pool_Pool__Get mem_Mem__Close) ▸ run_sound (gcons large_Large__table_ent (large_Large__table_sound) <| gcons chain_Table__After_ent (chain_Table__After_sound) <| gcons pool_Pool__Get_ent (pool_Pool__Get_sound) <| gcons mem_Mem__Close_ent (mem_Mem__Close_sound) <| gnil) mixed Tryz.func399 (by kernel_rfl) _
   h
noncomputable def semi_Semi__End_c {O : Type} (k385 : Sm O) : Sm O := fun xs σ =>
 bif Nat.beq xs.length 1 then
 (AV.asP (xs.getD 0 .u)).bind fun p0 =>
 Option.bind p0 fun q1 =>
 (σ.ld q1.1 (q1.2 + 5)).bind fun w2 =>
 (AV.asB w2).bind fun b3 =>
 (bif (!b3) then
 none
 else Option.bind p0 fun q4 =>
 (σ.ld q4.1 q4.2).bind fun w5 =>
 (AV.asP w5).bind fun p6 =>
 Option.bind p0 fun q7 =>
 (σ.ld q7.1 (q7.2 + 3)).bind fun w8 =>
 (AV.asI .i64 w8).bind fun n9 =>
 (k385 [(.p p6), J n9] σ).bind fun r10 =>
 (AV.asI .i64 r10.1).bind fun n11 =>
 Option.bind p0 fun q12 =>
 (r10.2.st q12.1 (q12.2 + 3) [J 0, J 0]).bind fun σ13 =>
 Option.bind p0 fun q14 =>
 (σ13.st q14.1 (q14.2 + 5) [(.b false)]).bind fun σ15 =>
 some (J 0, σ15))
 else none
noncomputable def semi_Semi__End {O : Type} : Sm O := semi_Semi__End_c mem_Mem__Close
theorem semi_Semi__End_ent : Entered Tryz.prog 400 := Tryz.call400
theorem semi_Semi__End_run {O : Type} (k385 : Sm O) : run (O := O) Tryz.prog [(385, k385)] Tryz.f400 (.n .z (.n (.n .z (.n .x .z)) (.n (.d [] [0, 1, 2, 3, 4, 5, 6, 7, 8, 9] [0, 1, 3, 7, 0, 16, 48, 112, 240, 511]) (.n .z .z)))) = semi_Semi__End_c k385 := by kernel_rfl
theorem semi_Semi__End_sound {O : Type} {RO : O → Loc → (Nat → Option Obj) → Prop} : FSound RO Tryz.prog 400 (semi_Semi__End) :=
   have h : FSound RO Tryz.prog 400 (semi_Semi__End_c mem_Mem__Close) := (semi_Semi__End_run mem_Mem__Close) ▸ run_sound (gcons mem_Mem__Close_ent (mem_Mem__Close_sound) <| gnil) mixed Tryz.func400 (by kernel_rfl) _
   h
noncomputable def sweep_Rest_c {O : Type} (k111 k398 k112 k118 k399 k400 : Sm O) : Sm O := fun xs σ =>
 bif Nat.beq xs.length 1 then
 (AV.asP (xs.getD 0 .u)).bind fun p0 =>
 let σ1 := σ.bump 1
 let σ2 := σ1.put σ.next (.cells true 144 [J 0, J 0, J 0])
 let σ3 := σ2.bump 1
 let σ4 := σ3.put σ2.next (.cells true 144 [J 0, J 0, J 0])
 (k111 [(.p p0)] σ4).bind fun r5 =>
 (AV.asP r5.1).bind fun p6 =>
 (k398 [(.p p6)] r5.2).bind fun r7 =>
 (AV.asI .i64 r7.1).bind fun n8 =>
 (k111 [(.p p0)] r7.2).bind fun r9 =>
 (AV.asP r9.1).bind fun p10 =>
 (k112 [(.p p10)] r9.2).bind fun r11 =>
 (AV.asI .i64 r11.1).bind fun n12 =>
 let v13 : Int := (if 0 > (IntKind.i64.wrap (n8 - n12)) then 0 else (IntKind.i64.wrap (n8 - n12)))
 (r11.2.st (.n σ2.next) 2 [J v13]).bind fun σ14 =>
 (k118 [(.p p0)] σ14).bind fun r15 =>
 (AV.asP r15.1).bind fun p16 =>
 (k399 [(.p p16)] r15.2).bind fun r17 =>
 (AV.asTup 2 r17.1).bind fun c18 =>
 I6 c18 0 fun n19 => I6 c18 1 fun n20 => (r17.2.st (.n σ2.next) 0 [J n19]).bind fun σ21 =>
 (σ21.st (.n σ2.next) 1 [J n20]).bind fun σ22 =>
 (k111 [(.p p0)] σ22).bind fun r23 =>
 (AV.asP r23.1).bind fun p24 =>
 (k400 [(.p p24)] r23.2).bind fun r25 =>
 (AV.asI .i64 r25.1).bind fun n26 =>
 (r25.2.ld (.n σ2.next) 0).bind fun w27 =>
 (AV.asI .i64 w27).bind fun n28 =>
 (r25.2.ld (.n σ2.next) 1).bind fun w29 =>
 (AV.asI .i64 w29).bind fun n30 =>
 (r25.2.ld (.n σ2.next) 2).bind fun w31 =>
 (AV.asI .i64 w31).bind fun n32 =>
 (r25.2.st (.n σ.next) 0 [J n28, J n30, J n32]).bind fun σ33 =>
 (σ33.ld (.n σ.next) 0).bind fun w34 =>
 (AV.asI .i64 w34).bind fun n35 =>
 (σ33.ld (.n σ.next) 1).bind fun w36 =>
 (AV.asI .i64 w36).bind fun n37 =>
 (σ33.ld (.n σ.next) 2).bind fun w38 =>
 (AV.asI .i64 w38).bind fun n39 =>
 some ((.agg [J n35, J n37, J n39]), σ33)
 else none
noncomputable def sweep_Rest {O : Type} : Sm O := sweep_Rest_c store_Store__Semi semi_Semi__OldTop semi_Semi__Top store_Store__Large large_Large__Sweep semi_Semi__End
theorem sweep_Rest_ent : Entered Tryz.prog 351 := Tryz.call351
theorem sweep_Rest_run {O : Type} (k111 k398 k112 k118 k399 k400 : Sm O) : run (O := O) Tryz.prog [(111, k111), (398, k398), (112, k112), (118, k118), (399, k399), (400, k400)] Tryz.f351 (.n .z (.n .z (.n .z (.n .z (.n .z .z))))) = sweep_Rest_c k111 k398 k112 k118 k399 k400 := by kernel_rfl
theorem sweep_Rest_sound {O : Type} {RO : O → Loc → (Nat → Option Obj) → Prop} : FSound RO Tryz.prog 351 (sweep_Rest) :=
   have h : FSound RO Tryz.prog 351 (sweep_Rest_c store_Store__Semi semi_Semi__OldTop semi_Semi__Top store_Store__Large large_Large__Sweep semi_Semi__End) := (sweep_Rest_run store_Store__Semi semi_Semi__OldTop semi_Semi__Top store_Store__Large large_Large__Sweep semi_Semi__End) ▸ run_sound (gcons store_Store__Semi_ent (store_Store__Semi_sound) <| gcons semi_Semi__OldTop_ent (semi_Semi__OldTop_sound) <| gcons semi_Semi__Top_ent (semi_Semi__Top_sound) <| gcons store_Store__Large_ent (store_Store__Large_sound) <| gcons large_Large__Sweep_ent (large_Large__Sweep_sound) <| gcons semi_Semi__End_ent (semi_Semi__End_sound) <| gnil) mixed Tryz.func351 (by kernel_rfl) _
   h
noncomputable def wide_Cmp_c {O : Type} : Sm O := fun xs σ =>
 bif Nat.beq xs.length 2 then
 (AV.asAgg 2 (xs.getD 0 .u)).bind fun c0 =>
 (AV.asI .u64 (c0.getD 0 .u)).bind fun n1 =>
 (AV.asI .u64 (c0.getD 1 .u)).bind fun n2 =>
 (AV.asAgg 2 (xs.getD 1 .u)).bind fun c3 =>
 (AV.asI .u64 (c3.getD 0 .u)).bind fun n4 =>
 (AV.asI .u64 (c3.getD 1 .u)).bind fun n5 =>
 let σ6 := σ.bump 2
 let σ7 := σ6.put σ.next (.cells true 98 [(.i .u64 n1), (.i .u64 n2)])
 let σ8 := σ7.put (σ.next + 1) (.cells true 98 [(.i .u64 n4), (.i .u64 n5)])
 (σ8.ld (.n σ.next) 0).bind fun w9 =>
 (AV.asI .u64 w9).bind fun n10 =>
 (σ8.ld (.n σ.next) 1).bind fun w11 =>
 (AV.asI .u64 w11).bind fun n12 =>
 (σ8.ld (.n (σ.next + 1)) 0).bind fun w13 =>
 (AV.asI .u64 w13).bind fun n14 =>
 (σ8.ld (.n (σ.next + 1)) 1).bind fun w15 =>
 (AV.asI .u64 w15).bind fun n16 =>
 (bif (((n10 : Int) == n14) && (((n12 : Int) == n16) && true)) then
 some (J 0, σ8)
 else (σ8.ld (.n σ.next) 0).bind fun w17 =>
 (AV.asI .u64 w17).bind fun n18 =>
 (σ8.ld (.n (σ.next + 1)) 0).bind fun w19 =>
 (AV.asI .u64 w19).bind fun n20 =>
 ((bif ((decide (n18 < n20)) == false) then
 (σ8.ld (.n σ.next) 0).bind fun w21 =>
 (AV.asI .u64 w21).bind fun n22 =>
 (σ8.ld (.n (σ.next + 1)) 0).bind fun w23 =>
 (AV.asI .u64 w23).bind fun n24 =>
 ((bif (((n22 : Int) == n24) == true) then
 (σ8.ld (.n σ.next) 1).bind fun w25 =>
 (AV.asI .u64 w25).bind fun n26 =>
 (σ8.ld (.n (σ.next + 1)) 1).bind fun w27 =>
 (AV.asI .u64 w27).bind fun n28 =>
 some ([(.b (decide (n26 < n28)))], σ8)
 else some ([(.b false)], σ8)) : Option (List AV × AH O)).bind fun r29 =>
 (AV.asB (r29.1.getD 0 .u)).bind fun b30 =>
 some ([(.b b30)], r29.2)
 else some ([(.b true)], σ8)) : Option (List AV × AH O)).bind fun r31 =>
 (AV.asB (r31.1.getD 0 .u)).bind fun b32 =>
 (bif b32 then
 none
 else some (J 1, r31.2)))
 else none
noncomputable def wide_Cmp {O : Type} : Sm O := wide_Cmp_c
theorem wide_Cmp_ent : Entered Tryz.prog 109 := Tryz.call109
theorem wide_Cmp_run {O : Type} : run (O := O) Tryz.prog [] Tryz.f109 (.n .z (.n (.n (.n .z (.n .z (.n (.g [(5, 12, [(28, .one .b)]), (11, 5, [(27, .one .b)])]) (.n .x .z)))) .z) .z)) = wide_Cmp_c  := by kernel_rfl
theorem wide_Cmp_sound {O : Type} {RO : O → Loc → (Nat → Option Obj) → Prop} : FSound RO Tryz.prog 109 (wide_Cmp) :=
   have h : FSound RO Tryz.prog 109 (wide_Cmp_c) := (wide_Cmp_run) ▸ run_sound (gnil) mixed Tryz.func109 (by kernel_rfl) _
   h
noncomputable def wide_Less_c {O : Type} (k109 : Sm O) : Sm O := fun xs σ =>
 bif Nat.beq xs.length 2 then
 (AV.asAgg 2 (xs.getD 0 .u)).bind fun c0 =>
 (AV.asI .u64 (c0.getD 0 .u)).bind fun n1 =>
 (AV.asI .u64 (c0.getD 1 .u)).bind fun n2 =>
 (AV.asAgg 2 (xs.getD 1 .u)).bind fun c3 =>
 (AV.asI .u64 (c3.getD 0 .u)).bind fun n4 =>
 (AV.asI .u64 (c3.getD 1 .u)).bind fun n5 =>
 let σ6 := σ.bump 2
 let σ7 := σ6.put σ.next (.cells true 98 [(.i .u64 n1), (.i .u64 n2)])
 let σ8 := σ7.put (σ.next + 1) (.cells true 98 [(.i .u64 n4), (.i .u64 n5)])
 (σ8.ld (.n σ.next) 0).bind fun w9 =>
 (AV.asI .u64 w9).bind fun n10 =>
 (σ8.ld (.n σ.next) 1).bind fun w11 =>
 (AV.asI .u64 w11).bind fun n12 =>
 (σ8.ld (.n (σ.next + 1)) 0).bind fun w13 =>
 (AV.asI .u64 w13).bind fun n14 =>
 (σ8.ld (.n (σ.next + 1)) 1).bind fun w15 =>
 (AV.asI .u64 w15).bind fun n16 =>
 (k109 [(.agg [(.i .u64 n10), (.i .u64 n12)]), (.agg [(.i .u64 n14), (.i .u64 n16)])] σ8).bind fun r17 =>
 (AV.asI .i64 r17.1).bind fun n18 =>
 some ((.b (decide (n18 < 0))), r17.2)
 else none
noncomputable def wide_Less {O : Type} : Sm O := wide_Less_c wide_Cmp
theorem wide_Less_ent : Entered Tryz.prog 64 := Tryz.call64
theorem wide_Less_run {O : Type} (k109 : Sm O) : run (O := O) Tryz.prog [(109, k109)] Tryz.f64 (.n .z .z) = wide_Less_c k109 := by kernel_rfl
theorem wide_Less_sound {O : Type} {RO : O → Loc → (Nat → Option Obj) → Prop} : FSound RO Tryz.prog 64 (wide_Less) :=
   have h : FSound RO Tryz.prog 64 (wide_Less_c wide_Cmp) := (wide_Less_run wide_Cmp) ▸ run_sound (gcons wide_Cmp_ent (wide_Cmp_sound) <| gnil) mixed Tryz.func64 (by kernel_rfl) _
   h
noncomputable def wide_Sub_c {O : Type} (k64 k110 : Sm O) : Sm O := fun xs σ =>
 bif Nat.beq xs.length 2 then
 (AV.asAgg 2 (xs.getD 0 .u)).bind fun c0 =>
 (AV.asI .u64 (c0.getD 0 .u)).bind fun n1 =>
 (AV.asI .u64 (c0.getD 1 .u)).bind fun n2 =>
 (AV.asAgg 2 (xs.getD 1 .u)).bind fun c3 =>
 (AV.asI .u64 (c3.getD 0 .u)).bind fun n4 =>
 (AV.asI .u64 (c3.getD 1 .u)).bind fun n5 =>
 let σ6 := σ.bump 3
 let σ7 := σ6.put σ.next (.cells true 98 [(.i .u64 n1), (.i .u64 n2)])
 let σ8 := σ7.put (σ.next + 1) (.cells true 98 [(.i .u64 n4), (.i .u64 n5)])
 let σ9 := σ8.put ((σ.next + 1) + 1) (.cells true 98 [(.i .u64 0), (.i .u64 0)])
 (σ9.ld (.n σ.next) 0).bind fun w10 =>
 (AV.asI .u64 w10).bind fun n11 =>
 (σ9.ld (.n σ.next) 1).bind fun w12 =>
 (AV.asI .u64 w12).bind fun n13 =>
 (σ9.ld (.n (σ.next + 1)) 0).bind fun w14 =>
 (AV.asI .u64 w14).bind fun n15 =>
 (σ9.ld (.n (σ.next + 1)) 1).bind fun w16 =>
 (AV.asI .u64 w16).bind fun n17 =>
 (k64 [(.agg [(.i .u64 n11), (.i .u64 n13)]), (.agg [(.i .u64 n15), (.i .u64 n17)])] σ9).bind fun r18 =>
 (AV.asB r18.1).bind fun b19 =>
 (bif b19 then
 none
 else (r18.2.ld (.n σ.next) 1).bind fun w20 =>
 (AV.asI .u64 w20).bind fun n21 =>
 (r18.2.ld (.n (σ.next + 1)) 1).bind fun w22 =>
 (AV.asI .u64 w22).bind fun n23 =>
 (k110 [(.i .u64 n21), (.i .u64 n23), (.i .u64 0)] r18.2).bind fun r24 =>
 (AV.asTup 2 r24.1).bind fun c25 =>
 (AV.asI .u64 (c25.getD 0 .u)).bind fun n26 =>
 (AV.asI .u64 (c25.getD 1 .u)).bind fun n27 =>
 (r24.2.ld (.n σ.next) 0).bind fun w28 =>
 (AV.asI .u64 w28).bind fun n29 =>
 (r24.2.ld (.n (σ.next + 1)) 0).bind fun w30 =>
 (AV.asI .u64 w30).bind fun n31 =>
 (k110 [(.i .u64 n29), (.i .u64 n31), (.i .u64 n27)] r24.2).bind fun r32 =>
 (AV.asTup 2 r32.1).bind fun c33 =>
 (AV.asI .u64 (c33.getD 0 .u)).bind fun n34 =>
 (AV.asI .u64 (c33.getD 1 .u)).bind fun n35 =>
 (r32.2.st (.n ((σ.next + 1) + 1)) 0 [(.i .u64 n34), (.i .u64 n26)]).bind fun σ36 =>
 (σ36.ld (.n ((σ.next + 1) + 1)) 0).bind fun w37 =>
 (AV.asI .u64 w37).bind fun n38 =>
 (σ36.ld (.n ((σ.next + 1) + 1)) 1).bind fun w39 =>
 (AV.asI .u64 w39).bind fun n40 =>
 some ((.tup [(.agg [(.i .u64 n38), (.i .u64 n40)]), (.b true)]), σ36))
 else none
noncomputable def wide_Sub {O : Type} : Sm O := wide_Sub_c wide_Less bits_Sub64
theorem wide_Sub_ent : Entered Tryz.prog 67 := Tryz.call67
theorem wide_Sub_run {O : Type} (k64 k110 : Sm O) : run (O := O) Tryz.prog [(64, k64), (110, k110)] Tryz.f67 (.n .z (.n (.n .z (.n .x .z)) (.n .z (.n .z .z)))) = wide_Sub_c k64 k110 := by kernel_rfl
theorem wide_Sub_sound {O : Type} {RO : O → Loc → (Nat → Option Obj) → Prop} : FSound RO Tryz.prog 67 (wide_Sub) :=
   have h : FSound RO Tryz.prog 67 (wide_Sub_c wide_Less bits_Sub64) := (wide_Sub_run wide_Less bits_Sub64) ▸ run_sound (gcons wide_Less_ent (wide_Less_sound) <| gext bits_Sub64_ext <| gnil) mixed Tryz.func67 (by kernel_rfl) _
   h
noncomputable def meter_Meter__Since_c {O : Type} (k36 k67 : Sm O) : Sm O := fun xs σ =>
 bif Nat.beq xs.length 2 then
 (AV.asP (xs.getD 0 .u)).bind fun p0 =>
 (AV.asAgg 2 (xs.getD 1 .u)).bind fun c1 =>
 (AV.asI .u64 (c1.getD 0 .u)).bind fun n2 =>
 (AV.asI .u64 (c1.getD 1 .u)).bind fun n3 =>
 let σ4 := σ.bump 2
 let σ5 := σ4.put σ.next (.cells true 98 [(.i .u64 n2), (.i .u64 n3)])
 let σ6 := σ5.put (σ.next + 1) (.cells true 98 [(.i .u64 0), (.i .u64 0)])
 let σ7 := σ6.bump 1
 (σ7.ld (.n σ.next) 0).bind fun w8 =>
 (AV.asI .u64 w8).bind fun n9 =>
 (σ7.ld (.n σ.next) 1).bind fun w10 =>
 (AV.asI .u64 w10).bind fun n11 =>
 (k36 [(.p p0)] σ7).bind fun r12 =>
 (AV.asAgg 2 r12.1).bind fun c13 =>
 (AV.asI .u64 (c13.getD 0 .u)).bind fun n14 =>
 (AV.asI .u64 (c13.getD 1 .u)).bind fun n15 =>
 (chkE (r12.2.ld (.n σ.next) 0) (some (.i .u64 n9))).bind fun _ =>
 (chkE (r12.2.ld (.n σ.next) 1) (some (.i .u64 n11))).bind fun _ =>
 (k67 [(.agg [(.i .u64 n14), (.i .u64 n15)]), (.agg [(.i .u64 n9), (.i .u64 n11)])] r12.2).bind fun r16 =>
 (AV.asTup 2 r16.1).bind fun c17 =>
 (AV.asAgg 2 (c17.getD 0 .u)).bind fun c18 =>
 (AV.asI .u64 (c18.getD 0 .u)).bind fun n19 =>
 (AV.asI .u64 (c18.getD 1 .u)).bind fun n20 =>
 (AV.asB (c17.getD 1 .u)).bind fun b21 =>
 let σ22 := r16.2.put σ6.next (.cells true 98 [(.i .u64 0), (.i .u64 0)])
 (σ22.st (.n σ6.next) 0 [(.i .u64 n19), (.i .u64 n20)]).bind fun σ23 =>
 (σ23.ld (.n σ6.next) 0).bind fun w24 =>
 (AV.asI .u64 w24).bind fun n25 =>
 (σ23.ld (.n σ6.next) 1).bind fun w26 =>
 (AV.asI .u64 w26).bind fun n27 =>
 (σ23.st (.n (σ.next + 1)) 0 [(.i .u64 n25), (.i .u64 n27)]).bind fun σ28 =>
 (σ28.ld (.n (σ.next + 1)) 0).bind fun w29 =>
 (AV.asI .u64 w29).bind fun n30 =>
 (σ28.ld (.n (σ.next + 1)) 1).bind fun w31 =>
 (AV.asI .u64 w31).bind fun n32 =>
 some ((.agg [(.i .u64 n30), (.i .u64 n32)]), σ28)
 else none
noncomputable def meter_Meter__Since {O : Type} : Sm O := meter_Meter__Since_c meter_Meter__Steps wide_Sub
theorem meter_Meter__Since_ent : Entered Tryz.prog 65 := Tryz.call65
theorem meter_Meter__Since_run {O : Type} (k36 k67 : Sm O) : run (O := O) Tryz.prog [(36, k36), (67, k67)] Tryz.f65 (.n .z (.n (.d [] [0, 2, 1, 3, 4, 5, 6, 7, 8, 9] [0, 1, 0, 7, 15, 31, 31, 0, 191, 511]) .z)) = meter_Meter__Since_c k36 k67 := by kernel_rfl
theorem meter_Meter__Since_sound {O : Type} {RO : O → Loc → (Nat → Option Obj) → Prop} : FSound RO Tryz.prog 65 (meter_Meter__Since) :=
   have h : FSound RO Tryz.prog 65 (meter_Meter__Since_c meter_Meter__Steps wide_Sub) := (meter_Meter__Since_run meter_Meter__Steps wide_Sub) ▸ run_sound (gcons meter_Meter__Steps_ent (meter_Meter__Steps_sound) <| gcons wide_Sub_ent (wide_Sub_sound) <| gnil) mixed Tryz.func65 (by kernel_rfl) _
   h
noncomputable def cheney_Collect_c {O : Type} (k35 k36 k33 k343 k344 k346 k127 k348 k349 k350 k351 k65 : Sm O) : Sm O := fun xs σ =>
 bif Nat.beq xs.length 2 then
 (AV.asP (xs.getD 0 .u)).bind fun p0 =>
 (AV.asP (xs.getD 1 .u)).bind fun p1 =>
 let σ2 := σ.bump 1
 let σ3 := σ2.put σ.next (.cells true 146 [J 0, J 0, J 0, J 0, J 0, J 0, J 0, (.i .u64 0), (.i .u64 0), (.p none)])
 let σ4 := σ3.bump 1
 (k35 [(.p p0)] σ4).bind fun r5 =>
 (AV.asP r5.1).bind fun p6 =>
 Option.bind p6 fun q7 =>
 (r5.2.ld q7.1 q7.2).bind fun w8 =>
 (AV.asP w8).bind fun p9 =>
 (k36 [(.p p9)] r5.2).bind fun r10 =>
 (AV.asAgg 2 r10.1).bind fun c11 =>
 (AV.asI .u64 (c11.getD 0 .u)).bind fun n12 =>
 (AV.asI .u64 (c11.getD 1 .u)).bind fun n13 =>
 let σ14 := r10.2.put σ3.next (.cells true 98 [(.i .u64 0), (.i .u64 0)])
 (σ14.st (.n σ3.next) 0 [(.i .u64 n12), (.i .u64 n13)]).bind fun σ15 =>
 let σ16 := σ15.bump 1
 (k33 [] σ16).bind fun r17 =>
 (AV.asP r17.1).bind fun p18 =>
 (k343 [(.p p0)] r17.2).bind fun r19 =>
 (AV.asI .i64 r19.1).bind fun n20 =>
 let σ21 := r19.2.put σ15.next (.cells true 402 [(.p p18), J n20, J 0, J 0, J 0, J 0, J 0, J 0, J 0, (.i .u64 0), (.i .u64 0), (.p none)])
 (k344 [(.p p0), (.fn (some (.func 345, [(.p (some ((.n σ15.next), 0)))], [])))] σ21).bind fun r22 =>
 (AV.asP r22.1).bind fun p23 =>
 (k346 [(.p p23)] r22.2).bind fun r24 =>
 (AV.asI .i64 r24.1).bind fun n25 =>
 (bif ((n25 : Int) != 0) then
 none
 else (k127 [(.p p1), (.fn (some (.func 347, [(.p p23)], [])))] r24.2).bind fun r26 =>
 (AV.asTup 0 r26.1).bind fun c27 =>
 (k348 [(.p p23)] r26.2).bind fun r28 =>
 (AV.asP r28.1).bind fun p29 =>
 (k349 [(.p p29)] r28.2).bind fun r30 =>
 (AV.asI .i64 r30.1).bind fun n31 =>
 (k350 [(.p p23), (.p p1)] r30.2).bind fun r32 =>
 (AV.asI .i64 r32.1).bind fun n33 =>
 (r32.2.st (.n σ15.next) 5 [J n33]).bind fun σ34 =>
 (k351 [(.p p0)] σ34).bind fun r35 =>
 (AV.asAgg 3 r35.1).bind fun c36 =>
 I6 c36 0 fun n37 => I6 c36 1 fun n38 => I6 c36 2 fun n39 => (r35.2.st (.n σ15.next) 6 [J n37, J n38, J n39]).bind fun σ40 =>
 (σ40.ld (.n σ3.next) 0).bind fun w41 =>
 (AV.asI .u64 w41).bind fun n42 =>
 (σ40.ld (.n σ3.next) 1).bind fun w43 =>
 (AV.asI .u64 w43).bind fun n44 =>
 (k35 [(.p p0)] σ40).bind fun r45 =>
 (AV.asP r45.1).bind fun p46 =>
 (chkE (r45.2.ld (.n σ3.next) 0) (some (.i .u64 n42))).bind fun _ =>
 (chkE (r45.2.ld (.n σ3.next) 1) (some (.i .u64 n44))).bind fun _ =>
 Option.bind p46 fun q47 =>
 (r45.2.ld q47.1 q47.2).bind fun w48 =>
 (AV.asP w48).bind fun p49 =>
 (k65 [(.p p49), (.agg [(.i .u64 n42), (.i .u64 n44)])] r45.2).bind fun r50 =>
 (AV.asAgg 2 r50.1).bind fun c51 =>
 (AV.asI .u64 (c51.getD 0 .u)).bind fun n52 =>
 (AV.asI .u64 (c51.getD 1 .u)).bind fun n53 =>
 (r50.2.st (.n σ15.next) 9 [(.i .u64 n52), (.i .u64 n53)]).bind fun σ54 =>
 (σ54.ld (.n σ15.next) 0).bind fun w55 =>
 (AV.asP w55).bind fun p56 =>
 (σ54.st (.n σ15.next) 11 [(.p p56)]).bind fun σ57 =>
 (σ57.ld (.n σ15.next) 2).bind fun w58 =>
 (AV.asI .i64 w58).bind fun n59 =>
 (σ57.ld (.n σ15.next) 3).bind fun w60 =>
 (AV.asI .i64 w60).bind fun n61 =>
 (σ57.ld (.n σ15.next) 4).bind fun w62 =>
 (AV.asI .i64 w62).bind fun n63 =>
 (σ57.ld (.n σ15.next) 5).bind fun w64 =>
 (AV.asI .i64 w64).bind fun n65 =>
 (σ57.ld (.n σ15.next) 6).bind fun w66 =>
 (AV.asI .i64 w66).bind fun n67 =>
 (σ57.ld (.n σ15.next) 7).bind fun w68 =>
 (AV.asI .i64 w68).bind fun n69 =>
 (σ57.ld (.n σ15.next) 8).bind fun w70 =>
 (AV.asI .i64 w70).bind fun n71 =>
 (σ57.ld (.n σ15.next) 9).bind fun w72 =>
 (AV.asI .u64 w72).bind fun n73 =>
 (σ57.ld (.n σ15.next) 10).bind fun w74 =>
 (AV.asI .u64 w74).bind fun n75 =>
 (σ57.ld (.n σ15.next) 11).bind fun w76 =>
 (AV.asP w76).bind fun p77 =>
 (σ57.st (.n σ.next) 0 [J n59, J n61, J n63, J n65, J n67, J n69, J n71, (.i .u64 n73), (.i .u64 n75), (.p p77)]).bind fun σ78 =>
 (σ78.ld (.n σ.next) 0).bind fun w79 =>
 (AV.asI .i64 w79).bind fun n80 =>
 (σ78.ld (.n σ.next) 1).bind fun w81 =>
 (AV.asI .i64 w81).bind fun n82 =>
 (σ78.ld (.n σ.next) 2).bind fun w83 =>
 (AV.asI .i64 w83).bind fun n84 =>
 (σ78.ld (.n σ.next) 3).bind fun w85 =>
 (AV.asI .i64 w85).bind fun n86 =>
 (σ78.ld (.n σ.next) 4).bind fun w87 =>
 (AV.asI .i64 w87).bind fun n88 =>
 (σ78.ld (.n σ.next) 5).bind fun w89 =>
 (AV.asI .i64 w89).bind fun n90 =>
 (σ78.ld (.n σ.next) 6).bind fun w91 =>
 (AV.asI .i64 w91).bind fun n92 =>
 (σ78.ld (.n σ.next) 7).bind fun w93 =>
 (AV.asI .u64 w93).bind fun n94 =>
 (σ78.ld (.n σ.next) 8).bind fun w95 =>
 (AV.asI .u64 w95).bind fun n96 =>
 (σ78.ld (.n σ.next) 9).bind fun w97 =>
 (AV.asP w97).bind fun p98 =>
 some ((.tup [(.agg [J n80, J n82, J n84, J n86, J n88, J n90, J n92, (.i .u64 n94), (.i .u64 n96), (.p p98)]), J 0]), σ78))
 else none
noncomputable def cheney_Collect {O : Type} : Sm O := cheney_Collect_c store_Store__Mem meter_Meter__Steps census_New store_Store__Small evac_New evac_Mover__Begin roots_Roots__Turn grey_New grey_Scan__Run sweep_Weaks sweep_Rest meter_Meter__Since
theorem cheney_Collect_ent : Entered Tryz.prog 306 := Tryz.call306
theorem cheney_Collect_run {O : Type} (k35 k36 k33 k343 k344 k346 k127 k348 k349 k350 k351 k65 : Sm O) : run (O := O) Tryz.prog [(35, k35), (36, k36), (33, k33), (343, k343), (344, k344), (346, k346), (127, k127), (348, k348), (349, k349), (350, k350), (351, k351), (65, k65)] Tryz.f306 (.n .z (.n .z (.n .z (.n .z (.n (.n .z (.n .z (.n .x .z))) (.n .z (.n .z (.n .z (.n .z (.n (.d [] [0, 1, 6, 2, 3, 4, 5, 7, 8, 9, 10, 11] [0, 0, 2, 6, 14, 30, 0, 126, 255, 511, 1023, 2047]) (.n .z .z))))))))))) = cheney_Collect_c k35 k36 k33 k343 k344 k346 k127 k348 k349 k350 k351 k65 := by kernel_rfl
theorem cheney_Collect_sound {O : Type} {RO : O → Loc → (Nat → Option Obj) → Prop} : FSound RO Tryz.prog 306 (cheney_Collect) :=
   have h : FSound RO Tryz.prog 306 (cheney_Collect_c store_Store__Mem meter_Meter__Steps census_New store_Store__Small evac_New evac_Mover__Begin roots_Roots__Turn grey_New grey_Scan__Run sweep_Weaks sweep_Rest meter_Meter__Since) := (cheney_Collect_run store_Store__Mem meter_Meter__Steps census_New store_Store__Small evac_New evac_Mover__Begin roots_Roots__Turn grey_New grey_Scan__Run sweep_Weaks sweep_Rest meter_Meter__Since) ▸ run_sound (gcons store_Store__Mem_ent (store_Store__Mem_sound) <| gcons meter_Meter__Steps_ent (meter_Meter__Steps_sound) <| gcons census_New_ent (census_New_sound) <| gcons store_Store__Small_ent (store_Store__Small_sound) <| gcons evac_New_ent (evac_New_sound) <| gcons evac_Mover__Begin_ent (evac_Mover__Begin_sound) <| gcons roots_Roots__Turn_ent (roots_Roots__Turn_sound) <| gcons grey_New_ent (grey_New_sound) <| gcons grey_Scan__Run_ent (grey_Scan__Run_sound) <| gcons sweep_Weaks_ent (sweep_Weaks_sound) <| gcons sweep_Rest_ent (sweep_Rest_sound) <| gcons meter_Meter__Since_ent (meter_Meter__Since_sound) <| gnil) mixed Tryz.func306 (by kernel_rfl) _
   h
noncomputable def bits_Len64_c {O : Type} : Sm O := fun xs σ =>
 bif Nat.beq xs.length 1 then
 (AV.asI .u64 (xs.getD 0 .u)).bind fun n0 =>
 (bif (decide (n0 ≥ 4294967296)) then
 none
 else (bif (decide (n0 ≥ 65536)) then
 none
 else (bif (decide (n0 ≥ 256)) then
 none
 else (bif (decide ((0 : Int) ≤ (IntKind.u8.wrap n0))) then
 (([0, 1, 2, 2, 3, 3, 3, 3, 4, 4, 4, 4, 4, 4, 4, 4, 5, 5, 5, 5, 5, 5, 5, 5, 5, 5, 5, 5, 5, 5, 5, 5, 6, 6, 6, 6, 6, 6, 6, 6, 6, 6, 6, 6, 6, 6, 6, 6, 6, 6, 6, 6, 6, 6, 6, 6, 6, 6, 6, 6, 6, 6, 6, 6, 7, 7, 7, 7, 7, 7, 7, 7, 7, 7, 7, 7, 7, 7, 7, 7, 7, 7, 7, 7, 7, 7, 7, 7, 7, 7, 7, 7, 7, 7, 7, 7, 7, 7, 7, 7, 7, 7, 7, 7, 7, 7, 7, 7, 7, 7, 7, 7, 7, 7, 7, 7, 7, 7, 7, 7, 7, 7, 7, 7, 7, 7, 7, 7, 8, 8, 8, 8, 8, 8, 8, 8, 8, 8, 8, 8, 8, 8, 8, 8, 8, 8, 8, 8, 8, 8, 8, 8, 8, 8, 8, 8, 8, 8, 8, 8, 8, 8, 8, 8, 8, 8, 8, 8, 8, 8, 8, 8, 8, 8, 8, 8, 8, 8, 8, 8, 8, 8, 8, 8, 8, 8, 8, 8, 8, 8, 8, 8, 8, 8, 8, 8, 8, 8, 8, 8, 8, 8, 8, 8, 8, 8, 8, 8, 8, 8, 8, 8, 8, 8, 8, 8, 8, 8, 8, 8, 8, 8, 8, 8, 8, 8, 8, 8, 8, 8, 8, 8, 8, 8, 8, 8, 8, 8, 8, 8, 8, 8, 8, 8, 8, 8, 8, 8, 8, 8, 8, 8, 8, 8, 8, 8] : List UInt8)[(IntKind.u8.wrap n0).toNat]?).bind fun y1 =>
 let v2 : Int := (IntKind.i64.wrap (0 + (IntKind.i64.wrap (y1.toNat : Int))))
 some (J v2, σ)
 else none))))
 else none
noncomputable def bits_Len64 {O : Type} : Sm O := bits_Len64_c
theorem bits_Len64_ent : Entered Tryz.prog 363 := Tryz.call363
theorem bits_Len64_run {O : Type} : run (O := O) Tryz.prog [] Tryz.f363 (.n .z (.n (.n .z (.n .x .z)) (.n (.n .z (.n .x .z)) (.n (.n .z (.n .x .z)) .z)))) = bits_Len64_c  := by kernel_rfl
theorem bits_Len64_sound {O : Type} {RO : O → Loc → (Nat → Option Obj) → Prop} : FSound RO Tryz.prog 363 (bits_Len64) :=
   have h : FSound RO Tryz.prog 363 (bits_Len64_c) := (bits_Len64_run) ▸ run_sound (gnil) mixed Tryz.func363 (by kernel_rfl) _
   h
noncomputable def bits_Len_c {O : Type} (k363 : Sm O) : Sm O := fun xs σ =>
 bif Nat.beq xs.length 1 then
 (AV.asI .u64 (xs.getD 0 .u)).bind fun n0 =>
 (k363 [(.i .u64 n0)] σ).bind fun r1 =>
 (AV.asI .i64 r1.1).bind fun n2 =>
 some (J n2, r1.2)
 else none
noncomputable def bits_Len {O : Type} : Sm O := bits_Len_c bits_Len64
theorem bits_Len_ent : Entered Tryz.prog 315 := Tryz.call315
theorem bits_Len_run {O : Type} (k363 : Sm O) : run (O := O) Tryz.prog [(363, k363)] Tryz.f315 (.n .z (.n (.n .x .z) .z)) = bits_Len_c k363 := by kernel_rfl
theorem bits_Len_sound {O : Type} {RO : O → Loc → (Nat → Option Obj) → Prop} : FSound RO Tryz.prog 315 (bits_Len) :=
   have h : FSound RO Tryz.prog 315 (bits_Len_c bits_Len64) := (bits_Len_run bits_Len64) ▸ run_sound (gcons bits_Len64_ent (bits_Len64_sound) <| gnil) mixed Tryz.func315 (by kernel_rfl) _
   h
noncomputable def slices_insertionSortCmpFunc_census_Row__L1 {O : Type} (n2 : Int) : List AV × AH O → Option ((List AV × AH O) ⊕ (List AV × AH O)) := (fun r4 =>
 (AV.asI .i64 (r4.1.getD 0 .u)).bind fun n5 =>
 (bif (decide (n5 < n2)) then
 none
 else some (Sum.inr ([], r4.2))))
noncomputable def slices_insertionSortCmpFunc_census_Row__c {O : Type} : Sm O := fun xs σ =>
 bif Nat.beq xs.length 4 then
 (AV.asSl (xs.getD 0 .u)).bind fun l0 =>
 (AV.asI .i64 (xs.getD 1 .u)).bind fun n1 =>
 (AV.asI .i64 (xs.getD 2 .u)).bind fun n2 =>
 (AV.asF (xs.getD 3 .u)).bind fun f3 =>
 (loopF (S := List AV × AH O) (T := List AV × AH O) (slices_insertionSortCmpFunc_census_Row__L1 n2) ([(.i .i64 (IntKind.i64.wrap (n1 + 1)))], σ)).bind fun r6 =>
 some ((.tup []), r6.2)
 else none
noncomputable def slices_insertionSortCmpFunc_census_Row_ {O : Type} : Sm O := slices_insertionSortCmpFunc_census_Row__c
theorem slices_insertionSortCmpFunc_census_Row__ent : Entered Tryz.prog 354 := Tryz.call354
theorem slices_insertionSortCmpFunc_census_Row__run {O : Type} : run (O := O) Tryz.prog [] Tryz.f354 (.n .z (.n (.lp false 0 [(8, .one (.i .i64))] [] (.n (.n .z (.n .x .z)) (.n (.n (.n .z (.n (.lp false 1000000 [(9, .one (.i .i64))] [] (.n (.n (.d [(3, 12, [(34, .one .b)])] [0, 1, 2, 3, 4, 5, 6, 7, 8, 9, 10, 11, 12, 13, 14, 15, 16] [0, 0, 3, 7, 15, 15, 15, 111, 239, 15, 15, 1039, 3599, 7695, 16383, 32767, 65535]) (.n .x .x)) (.n (.n (.d [] [0, 1, 2, 3, 4, 5, 6, 7, 8, 9, 10, 11, 12, 13, 14, 15, 16, 17] [0, 0, 0, 0, 8, 0, 0, 64, 224, 480, 0, 0, 3072, 7168, 16355, 32739, 65535, 131071]) .z) .z))) .z)) .z) .z))) .z)) = slices_insertionSortCmpFunc_census_Row__c  := by kernel_rfl
theorem slices_insertionSortCmpFunc_census_Row__sound {O : Type} {RO : O → Loc → (Nat → Option Obj) → Prop} : FSound RO Tryz.prog 354 (slices_insertionSortCmpFunc_census_Row_) :=
   have h : FSound RO Tryz.prog 354 (slices_insertionSortCmpFunc_census_Row__c) := (slices_insertionSortCmpFunc_census_Row__run) ▸ run_sound (gnil) mixed Tryz.func354 (by kernel_rfl) _
   h
noncomputable def slices_pdqsortCmpFunc_census_Row__L1 {O : Type} (k354 : Sm O) (l0 : SA × Nat) (f4 : Option (Fn × List AV × List AV)) : List AV × AH O → Option ((List AV × AH O) ⊕ ((List AV × AH O) ⊕ (AV × AH O))) := (fun r5 =>
 (AV.asI .i64 (r5.1.getD 0 .u)).bind fun n6 =>
 (AV.asI .i64 (r5.1.getD 1 .u)).bind fun n7 =>
 (bif (decide ((IntKind.i64.wrap (n7 - n6)) ≤ 12)) then
 (k354 [L l0, J n6, J n7, (.fn f4)] r5.2).bind fun r8 =>
 (AV.asTup 0 r8.1).bind fun c9 =>
 ((some ((.tup []), r8.2) : Option (AV × AH O)).map fun r => Sum.inr (Sum.inr r))
 else none))
noncomputable def slices_pdqsortCmpFunc_census_Row__c {O : Type} (k354 k314 : Sm O) : Sm O := fun xs σ =>
 bif Nat.beq xs.length 5 then
 (AV.asSl (xs.getD 0 .u)).bind fun l0 =>
 (AV.asI .i64 (xs.getD 1 .u)).bind fun n1 =>
 (AV.asI .i64 (xs.getD 2 .u)).bind fun n2 =>
 (AV.asI .i64 (xs.getD 3 .u)).bind fun n3 =>
 (AV.asF (xs.getD 4 .u)).bind fun f4 =>
 bindS (S := List AV × AH O) (R := (AV × AH O)) (loopF (S := List AV × AH O) (T := (List AV × AH O) ⊕ (AV × AH O)) (slices_pdqsortCmpFunc_census_Row__L1 k354 l0 f4) ([J n1, J n2], σ)) fun r10 =>
 none
 else none
noncomputable def slices_pdqsortCmpFunc_census_Row_ {O : Type} (F : Nat) : Sm O := Nat.rec (motive := fun _ => Sm O) (fun _ _ => none) (fun F self => slices_pdqsortCmpFunc_census_Row__c slices_insertionSortCmpFunc_census_Row_ self) F
theorem slices_pdqsortCmpFunc_census_Row__ent : Entered Tryz.prog 314 := Tryz.call314
theorem slices_pdqsortCmpFunc_census_Row__run {O : Type} (k354 k314 : Sm O) : run (O := O) Tryz.prog [(354, k354), (314, k314)] Tryz.f314 (.n .z (.n .z (.n (.lp true 1000000 [(1, .one (.i .i64)), (2, .one (.i .i64))] [] (.n (.n .z (.n (.n .z (.n .z .x)) (.n (.n .z (.n .x .x)) (.n (.n .z (.n .x .x)) (.n .z (.n (.n .z (.n .x .x)) (.n (.n (.g [(1, 1, [(71, .one .b)]), (4, 2, [(75, .one .b)])]) (.n .x .x)) (.n (.n (.d [(2, 13, [(97, .one .b)])] [0, 1, 2, 3, 4, 5, 6, 7, 8, 9, 10, 11, 12, 13, 14, 15, 16] [0, 1, 3, 7, 7, 7, 39, 119, 247, 7, 7, 1543, 3591, 8191, 16383, 32767, 65535]) (.n .x .x)) (.n .z (.n .z (.n .z (.n .z (.n .z (.n .x .x)))))))))))))) .z)) .z))) = slices_pdqsortCmpFunc_census_Row__c k354 k314 := by kernel_rfl
theorem slices_pdqsortCmpFunc_census_Row__sound {O : Type} {RO : O → Loc → (Nat → Option Obj) → Prop} (F : Nat) : FSound RO Tryz.prog 314 (slices_pdqsortCmpFunc_census_Row_ F) := by
   induction F with
   | zero => exact fun xs σ v σ' h => by cases (show (none : Option (AV × AH O)) = some _ from h)
   | succ F ih =>
     have h : FSound RO Tryz.prog 314 (slices_pdqsortCmpFunc_census_Row__c slices_insertionSortCmpFunc_census_Row_ (slices_pdqsortCmpFunc_census_Row_ F)) := (slices_pdqsortCmpFunc_census_Row__run slices_insertionSortCmpFunc_census_Row_ (slices_pdqsortCmpFunc_census_Row_ F)) ▸ run_sound (gcons slices_insertionSortCmpFunc_census_Row__ent (slices_insertionSortCmpFunc_census_Row__sound) <| gcons slices_pdqsortCmpFunc_census_Row__ent ih <| gnil) mixed Tryz.func314 (by kernel_rfl) _
     exact h
noncomputable def slices_SortFunc_census_Row__c {O : Type} (k315 k314 : Sm O) : Sm O := fun xs σ =>
 bif Nat.beq xs.length 2 then
 (AV.asSl (xs.getD 0 .u)).bind fun l0 =>
 (AV.asF (xs.getD 1 .u)).bind fun f1 =>
 (k315 [(.i .u64 (IntKind.u64.wrap (l0.2 : Int)))] σ).bind fun r2 =>
 (AV.asI .i64 r2.1).bind fun n3 =>
 (k314 [L l0, J 0, (.i .i64 (l0.2 : Int)), J n3, (.fn f1)] r2.2).bind fun r4 =>
 (AV.asTup 0 r4.1).bind fun c5 =>
 some ((.tup []), r4.2)
 else none
noncomputable def slices_SortFunc_census_Row_ {O : Type} (F : Nat) : Sm O := slices_SortFunc_census_Row__c bits_Len (slices_pdqsortCmpFunc_census_Row_ F)
theorem slices_SortFunc_census_Row__ent : Entered Tryz.prog 260 := Tryz.call260
theorem slices_SortFunc_census_Row__run {O : Type} (k315 k314 : Sm O) : run (O := O) Tryz.prog [(315, k315), (314, k314)] Tryz.f260 .z = slices_SortFunc_census_Row__c k315 k314 := by kernel_rfl
theorem slices_SortFunc_census_Row__sound {O : Type} {RO : O → Loc → (Nat → Option Obj) → Prop} (F : Nat) : FSound RO Tryz.prog 260 (slices_SortFunc_census_Row_ F) :=
   have h : FSound RO Tryz.prog 260 (slices_SortFunc_census_Row__c bits_Len (slices_pdqsortCmpFunc_census_Row_ F)) := (slices_SortFunc_census_Row__run bits_Len (slices_pdqsortCmpFunc_census_Row_ F)) ▸ run_sound (gcons bits_Len_ent (bits_Len_sound) <| gcons slices_pdqsortCmpFunc_census_Row__ent (slices_pdqsortCmpFunc_census_Row__sound F) <| gnil) mixed Tryz.func260 (by kernel_rfl) _
   h
noncomputable def census_Census__Rows_c {O : Type} (k260 : Sm O) : Sm O := fun xs σ =>
 bif Nat.beq xs.length 1 then
 (AV.asP (xs.getD 0 .u)).bind fun p0 =>
 (bif (Option.isNone p0) then
 none
 else let σ1 := σ.bump 1
 Option.bind p0 fun q2 =>
 (σ1.ld q2.1 q2.2).bind fun w3 =>
 (AV.asMp w3).bind fun m4 =>
 (rangeM σ1 (.mp m4)).bind fun q5 =>
 let σ6 := σ1.put σ.next (.iter q5.1 [] q5.2.1 q5.2.2)
 (itOf σ6 (.p (some ((.n σ.next), 0)))).bind fun q7 =>
 (itOK σ6 q7.1 q7.2.1 [] q7.2.2.1 q7.2.2.2).bind fun _ =>
 (foldAny (S := List AV × AH O) (fun i8 dn9 r10 =>
 (AV.asSl (r10.1.getD 0 .u)).bind fun l12 =>
 let σ11 := r10.2.put q7.1 (.iter q7.2.1 (dn9 ++ [i8]) q7.2.2.1 q7.2.2.2)
 let σ13 := σ11.bump 2
 (entA σ13 (.p (some ((.n σ.next), 0)))).bind fun q14 =>
 (AV.asAgg 3 q14.1).bind fun c15 =>
 I6 c15 0 fun n16 => I6 c15 1 fun n17 => I6 c15 2 fun n18 => (AV.asAgg 2 q14.2).bind fun c19 =>
 I6 c19 0 fun n20 => I6 c19 1 fun n21 => let σ22 := σ13.put σ11.next (.cells true 283 [J 0, J 0, J 0])
 let σ23 := σ22.put (σ11.next + 1) (.cells true 151 [J 0, J 0])
 (σ23.st (.n σ11.next) 0 [J n16, J n17, J n18]).bind fun σ24 =>
 (σ24.st (.n (σ11.next + 1)) 0 [J n20, J n21]).bind fun σ25 =>
 let σ26 := σ25.bump 2
 (σ26.ld (.n σ11.next) 0).bind fun w27 =>
 (AV.asI .i64 w27).bind fun n28 =>
 (σ26.ld (.n σ11.next) 1).bind fun w29 =>
 (AV.asI .i64 w29).bind fun n30 =>
 (σ26.ld (.n σ11.next) 2).bind fun w31 =>
 (AV.asI .i64 w31).bind fun n32 =>
 (σ26.ld (.n (σ11.next + 1)) 0).bind fun w33 =>
 (AV.asI .i64 w33).bind fun n34 =>
 (σ26.ld (.n (σ11.next + 1)) 1).bind fun w35 =>
 (AV.asI .i64 w35).bind fun n36 =>
 let σ37 := σ26.put σ25.next (.cells true 285 [J n28, J n30, J n32, J n34, J n36])
 (σ37.rdSl (.loc (.n σ25.next) 0 5) 1 5).bind fun new38 =>
 (bif (Nat.ble ((l12.2 + 1) * 41) 35184372088832) then
 (σ37.appSl (σ25.next + 1) 285 5 l12.1 l12.2 1 new38).bind fun r39 =>
 (AV.asSl r39.1).bind fun l40 =>
 (itOK r39.2 q7.1 q7.2.1 (dn9 ++ [i8]) q7.2.2.1 q7.2.2.2).bind fun _ =>
 some ([L l40], r39.2.put q7.1 (.iter q7.2.1 [] q7.2.2.1 q7.2.2.2))
 else none)) q7.2.2.1.length ([N], σ6)).bind fun r41 =>
 (AV.asSl (r41.1.getD 0 .u)).bind fun l43 =>
 let σ42 := r41.2.kill q7.1
 (k260 [L l43, (.fn (some (.func 261, [], [])))] σ42).bind fun r44 =>
 (AV.asTup 0 r44.1).bind fun c45 =>
 some (L l43, r44.2))
 else none
noncomputable def census_Census__Rows {O : Type} (F : Nat) : Sm O := census_Census__Rows_c (slices_SortFunc_census_Row_ F)
theorem census_Census__Rows_ent : Entered Tryz.prog 179 := Tryz.call179
theorem census_Census__Rows_run {O : Type} (k260 : Sm O) : run (O := O) Tryz.prog [(260, k260)] Tryz.f179 (.n .z (.n (.n .z (.n .x .z)) (.n .z (.n (.n .z (.n (.lm [(3, .one .sl)] (.n .z .z)) .z)) (.n .z .z))))) = census_Census__Rows_c k260 := by kernel_rfl
theorem census_Census__Rows_sound {O : Type} {RO : O → Loc → (Nat → Option Obj) → Prop} (F : Nat) : FSound RO Tryz.prog 179 (census_Census__Rows F) :=
   have h : FSound RO Tryz.prog 179 (census_Census__Rows_c (slices_SortFunc_census_Row_ F)) := (census_Census__Rows_run (slices_SortFunc_census_Row_ F)) ▸ run_sound (gcons slices_SortFunc_census_Row__ent (slices_SortFunc_census_Row__sound F) <| gnil) mixed Tryz.func179 (by kernel_rfl) _
   h
noncomputable def survive_Survive__See_L1 {O : Type} (l8 : SA × Nat) : List AV × AH O → Option ((List AV × AH O) ⊕ (List AV × AH O)) := (fun r9 =>
 (AV.asI .i64 (r9.1.getD 0 .u)).bind fun n10 =>
 (bif (decide (n10 < (l8.2 : Int))) then
 none
 else some (Sum.inr ([], r9.2))))
noncomputable def survive_Survive__See_c {O : Type} (k179 : Sm O) : Sm O := fun xs σ =>
 bif Nat.beq xs.length 2 then
 (AV.asP (xs.getD 0 .u)).bind fun p0 =>
 (AV.asP (xs.getD 1 .u)).bind fun p1 =>
 Option.bind p0 fun q2 =>
 (σ.ld q2.1 (q2.2 + 224)).bind fun w3 =>
 (AV.asI .i64 w3).bind fun n4 =>
 Option.bind p0 fun q5 =>
 (σ.st q5.1 (q5.2 + 224) [(.i .i64 (IntKind.i64.wrap (n4 + 1)))]).bind fun σ6 =>
 (k179 [(.p p1)] σ6).bind fun r7 =>
 (AV.asSl r7.1).bind fun l8 =>
 (loopF (S := List AV × AH O) (T := List AV × AH O) (survive_Survive__See_L1 l8) ([J 0], r7.2)).bind fun r11 =>
 some ((.tup []), r11.2)
 else none
noncomputable def survive_Survive__See {O : Type} (F : Nat) : Sm O := survive_Survive__See_c (census_Census__Rows F)
theorem survive_Survive__See_ent : Entered Tryz.prog 258 := Tryz.call258
theorem survive_Survive__See_run {O : Type} (k179 : Sm O) : run (O := O) Tryz.prog [(179, k179)] Tryz.f258 (.n .z (.n .z (.n (.lp false 0 [(16, .one (.i .i64))] [] (.n .z (.n (.n .x .z) (.n (.n (.n .z (.n (.g [(4, 7, [(32, .one .b)])]) (.n .x .x))) .z) .z)))) .z))) = survive_Survive__See_c k179 := by kernel_rfl
theorem survive_Survive__See_sound {O : Type} {RO : O → Loc → (Nat → Option Obj) → Prop} (F : Nat) : FSound RO Tryz.prog 258 (survive_Survive__See F) :=
   have h : FSound RO Tryz.prog 258 (survive_Survive__See_c (census_Census__Rows F)) := (survive_Survive__See_run (census_Census__Rows F)) ▸ run_sound (gcons census_Census__Rows_ent (census_Census__Rows_sound F) <| gnil) mixed Tryz.func258 (by kernel_rfl) _
   h
noncomputable def heap_Heap__collect_c {O : Type} (k306 k258 k56 : Sm O) : Sm O := fun xs σ =>
 bif Nat.beq xs.length 1 then
 (AV.asP (xs.getD 0 .u)).bind fun p0 =>
 Option.bind p0 fun q1 =>
 (σ.ld q1.1 (q1.2 + 5)).bind fun w2 =>
 (AV.asP w2).bind fun p3 =>
 Option.bind p0 fun q4 =>
 (σ.ld q4.1 (q4.2 + 6)).bind fun w5 =>
 (AV.asP w5).bind fun p6 =>
 (k306 [(.p p3), (.p p6)] σ).bind fun r7 =>
 (AV.asTup 2 r7.1).bind fun c8 =>
 (AV.asAgg 10 (c8.getD 0 .u)).bind fun c9 =>
 I6 c9 0 fun n10 => I6 c9 1 fun n11 => I6 c9 2 fun n12 => I6 c9 3 fun n13 => I6 c9 4 fun n14 => I6 c9 5 fun n15 => I6 c9 6 fun n16 => (AV.asI .u64 (c9.getD 7 .u)).bind fun n17 =>
 (AV.asI .u64 (c9.getD 8 .u)).bind fun n18 =>
 (AV.asP (c9.getD 9 .u)).bind fun p19 =>
 I6 c8 1 fun n20 => Option.bind p0 fun q21 =>
 (r7.2.st q21.1 (q21.2 + 21) [J n10, J n11, J n12, J n13, J n14, J n15, J n16, (.i .u64 n17), (.i .u64 n18), (.p p19)]).bind fun σ22 =>
 Option.bind p0 fun q23 =>
 (σ22.ld q23.1 ((q23.2 + 21) + 1)).bind fun w24 =>
 (AV.asI .i64 w24).bind fun n25 =>
 Option.bind p0 fun q26 =>
 (σ22.st q26.1 (q26.2 + 31) [J n25]).bind fun σ27 =>
 Option.bind p0 fun q28 =>
 (σ27.ld q28.1 (q28.2 + 20)).bind fun w29 =>
 (AV.asP w29).bind fun p30 =>
 Option.bind p0 fun q31 =>
 (σ27.ld q31.1 ((q31.2 + 21) + 9)).bind fun w32 =>
 (AV.asP w32).bind fun p33 =>
 (k258 [(.p p30), (.p p33)] σ27).bind fun r34 =>
 (AV.asTup 0 r34.1).bind fun c35 =>
 Option.bind p0 fun q36 =>
 (r34.2.ld q36.1 (q36.2 + 32)).bind fun w37 =>
 (AV.asI .i64 w37).bind fun n38 =>
 Option.bind p0 fun q39 =>
 (r34.2.st q39.1 (q39.2 + 32) [(.i .i64 (IntKind.i64.wrap (n38 + 1)))]).bind fun σ40 =>
 (k56 [(.p p0)] σ40).bind fun r41 =>
 (AV.asI .i64 r41.1).bind fun n42 =>
 Option.bind p0 fun q43 =>
 (r41.2.st q43.1 ((q43.2 + 32) + 6) [J n42]).bind fun σ44 =>
 Option.bind p0 fun q45 =>
 (σ44.ld q45.1 ((q45.2 + 32) + 6)).bind fun w46 =>
 (AV.asI .i64 w46).bind fun n47 =>
 some (J n47, σ44)
 else none
noncomputable def heap_Heap__collect {O : Type} (F : Nat) : Sm O := heap_Heap__collect_c cheney_Collect (survive_Survive__See F) heap_Heap__used
theorem heap_Heap__collect_ent : Entered Tryz.prog 244 := Tryz.call244
theorem heap_Heap__collect_run {O : Type} (k306 k258 k56 : Sm O) : run (O := O) Tryz.prog [(306, k306), (258, k258), (56, k56)] Tryz.f244 (.n .z (.n (.d [] [0, 1, 2, 3, 4, 5, 6, 7, 8, 9, 10, 11, 12, 13, 14, 15] [0, 0, 2, 6, 14, 0, 32, 96, 224, 510, 1022, 2046, 2046, 4095, 12287, 28671]) (.n .z (.n (.d [] [0, 1, 2, 3, 4, 5, 6, 7, 8, 9] [0, 1, 3, 7, 0, 16, 48, 112, 240, 511]) (.n .z (.n .z .z)))))) = heap_Heap__collect_c k306 k258 k56 := by kernel_rfl
theorem heap_Heap__collect_sound {O : Type} {RO : O → Loc → (Nat → Option Obj) → Prop} (F : Nat) : FSound RO Tryz.prog 244 (heap_Heap__collect F) :=
   have h : FSound RO Tryz.prog 244 (heap_Heap__collect_c cheney_Collect (survive_Survive__See F) heap_Heap__used) := (heap_Heap__collect_run cheney_Collect (survive_Survive__See F) heap_Heap__used) ▸ run_sound (gcons cheney_Collect_ent (cheney_Collect_sound) <| gcons survive_Survive__See_ent (survive_Survive__See_sound F) <| gcons heap_Heap__used_ent (heap_Heap__used_sound) <| gnil) mixed Tryz.func244 (by kernel_rfl) _
   h
noncomputable def gate_Gate__Fits_p {O : Type} (w : Words O) (k308 : Sm O) : Sm O := fun xs σ =>
 bif Nat.beq xs.length 3 then
 (AV.asAgg 8 (xs.getD 0 .u)).bind fun c0 =>
 w.U0 c0 fun n1 n2 n3 n4 n5 n6 n7 n8 =>
 (AV.asI .i64 (xs.getD 1 .u)).bind fun n9 =>
 (AV.asI .i64 (xs.getD 2 .u)).bind fun n10 =>
 let σ11 := σ.bump 1
 let σ12 := σ11.put σ.next (.cells true 74 (P1 n1 n2 n3 n4 n5 n6 n7 n8))
 (σ12.ld (.n σ.next) 0).bind fun w13 =>
 (AV.asI .i64 w13).bind fun n14 =>
 (k308 [J n9, J n10, J n14] σ12).bind fun r15 =>
 (AV.asB r15.1).bind fun b16 =>
 some ((.b (!b16)), r15.2)
 else none
noncomputable def gate_Gate__Fits_c {O : Type} (k308 : Sm O) : Sm O := gate_Gate__Fits_p fastWords k308
noncomputable def gate_Gate__Fits {O : Type} : Sm O := gate_Gate__Fits_c gate_over
theorem gate_Gate__Fits_ent : Entered Tryz.prog 312 := Tryz.call312
theorem gate_Gate__Fits_run {O : Type} (k308 : Sm O) : run (O := O) Tryz.prog [(308, k308)] Tryz.f312 (.n .z .z) = gate_Gate__Fits_c k308 :=
 (show run (O := O) Tryz.prog [(308, k308)] Tryz.f312 (.n .z .z) = gate_Gate__Fits_p slowWords k308 by kernel_rfl).trans (congrArg (fun w => gate_Gate__Fits_p w k308) words_eq)
theorem gate_Gate__Fits_sound {O : Type} {RO : O → Loc → (Nat → Option Obj) → Prop} : FSound RO Tryz.prog 312 (gate_Gate__Fits) :=
   have h : FSound RO Tryz.prog 312 (gate_Gate__Fits_c gate_over) := (gate_Gate__Fits_run gate_over) ▸ run_sound (gcons gate_over_ent (gate_over_sound) <| gnil) mixed Tryz.func312 (by kernel_rfl) _
   h
noncomputable def control_Want_c {O : Type} : Sm O := fun xs σ =>
 bif Nat.beq xs.length 2 then
 (AV.asAgg 5 (xs.getD 0 .u)).bind fun c0 =>
 I6 c0 0 fun n1 => I6 c0 1 fun n2 => I6 c0 2 fun n3 => I6 c0 3 fun n4 => I6 c0 4 fun n5 => (AV.asI .i64 (xs.getD 1 .u)).bind fun n6 =>
 let σ7 := σ.bump 1
 let σ8 := σ7.put σ.next (.cells true 46 [J n1, J n2, J n3, J n4, J n5])
 (σ8.ld (.n σ.next) 0).bind fun w9 =>
 (AV.asI .i64 w9).bind fun n10 =>
 let v11 : Int := (if n10 < (if 0 > n6 then 0 else n6) then n10 else (if 0 > n6 then 0 else n6))
 (σ8.ld (.n σ.next) 1).bind fun w12 =>
 (AV.asI .i64 w12).bind fun n13 =>
 (σ8.ld (.n σ.next) 0).bind fun w14 =>
 (AV.asI .i64 w14).bind fun n15 =>
 let v16 : Int := (if n15 < (IntKind.i64.wrap (2 * v11)) then n15 else (IntKind.i64.wrap (2 * v11)))
 some ((.i .i64 (if v16 > n13 then v16 else n13)), σ8)
 else none
noncomputable def control_Want {O : Type} : Sm O := control_Want_c
theorem control_Want_ent : Entered Tryz.prog 353 := Tryz.call353
theorem control_Want_run {O : Type} : run (O := O) Tryz.prog [] Tryz.f353 (.n .z (.n .z .z)) = control_Want_c  := by kernel_rfl
theorem control_Want_sound {O : Type} {RO : O → Loc → (Nat → Option Obj) → Prop} : FSound RO Tryz.prog 353 (control_Want) :=
   have h : FSound RO Tryz.prog 353 (control_Want_c) := (control_Want_run) ▸ run_sound (gnil) mixed Tryz.func353 (by kernel_rfl) _
   h
noncomputable def control_Next_c {O : Type} (k353 : Sm O) : Sm O := fun xs σ =>
 bif Nat.beq xs.length 3 then
 (AV.asAgg 5 (xs.getD 0 .u)).bind fun c0 =>
 I6 c0 0 fun n1 => I6 c0 1 fun n2 => I6 c0 2 fun n3 => I6 c0 3 fun n4 => I6 c0 4 fun n5 => (AV.asAgg 2 (xs.getD 1 .u)).bind fun c6 =>
 I6 c6 0 fun n7 => I6 c6 1 fun n8 => (AV.asI .i64 (xs.getD 2 .u)).bind fun n9 =>
 let σ10 := σ.bump 3
 let σ11 := σ10.put σ.next (.cells true 46 [J n1, J n2, J n3, J n4, J n5])
 let σ12 := σ11.put (σ.next + 1) (.cells true 72 [J n7, J n8])
 let σ13 := σ12.put ((σ.next + 1) + 1) (.cells true 72 [J 0, J 0])
 (σ13.ld (.n σ.next) 0).bind fun w14 =>
 (AV.asI .i64 w14).bind fun n15 =>
 (σ13.ld (.n σ.next) 1).bind fun w16 =>
 (AV.asI .i64 w16).bind fun n17 =>
 (σ13.ld (.n σ.next) 2).bind fun w18 =>
 (AV.asI .i64 w18).bind fun n19 =>
 (σ13.ld (.n σ.next) 3).bind fun w20 =>
 (AV.asI .i64 w20).bind fun n21 =>
 (σ13.ld (.n σ.next) 4).bind fun w22 =>
 (AV.asI .i64 w22).bind fun n23 =>
 (k353 [(.agg [J n15, J n17, J n19, J n21, J n23]), J n9] σ13).bind fun r24 =>
 (AV.asI .i64 r24.1).bind fun n25 =>
 (r24.2.ld (.n (σ.next + 1)) 0).bind fun w26 =>
 (AV.asI .i64 w26).bind fun n27 =>
 (bif (decide (n27 < n25)) then
 (r24.2.st (.n ((σ.next + 1) + 1)) 0 [J n25, J 0]).bind fun σ28 =>
 (σ28.ld (.n ((σ.next + 1) + 1)) 0).bind fun w29 =>
 (AV.asI .i64 w29).bind fun n30 =>
 (σ28.ld (.n ((σ.next + 1) + 1)) 1).bind fun w31 =>
 (AV.asI .i64 w31).bind fun n32 =>
 some ((.agg [J n30, J n32]), σ28)
 else none)
 else none
noncomputable def control_Next {O : Type} : Sm O := control_Next_c control_Want
theorem control_Next_ent : Entered Tryz.prog 313 := Tryz.call313
theorem control_Next_run {O : Type} (k353 : Sm O) : run (O := O) Tryz.prog [(353, k353)] Tryz.f313 (.n .z (.n .z (.n (.n (.n .z (.n .z .x)) .z) .z))) = control_Next_c k353 := by kernel_rfl
theorem control_Next_sound {O : Type} {RO : O → Loc → (Nat → Option Obj) → Prop} : FSound RO Tryz.prog 313 (control_Next) :=
   have h : FSound RO Tryz.prog 313 (control_Next_c control_Want) := (control_Next_run control_Want) ▸ run_sound (gcons control_Want_ent (control_Want_sound) <| gnil) mixed Tryz.func313 (by kernel_rfl) _
   h
noncomputable def gate_Gate__After_p {O : Type} (w : Words O) (k312 k313 : Sm O) : Sm O := fun xs σ =>
 bif Nat.beq xs.length 3 then
 (AV.asAgg 8 (xs.getD 0 .u)).bind fun c0 =>
 w.U0 c0 fun n1 n2 n3 n4 n5 n6 n7 n8 =>
 (AV.asI .i64 (xs.getD 1 .u)).bind fun n9 =>
 (AV.asI .i64 (xs.getD 2 .u)).bind fun n10 =>
 let σ11 := σ.bump 2
 let σ12 := σ11.put σ.next (.cells true 74 (P1 n1 n2 n3 n4 n5 n6 n7 n8))
 let σ13 := σ12.put (σ.next + 1) (.cells true 74 P0)
 w.W0 σ13 (.n σ.next) 0 fun n15 n17 n19 n21 n23 n25 n27 n29 =>
 (k312 [(.agg (P1 n15 n17 n19 n21 n23 n25 n27 n29)), J n9, J n10] σ13).bind fun r30 =>
 (AV.asB r30.1).bind fun b31 =>
 (r30.2.ld (.n σ.next) 0).bind fun w32 =>
 (AV.asI .i64 w32).bind fun n33 =>
 let v34 : Int := (if n33 < (if 0 > n9 then 0 else n9) then n33 else (if 0 > n9 then 0 else n9))
 (bif b31 then
 let v35 : Int := (IntKind.i64.wrap (v34 + (if 0 > n10 then 0 else n10)))
 (r30.2.ld (.n σ.next) 0).bind fun w36 =>
 (AV.asI .i64 w36).bind fun n37 =>
 (r30.2.ld (.n σ.next) 1).bind fun w38 =>
 (AV.asI .i64 w38).bind fun n39 =>
 (r30.2.ld (.n σ.next) 2).bind fun w40 =>
 (AV.asI .i64 w40).bind fun n41 =>
 (r30.2.ld (.n σ.next) 3).bind fun w42 =>
 (AV.asI .i64 w42).bind fun n43 =>
 (r30.2.ld (.n σ.next) 4).bind fun w44 =>
 (AV.asI .i64 w44).bind fun n45 =>
 (r30.2.ld (.n σ.next) 5).bind fun w46 =>
 (AV.asI .i64 w46).bind fun n47 =>
 (r30.2.ld (.n σ.next) 6).bind fun w48 =>
 (AV.asI .i64 w48).bind fun n49 =>
 (k313 [(.agg [J n37, J n39, J n41, J n43, J n45]), (.agg [J n47, J n49]), J v35] r30.2).bind fun r50 =>
 (AV.asAgg 2 r50.1).bind fun c51 =>
 I6 c51 0 fun n52 => I6 c51 1 fun n53 => (r50.2.st (.n σ.next) 5 [J n52, J n53]).bind fun σ54 =>
 (σ54.st (.n σ.next) 7 [J v35]).bind fun σ55 =>
 w.W0 σ55 (.n σ.next) 0 fun n57 n59 n61 n63 n65 n67 n69 n71 =>
 (σ55.st (.n (σ.next + 1)) 0 (P1 n57 n59 n61 n63 n65 n67 n69 n71)).bind fun σ72 =>
 w.W0 σ72 (.n (σ.next + 1)) 0 fun n74 n76 n78 n80 n82 n84 n86 n88 =>
 some ((.tup [(.agg (P1 n74 n76 n78 n80 n82 n84 n86 n88)), (.b b31)]), σ72)
 else none)
 else none
noncomputable def gate_Gate__After_c {O : Type} (k312 k313 : Sm O) : Sm O := gate_Gate__After_p fastWords k312 k313
noncomputable def gate_Gate__After {O : Type} : Sm O := gate_Gate__After_c gate_Gate__Fits control_Next
theorem gate_Gate__After_ent : Entered Tryz.prog 259 := Tryz.call259
theorem gate_Gate__After_run {O : Type} (k312 k313 : Sm O) : run (O := O) Tryz.prog [(312, k312), (313, k313)] Tryz.f259 (.n .z (.n .z (.n .z (.n (.n .z (.n .z .x)) (.n .z (.n .z .z)))))) = gate_Gate__After_c k312 k313 :=
 (show run (O := O) Tryz.prog [(312, k312), (313, k313)] Tryz.f259 (.n .z (.n .z (.n .z (.n (.n .z (.n .z .x)) (.n .z (.n .z .z)))))) = gate_Gate__After_p slowWords k312 k313 by kernel_rfl).trans (congrArg (fun w => gate_Gate__After_p w k312 k313) words_eq)
theorem gate_Gate__After_sound {O : Type} {RO : O → Loc → (Nat → Option Obj) → Prop} : FSound RO Tryz.prog 259 (gate_Gate__After) :=
   have h : FSound RO Tryz.prog 259 (gate_Gate__After_c gate_Gate__Fits control_Next) := (gate_Gate__After_run gate_Gate__Fits control_Next) ▸ run_sound (gcons gate_Gate__Fits_ent (gate_Gate__Fits_sound) <| gcons control_Next_ent (control_Next_sound) <| gnil) mixed Tryz.func259 (by kernel_rfl) _
   h
noncomputable def semi_Semi__Size_c {O : Type} (k389 : Sm O) : Sm O := fun xs σ =>
 bif Nat.beq xs.length 1 then
 (AV.asP (xs.getD 0 .u)).bind fun p0 =>
 Option.bind p0 fun q1 =>
 (σ.ld q1.1 q1.2).bind fun w2 =>
 (AV.asP w2).bind fun p3 =>
 Option.bind p0 fun q4 =>
 (σ.ld q4.1 (q4.2 + 1)).bind fun w5 =>
 (AV.asI .i64 w5).bind fun n6 =>
 (k389 [(.p p3), J n6] σ).bind fun r7 =>
 (AV.asTup 2 r7.1).bind fun c8 =>
 I6 c8 0 fun n9 => I6 c8 1 fun n10 => some (J n9, r7.2)
 else none
noncomputable def semi_Semi__Size {O : Type} : Sm O := semi_Semi__Size_c mem_Mem__Size
theorem semi_Semi__Size_ent : Entered Tryz.prog 341 := Tryz.call341
theorem semi_Semi__Size_run {O : Type} (k389 : Sm O) : run (O := O) Tryz.prog [(389, k389)] Tryz.f341 (.n .z (.n (.d [] [0, 1, 2, 3, 4, 5, 6, 7, 8, 9, 10, 11, 12, 13, 14] [0, 1, 3, 7, 0, 16, 48, 112, 240, 511, 1023, 2047, 2047, 4095, 16383]) .z)) = semi_Semi__Size_c k389 := by kernel_rfl
theorem semi_Semi__Size_sound {O : Type} {RO : O → Loc → (Nat → Option Obj) → Prop} : FSound RO Tryz.prog 341 (semi_Semi__Size) :=
   have h : FSound RO Tryz.prog 341 (semi_Semi__Size_c mem_Mem__Size) := (semi_Semi__Size_run mem_Mem__Size) ▸ run_sound (gcons mem_Mem__Size_ent (mem_Mem__Size_sound) <| gnil) mixed Tryz.func341 (by kernel_rfl) _
   h
noncomputable def mem_Mem__Grow_c {O : Type} (k321 k269 : Sm O) : Sm O := fun xs σ =>
 bif Nat.beq xs.length 3 then
 (AV.asP (xs.getD 0 .u)).bind fun p0 =>
 (AV.asI .i64 (xs.getD 1 .u)).bind fun n1 =>
 (AV.asI .i64 (xs.getD 2 .u)).bind fun n2 =>
 (k321 [(.p p0), J n1] σ).bind fun r3 =>
 (AV.asP r3.1).bind fun p4 =>
 (bif (Option.isNone p4) then
 none
 else Option.bind p4 fun q5 =>
 (r3.2.ld q5.1 q5.2).bind fun w6 =>
 (AV.asSl w6).bind fun l7 =>
 (bif (decide (n2 < (l7.2 : Int))) then
 none
 else (bif (decide (n2 > 4194304)) then
 none
 else Option.bind p0 fun q8 =>
 (r3.2.ld q8.1 q8.2).bind fun w9 =>
 (AV.asP w9).bind fun p10 =>
 Option.bind p4 fun q11 =>
 (r3.2.ld q11.1 q11.2).bind fun w12 =>
 (AV.asSl w12).bind fun l13 =>
 (k269 [(.p p10), (.i .i64 (IntKind.i64.wrap (n2 - (l13.2 : Int))))] r3.2).bind fun r14 =>
 (AV.asI .i64 r14.1).bind fun n15 =>
 let σ16 := r14.2.bump 1
 (bif ((((decide ((0 : Int) ≤ n2)) && (decide (n2 ≤ n2))) && (decide ((n2 * 8) ≤ 140737488355328))) && (decide (n2 ≤ 140737488355328))) then
 let σ17 := σ16.put r14.2.next (.cells true 96 ((List.replicate n2.toNat [(.i .u64 0)]).flatten))
 Option.bind p4 fun q18 =>
 (σ17.ld q18.1 q18.2).bind fun w19 =>
 (AV.asSl w19).bind fun l20 =>
 (bif Nat.beq (min l20.2 n2.toNat) 0 then
 Option.bind p4 fun q24 =>
 (σ17.st q24.1 q24.2 [(.sl (.loc (.n r14.2.next) 0 1) n2.toNat)]).bind fun σ25 =>
 some (J 0, σ25)
 else
 (σ17.rdSl l20.1 (min l20.2 n2.toNat) 1).bind fun c22 =>
 (σ17.wrSl (.loc (.n r14.2.next) 0 1) c22).bind fun σ23 =>
 Option.bind p4 fun q26 =>
 (σ23.st q26.1 q26.2 [(.sl (.loc (.n r14.2.next) 0 1) n2.toNat)]).bind fun σ27 =>
 some (J 0, σ27))
 else none))))
 else none
noncomputable def mem_Mem__Grow {O : Type} : Sm O := mem_Mem__Grow_c mem_Mem__at meter_Meter__Hold
theorem mem_Mem__Grow_ent : Entered Tryz.prog 336 := Tryz.call336
theorem mem_Mem__Grow_run {O : Type} (k321 k269 : Sm O) : run (O := O) Tryz.prog [(321, k321), (269, k269)] Tryz.f336 (.n .z (.n .z (.n (.n (.n .z (.n .x (.n .z (.n .x (.n .z (.n .x .z)))))) .z) (.n (.d [] [0, 1, 2, 3, 4, 5, 6, 7, 8, 9, 10, 11] [0, 1, 3, 7, 0, 0, 32, 96, 224, 480, 1008, 2047]) (.n .z (.n .z (.n .z .z))))))) = mem_Mem__Grow_c k321 k269 := by kernel_rfl
theorem mem_Mem__Grow_sound {O : Type} {RO : O → Loc → (Nat → Option Obj) → Prop} : FSound RO Tryz.prog 336 (mem_Mem__Grow) :=
   have h : FSound RO Tryz.prog 336 (mem_Mem__Grow_c mem_Mem__at meter_Meter__Hold) := (mem_Mem__Grow_run mem_Mem__at meter_Meter__Hold) ▸ run_sound (gcons mem_Mem__at_ent (mem_Mem__at_sound) <| gcons meter_Meter__Hold_ent (meter_Meter__Hold_sound) <| gnil) mixed Tryz.func336 (by kernel_rfl) _
   h
noncomputable def semi_Semi__Resize_c {O : Type} (k341 k336 : Sm O) : Sm O := fun xs σ =>
 bif Nat.beq xs.length 2 then
 (AV.asP (xs.getD 0 .u)).bind fun p0 =>
 (AV.asI .i64 (xs.getD 1 .u)).bind fun n1 =>
 (bif (decide (n1 < 0)) then
 none
 else Option.bind p0 fun q2 =>
 (σ.ld q2.1 q2.2).bind fun w3 =>
 (AV.asP w3).bind fun p4 =>
 Option.bind p0 fun q5 =>
 (σ.ld q5.1 (q5.2 + 1)).bind fun w6 =>
 (AV.asI .i64 w6).bind fun n7 =>
 (k341 [(.p p0)] σ).bind fun r8 =>
 (AV.asI .i64 r8.1).bind fun n9 =>
 (chkE (r8.2.ld q2.1 q2.2) (some (.p p4))).bind fun _ =>
 (chkE (r8.2.ld q5.1 (q5.2 + 1)) (some (.i .i64 n7))).bind fun _ =>
 (k336 [(.p p4), J n7, (.i .i64 (if n9 > n1 then n9 else n1))] r8.2).bind fun r10 =>
 (AV.asI .i64 r10.1).bind fun n11 =>
 some (J n11, r10.2))
 else none
noncomputable def semi_Semi__Resize {O : Type} : Sm O := semi_Semi__Resize_c semi_Semi__Size mem_Mem__Grow
theorem semi_Semi__Resize_ent : Entered Tryz.prog 304 := Tryz.call304
theorem semi_Semi__Resize_run {O : Type} (k341 k336 : Sm O) : run (O := O) Tryz.prog [(341, k341), (336, k336)] Tryz.f304 (.n .z (.n (.n .z (.n .x .z)) (.n (.d [] [0, 1, 2, 3, 4, 5, 6, 7, 8, 9, 10, 11, 12, 13, 14] [0, 1, 3, 7, 0, 16, 48, 112, 240, 0, 0, 1024, 3584, 8191, 16383]) .z))) = semi_Semi__Resize_c k341 k336 := by kernel_rfl
theorem semi_Semi__Resize_sound {O : Type} {RO : O → Loc → (Nat → Option Obj) → Prop} : FSound RO Tryz.prog 304 (semi_Semi__Resize) :=
   have h : FSound RO Tryz.prog 304 (semi_Semi__Resize_c semi_Semi__Size mem_Mem__Grow) := (semi_Semi__Resize_run semi_Semi__Size mem_Mem__Grow) ▸ run_sound (gcons semi_Semi__Size_ent (semi_Semi__Size_sound) <| gcons mem_Mem__Grow_ent (mem_Mem__Grow_sound) <| gnil) mixed Tryz.func304 (by kernel_rfl) _
   h
noncomputable def heap_Heap__after_p {O : Type} (w : Words O) (k259 k111 k304 : Sm O) : Sm O := fun xs σ =>
 bif Nat.beq xs.length 4 then
 (AV.asP (xs.getD 0 .u)).bind fun p0 =>
 (AV.asI .i64 (xs.getD 1 .u)).bind fun n1 =>
 (AV.asI .i64 (xs.getD 2 .u)).bind fun n2 =>
 (AV.asB (xs.getD 3 .u)).bind fun b3 =>
 let σ4 := σ.bump 1
 Option.bind p0 fun q5 =>
 (σ4.ld q5.1 (q5.2 + 7)).bind fun w6 =>
 (AV.asI .i64 w6).bind fun n7 =>
 (σ4.ld q5.1 ((q5.2 + 7) + 1)).bind fun w8 =>
 (AV.asI .i64 w8).bind fun n9 =>
 (σ4.ld q5.1 (((q5.2 + 7) + 1) + 1)).bind fun w10 =>
 (AV.asI .i64 w10).bind fun n11 =>
 (σ4.ld q5.1 ((((q5.2 + 7) + 1) + 1) + 1)).bind fun w12 =>
 (AV.asI .i64 w12).bind fun n13 =>
 (σ4.ld q5.1 (((((q5.2 + 7) + 1) + 1) + 1) + 1)).bind fun w14 =>
 (AV.asI .i64 w14).bind fun n15 =>
 (σ4.ld q5.1 ((((((q5.2 + 7) + 1) + 1) + 1) + 1) + 1)).bind fun w16 =>
 (AV.asI .i64 w16).bind fun n17 =>
 (σ4.ld q5.1 (((((((q5.2 + 7) + 1) + 1) + 1) + 1) + 1) + 1)).bind fun w18 =>
 (AV.asI .i64 w18).bind fun n19 =>
 (σ4.ld q5.1 ((((((((q5.2 + 7) + 1) + 1) + 1) + 1) + 1) + 1) + 1)).bind fun w20 =>
 (AV.asI .i64 w20).bind fun n21 =>
 (k259 [(.agg (P1 n7 n9 n11 n13 n15 n17 n19 n21)), J n1, J n2] σ4).bind fun r22 =>
 (AV.asTup 2 r22.1).bind fun c23 =>
 (AV.asAgg 8 (c23.getD 0 .u)).bind fun c24 =>
 w.U0 c24 fun n25 n26 n27 n28 n29 n30 n31 n32 =>
 (AV.asB (c23.getD 1 .u)).bind fun b33 =>
 let σ34 := r22.2.put σ.next (.cells true 74 P0)
 (σ34.st (.n σ.next) 0 (P1 n25 n26 n27 n28 n29 n30 n31 n32)).bind fun σ35 =>
 w.W0 σ35 (.n σ.next) 0 fun n37 n39 n41 n43 n45 n47 n49 n51 =>
 Option.bind p0 fun q52 =>
 (σ35.st q52.1 (q52.2 + 7) (P1 n37 n39 n41 n43 n45 n47 n49 n51)).bind fun σ53 =>
 Option.bind p0 fun q54 =>
 (σ53.ld q54.1 (q54.2 + 5)).bind fun w55 =>
 (AV.asP w55).bind fun p56 =>
 (σ53.ld (.n σ.next) 5).bind fun w57 =>
 (AV.asI .i64 w57).bind fun n58 =>
 (k111 [(.p p56)] σ53).bind fun r59 =>
 (AV.asP r59.1).bind fun p60 =>
 (chkE (r59.2.ld (.n σ.next) 5) (some (.i .i64 n58))).bind fun _ =>
 (k304 [(.p p60), J n58] r59.2).bind fun r61 =>
 (AV.asI .i64 r61.1).bind fun n62 =>
 ((bif (b3 == false) then
 some ([(.b (!b33))], r61.2)
 else some ([(.b true)], r61.2)) : Option (List AV × AH O)).bind fun r63 =>
 (AV.asB (r63.1.getD 0 .u)).bind fun b64 =>
 (bif b64 then
 none
 else some ((.b b33), r63.2))
 else none
noncomputable def heap_Heap__after_c {O : Type} (k259 k111 k304 : Sm O) : Sm O := heap_Heap__after_p fastWords k259 k111 k304
noncomputable def heap_Heap__after {O : Type} : Sm O := heap_Heap__after_c gate_Gate__After store_Store__Semi semi_Semi__Resize
theorem heap_Heap__after_ent : Entered Tryz.prog 243 := Tryz.call243
theorem heap_Heap__after_run {O : Type} (k259 k111 k304 : Sm O) : run (O := O) Tryz.prog [(259, k259), (111, k111), (304, k304)] Tryz.f243 (.n .z (.n .z (.n .z (.n (.d [] [0, 1, 2, 3, 5, 6, 7, 4, 8] [0, 1, 3, 7, 15, 0, 32, 96, 255]) (.n (.n (.g [(1, 2, [(38, .one .b)])]) (.n .x .z)) .z))))) = heap_Heap__after_c k259 k111 k304 :=
 (show run (O := O) Tryz.prog [(259, k259), (111, k111), (304, k304)] Tryz.f243 (.n .z (.n .z (.n .z (.n (.d [] [0, 1, 2, 3, 5, 6, 7, 4, 8] [0, 1, 3, 7, 15, 0, 32, 96, 255]) (.n (.n (.g [(1, 2, [(38, .one .b)])]) (.n .x .z)) .z))))) = heap_Heap__after_p slowWords k259 k111 k304 by kernel_rfl).trans (congrArg (fun w => heap_Heap__after_p w k259 k111 k304) words_eq)
theorem heap_Heap__after_sound {O : Type} {RO : O → Loc → (Nat → Option Obj) → Prop} : FSound RO Tryz.prog 243 (heap_Heap__after) :=
   have h : FSound RO Tryz.prog 243 (heap_Heap__after_c gate_Gate__After store_Store__Semi semi_Semi__Resize) := (heap_Heap__after_run gate_Gate__After store_Store__Semi semi_Semi__Resize) ▸ run_sound (gcons gate_Gate__After_ent (gate_Gate__After_sound) <| gcons store_Store__Semi_ent (store_Store__Semi_sound) <| gcons semi_Semi__Resize_ent (semi_Semi__Resize_sound) <| gnil) mixed Tryz.func243 (by kernel_rfl) _
   h
noncomputable def bits_Mul64_c {O : Type} : Sm O := fun xs σ =>
 bif Nat.beq xs.length 2 then
 (AV.asI .u64 (xs.getD 0 .u)).bind fun n0 =>
 (AV.asI .u64 (xs.getD 1 .u)).bind fun n1 =>
 let v2 : Int := (IntKind.u64.wrap ((ibits .and .u64 n0 4294967295) * (ibits .and .u64 n1 4294967295)))
 let v3 : Int := (IntKind.u64.wrap ((Int.fdiv n0 (2 ^ 32)) * (ibits .and .u64 n1 4294967295)))
 let v4 : Int := (ibits .and .u64 (IntKind.u64.wrap (v3 + (Int.fdiv v2 (2 ^ 32)))) 4294967295)
 let v5 : Int := (Int.fdiv (IntKind.u64.wrap (v3 + (Int.fdiv v2 (2 ^ 32)))) (2 ^ 32))
 let v6 : Int := (IntKind.u64.wrap ((ibits .and .u64 n0 4294967295) * (Int.fdiv n1 (2 ^ 32))))
 let v7 : Int := (IntKind.u64.wrap ((Int.fdiv n0 (2 ^ 32)) * (Int.fdiv n1 (2 ^ 32))))
 let v8 : Int := (IntKind.u64.wrap ((IntKind.u64.wrap (v7 + v5)) + (Int.fdiv (IntKind.u64.wrap (v4 + v6)) (2 ^ 32))))
 some ((.tup [(.i .u64 v8), (.i .u64 (IntKind.u64.wrap (n0 * n1)))]), σ)
 else none
noncomputable def bits_Mul64 {O : Type} : Sm O := bits_Mul64_c
theorem bits_Mul64_ent : Entered Tryz.prog 276 := Tryz.call276
theorem bits_Mul64_run {O : Type} : run (O := O) Tryz.prog [] Tryz.f276 (.n .z (.n .z (.n .z (.n .z (.n .z (.n .z (.n .z (.n .z (.n .z (.n .z (.n .z .z))))))))))) = bits_Mul64_c  := by kernel_rfl
theorem bits_Mul64_sound {O : Type} {RO : O → Loc → (Nat → Option Obj) → Prop} : FSound RO Tryz.prog 276 (bits_Mul64) :=
   have h : FSound RO Tryz.prog 276 (bits_Mul64_c) := (bits_Mul64_run) ▸ run_sound (gnil) mixed Tryz.func276 (by kernel_rfl) _
   h
noncomputable def wide_Mul_c {O : Type} (k276 k99 : Sm O) : Sm O := fun xs σ =>
 bif Nat.beq xs.length 2 then
 (AV.asAgg 2 (xs.getD 0 .u)).bind fun c0 =>
 (AV.asI .u64 (c0.getD 0 .u)).bind fun n1 =>
 (AV.asI .u64 (c0.getD 1 .u)).bind fun n2 =>
 (AV.asI .u64 (xs.getD 1 .u)).bind fun n3 =>
 let σ4 := σ.bump 2
 let σ5 := σ4.put σ.next (.cells true 98 [(.i .u64 n1), (.i .u64 n2)])
 let σ6 := σ5.put (σ.next + 1) (.cells true 98 [(.i .u64 0), (.i .u64 0)])
 (σ6.ld (.n σ.next) 1).bind fun w7 =>
 (AV.asI .u64 w7).bind fun n8 =>
 (k276 [(.i .u64 n8), (.i .u64 n3)] σ6).bind fun r9 =>
 (AV.asTup 2 r9.1).bind fun c10 =>
 (AV.asI .u64 (c10.getD 0 .u)).bind fun n11 =>
 (AV.asI .u64 (c10.getD 1 .u)).bind fun n12 =>
 (r9.2.ld (.n σ.next) 0).bind fun w13 =>
 (AV.asI .u64 w13).bind fun n14 =>
 (k276 [(.i .u64 n14), (.i .u64 n3)] r9.2).bind fun r15 =>
 (AV.asTup 2 r15.1).bind fun c16 =>
 (AV.asI .u64 (c16.getD 0 .u)).bind fun n17 =>
 (AV.asI .u64 (c16.getD 1 .u)).bind fun n18 =>
 (k99 [(.i .u64 n18), (.i .u64 n11), (.i .u64 0)] r15.2).bind fun r19 =>
 (AV.asTup 2 r19.1).bind fun c20 =>
 (AV.asI .u64 (c20.getD 0 .u)).bind fun n21 =>
 (AV.asI .u64 (c20.getD 1 .u)).bind fun n22 =>
 ((bif (((n17 : Int) != 0) == false) then
 some ([(.b ((n22 : Int) != 0))], r19.2)
 else some ([(.b true)], r19.2)) : Option (List AV × AH O)).bind fun r23 =>
 (AV.asB (r23.1.getD 0 .u)).bind fun b24 =>
 (bif b24 then
 none
 else (r23.2.st (.n (σ.next + 1)) 0 [(.i .u64 n21), (.i .u64 n12)]).bind fun σ25 =>
 (σ25.ld (.n (σ.next + 1)) 0).bind fun w26 =>
 (AV.asI .u64 w26).bind fun n27 =>
 (σ25.ld (.n (σ.next + 1)) 1).bind fun w28 =>
 (AV.asI .u64 w28).bind fun n29 =>
 some ((.tup [(.agg [(.i .u64 n27), (.i .u64 n29)]), (.b true)]), σ25))
 else none
noncomputable def wide_Mul {O : Type} : Sm O := wide_Mul_c bits_Mul64 bits_Add64
theorem wide_Mul_ent : Entered Tryz.prog 193 := Tryz.call193
theorem wide_Mul_run {O : Type} (k276 k99 : Sm O) : run (O := O) Tryz.prog [(276, k276), (99, k99)] Tryz.f193 (.n .z (.n .z (.n .z (.n .z (.n (.n (.g [(2, 2, [(36, .one .b)])]) (.n .x .z)) .z))))) = wide_Mul_c k276 k99 := by kernel_rfl
theorem wide_Mul_sound {O : Type} {RO : O → Loc → (Nat → Option Obj) → Prop} : FSound RO Tryz.prog 193 (wide_Mul) :=
   have h : FSound RO Tryz.prog 193 (wide_Mul_c bits_Mul64 bits_Add64) := (wide_Mul_run bits_Mul64 bits_Add64) ▸ run_sound (gcons bits_Mul64_ent (bits_Mul64_sound) <| gext bits_Add64_ext <| gnil) mixed Tryz.func193 (by kernel_rfl) _
   h
noncomputable def cost_of_c {O : Type} (k61 k193 : Sm O) : Sm O := fun xs σ =>
 bif Nat.beq xs.length 2 then
 (AV.asI .i64 (xs.getD 0 .u)).bind fun n0 =>
 (AV.asI .u64 (xs.getD 1 .u)).bind fun n1 =>
 let σ2 := σ.bump 1
 let σ3 := σ2.put σ.next (.cells true 98 [(.i .u64 0), (.i .u64 0)])
 let σ4 := σ3.bump 1
 (k61 [(.i .u64 (IntKind.u64.wrap (if 0 > n0 then 0 else n0)))] σ4).bind fun r5 =>
 (AV.asAgg 2 r5.1).bind fun c6 =>
 (AV.asI .u64 (c6.getD 0 .u)).bind fun n7 =>
 (AV.asI .u64 (c6.getD 1 .u)).bind fun n8 =>
 (k193 [(.agg [(.i .u64 n7), (.i .u64 n8)]), (.i .u64 n1)] r5.2).bind fun r9 =>
 (AV.asTup 2 r9.1).bind fun c10 =>
 (AV.asAgg 2 (c10.getD 0 .u)).bind fun c11 =>
 (AV.asI .u64 (c11.getD 0 .u)).bind fun n12 =>
 (AV.asI .u64 (c11.getD 1 .u)).bind fun n13 =>
 (AV.asB (c10.getD 1 .u)).bind fun b14 =>
 let σ15 := r9.2.put σ3.next (.cells true 98 [(.i .u64 0), (.i .u64 0)])
 (σ15.st (.n σ3.next) 0 [(.i .u64 n12), (.i .u64 n13)]).bind fun σ16 =>
 (σ16.ld (.n σ3.next) 0).bind fun w17 =>
 (AV.asI .u64 w17).bind fun n18 =>
 (σ16.ld (.n σ3.next) 1).bind fun w19 =>
 (AV.asI .u64 w19).bind fun n20 =>
 (σ16.st (.n σ.next) 0 [(.i .u64 n18), (.i .u64 n20)]).bind fun σ21 =>
 (σ21.ld (.n σ.next) 0).bind fun w22 =>
 (AV.asI .u64 w22).bind fun n23 =>
 (σ21.ld (.n σ.next) 1).bind fun w24 =>
 (AV.asI .u64 w24).bind fun n25 =>
 some ((.agg [(.i .u64 n23), (.i .u64 n25)]), σ21)
 else none
noncomputable def cost_of {O : Type} : Sm O := cost_of_c wide_Of wide_Mul
theorem cost_of_ent : Entered Tryz.prog 108 := Tryz.call108
theorem cost_of_run {O : Type} (k61 k193 : Sm O) : run (O := O) Tryz.prog [(61, k61), (193, k193)] Tryz.f108 (.n .z (.n .z .z)) = cost_of_c k61 k193 := by kernel_rfl
theorem cost_of_sound {O : Type} {RO : O → Loc → (Nat → Option Obj) → Prop} : FSound RO Tryz.prog 108 (cost_of) :=
   have h : FSound RO Tryz.prog 108 (cost_of_c wide_Of wide_Mul) := (cost_of_run wide_Of wide_Mul) ▸ run_sound (gcons wide_Of_ent (wide_Of_sound) <| gcons wide_Mul_ent (wide_Mul_sound) <| gnil) mixed Tryz.func108 (by kernel_rfl) _
   h
noncomputable def cost_sum_L1 {O : Type} (l0 : SA × Nat) (σ2 : AH O) (k54 : Sm O) : List AV × AH O → Option ((List AV × AH O) ⊕ (List AV × AH O)) := (fun r5 =>
 (AV.asI .i64 (r5.1.getD 0 .u)).bind fun n6 =>
 (bif (decide (n6 < (l0.2 : Int))) then
 let σ7 := r5.2.bump 1
 (bif ((decide ((0 : Int) ≤ n6)) && (decide (n6 < (l0.2 : Int)))) then
 (SA.ref l0.1).bind fun q8 =>
 (σ7.ld q8.1 (q8.2 + (n6.toNat * 2))).bind fun w9 =>
 (AV.asI .u64 w9).bind fun n10 =>
 (σ7.ld q8.1 ((q8.2 + (n6.toNat * 2)) + 1)).bind fun w11 =>
 (AV.asI .u64 w11).bind fun n12 =>
 let σ13 := σ7.put r5.2.next (.cells true 98 [(.i .u64 0), (.i .u64 0)])
 (σ13.st (.n r5.2.next) 0 [(.i .u64 n10), (.i .u64 n12)]).bind fun σ14 =>
 (σ14.ld (.n σ2.next) 0).bind fun w15 =>
 (AV.asI .u64 w15).bind fun n16 =>
 (σ14.ld (.n σ2.next) 1).bind fun w17 =>
 (AV.asI .u64 w17).bind fun n18 =>
 (σ14.ld (.n r5.2.next) 0).bind fun w19 =>
 (AV.asI .u64 w19).bind fun n20 =>
 (σ14.ld (.n r5.2.next) 1).bind fun w21 =>
 (AV.asI .u64 w21).bind fun n22 =>
 (k54 [(.agg [(.i .u64 n16), (.i .u64 n18)]), (.agg [(.i .u64 n20), (.i .u64 n22)])] σ14).bind fun r23 =>
 (AV.asTup 2 r23.1).bind fun c24 =>
 (AV.asAgg 2 (c24.getD 0 .u)).bind fun c25 =>
 (AV.asI .u64 (c25.getD 0 .u)).bind fun n26 =>
 (AV.asI .u64 (c25.getD 1 .u)).bind fun n27 =>
 (AV.asB (c24.getD 1 .u)).bind fun b28 =>
 (r23.2.st (.n σ2.next) 0 [(.i .u64 n26), (.i .u64 n27)]).bind fun σ29 =>
 some (Sum.inl ([(.i .i64 (IntKind.i64.wrap (n6 + 1)))], σ29))
 else none)
 else some (Sum.inr ([], r5.2))))
noncomputable def cost_sum_c {O : Type} (k54 : Sm O) : Sm O := fun xs σ =>
 bif Nat.beq xs.length 1 then
 (AV.asSl (xs.getD 0 .u)).bind fun l0 =>
 let σ1 := σ.bump 1
 let σ2 := σ1.put σ.next (.cells true 98 [(.i .u64 0), (.i .u64 0)])
 let σ3 := σ2.bump 1
 let σ4 := σ3.put σ2.next (.cells true 98 [(.i .u64 0), (.i .u64 0)])
 (loopF (S := List AV × AH O) (T := List AV × AH O) (cost_sum_L1 l0 σ2 k54) ([J 0], σ4)).bind fun r30 =>
 (r30.2.ld (.n σ2.next) 0).bind fun w31 =>
 (AV.asI .u64 w31).bind fun n32 =>
 (r30.2.ld (.n σ2.next) 1).bind fun w33 =>
 (AV.asI .u64 w33).bind fun n34 =>
 (r30.2.st (.n σ.next) 0 [(.i .u64 n32), (.i .u64 n34)]).bind fun σ35 =>
 (σ35.ld (.n σ.next) 0).bind fun w36 =>
 (AV.asI .u64 w36).bind fun n37 =>
 (σ35.ld (.n σ.next) 1).bind fun w38 =>
 (AV.asI .u64 w38).bind fun n39 =>
 some ((.agg [(.i .u64 n37), (.i .u64 n39)]), σ35)
 else none
noncomputable def cost_sum {O : Type} : Sm O := cost_sum_c wide_Add
theorem cost_sum_ent : Entered Tryz.prog 107 := Tryz.call107
theorem cost_sum_run {O : Type} (k54 : Sm O) : run (O := O) Tryz.prog [(54, k54)] Tryz.f107 (.n .z (.n .z (.n (.n .z (.n (.lp false 0 [(8, .one (.i .i64))] [] (.n .z (.n .z (.n (.n .z .z) .z)))) .z)) .z))) = cost_sum_c k54 := by kernel_rfl
theorem cost_sum_sound {O : Type} {RO : O → Loc → (Nat → Option Obj) → Prop} : FSound RO Tryz.prog 107 (cost_sum) :=
   have h : FSound RO Tryz.prog 107 (cost_sum_c wide_Add) := (cost_sum_run wide_Add) ▸ run_sound (gcons wide_Add_ent (wide_Add_sound) <| gnil) mixed Tryz.func107 (by kernel_rfl) _
   h
noncomputable def cost_Deposit_c {O : Type} (k108 k107 : Sm O) : Sm O := fun xs σ =>
 bif Nat.beq xs.length 2 then
 (AV.asI .i64 (xs.getD 0 .u)).bind fun n0 =>
 (AV.asI .i64 (xs.getD 1 .u)).bind fun n1 =>
 let σ2 := σ.bump 1
 let σ3 := σ2.put σ.next (.cells true 98 [(.i .u64 0), (.i .u64 0)])
 let σ4 := σ3.bump 1
 (k108 [J n0, (.i .u64 64)] σ4).bind fun r5 =>
 (AV.asAgg 2 r5.1).bind fun c6 =>
 (AV.asI .u64 (c6.getD 0 .u)).bind fun n7 =>
 (AV.asI .u64 (c6.getD 1 .u)).bind fun n8 =>
 (k108 [J n1, (.i .u64 64)] r5.2).bind fun r9 =>
 (AV.asAgg 2 r9.1).bind fun c10 =>
 (AV.asI .u64 (c10.getD 0 .u)).bind fun n11 =>
 (AV.asI .u64 (c10.getD 1 .u)).bind fun n12 =>
 let σ13 := r9.2.put σ3.next (.cells true 98 [(.i .u64 n7), (.i .u64 n8), (.i .u64 n11), (.i .u64 n12)])
 (k107 [(.sl (.loc (.n σ3.next) 0 2) 2)] σ13).bind fun r14 =>
 (AV.asAgg 2 r14.1).bind fun c15 =>
 (AV.asI .u64 (c15.getD 0 .u)).bind fun n16 =>
 (AV.asI .u64 (c15.getD 1 .u)).bind fun n17 =>
 (r14.2.st (.n σ.next) 0 [(.i .u64 n16), (.i .u64 n17)]).bind fun σ18 =>
 (σ18.ld (.n σ.next) 0).bind fun w19 =>
 (AV.asI .u64 w19).bind fun n20 =>
 (σ18.ld (.n σ.next) 1).bind fun w21 =>
 (AV.asI .u64 w21).bind fun n22 =>
 some ((.agg [(.i .u64 n20), (.i .u64 n22)]), σ18)
 else none
noncomputable def cost_Deposit {O : Type} : Sm O := cost_Deposit_c cost_of cost_sum
theorem cost_Deposit_ent : Entered Tryz.prog 209 := Tryz.call209
theorem cost_Deposit_run {O : Type} (k108 k107 : Sm O) : run (O := O) Tryz.prog [(108, k108), (107, k107)] Tryz.f209 (.n .z .z) = cost_Deposit_c k108 k107 := by kernel_rfl
theorem cost_Deposit_sound {O : Type} {RO : O → Loc → (Nat → Option Obj) → Prop} : FSound RO Tryz.prog 209 (cost_Deposit) :=
   have h : FSound RO Tryz.prog 209 (cost_Deposit_c cost_of cost_sum) := (cost_Deposit_run cost_of cost_sum) ▸ run_sound (gcons cost_of_ent (cost_of_sound) <| gcons cost_sum_ent (cost_sum_sound) <| gnil) mixed Tryz.func209 (by kernel_rfl) _
   h
noncomputable def ledger_Ledger__in_c {O : Type} (k54 : Sm O) : Sm O := fun xs σ =>
 bif Nat.beq xs.length 2 then
 (AV.asAgg 4 (xs.getD 0 .u)).bind fun c0 =>
 (AV.asI .u64 (c0.getD 0 .u)).bind fun n1 =>
 (AV.asI .u64 (c0.getD 1 .u)).bind fun n2 =>
 (AV.asI .u64 (c0.getD 2 .u)).bind fun n3 =>
 (AV.asI .u64 (c0.getD 3 .u)).bind fun n4 =>
 (AV.asAgg 2 (xs.getD 1 .u)).bind fun c5 =>
 (AV.asI .u64 (c5.getD 0 .u)).bind fun n6 =>
 (AV.asI .u64 (c5.getD 1 .u)).bind fun n7 =>
 let σ8 := σ.bump 3
 let σ9 := σ8.put σ.next (.cells true 118 [(.i .u64 n1), (.i .u64 n2), (.i .u64 n3), (.i .u64 n4)])
 let σ10 := σ9.put (σ.next + 1) (.cells true 98 [(.i .u64 n6), (.i .u64 n7)])
 let σ11 := σ10.put ((σ.next + 1) + 1) (.cells true 118 [(.i .u64 0), (.i .u64 0), (.i .u64 0), (.i .u64 0)])
 (σ11.ld (.n σ.next) 0).bind fun w12 =>
 (AV.asI .u64 w12).bind fun n13 =>
 (σ11.ld (.n σ.next) 1).bind fun w14 =>
 (AV.asI .u64 w14).bind fun n15 =>
 (σ11.ld (.n (σ.next + 1)) 0).bind fun w16 =>
 (AV.asI .u64 w16).bind fun n17 =>
 (σ11.ld (.n (σ.next + 1)) 1).bind fun w18 =>
 (AV.asI .u64 w18).bind fun n19 =>
 (k54 [(.agg [(.i .u64 n13), (.i .u64 n15)]), (.agg [(.i .u64 n17), (.i .u64 n19)])] σ11).bind fun r20 =>
 (AV.asTup 2 r20.1).bind fun c21 =>
 (AV.asAgg 2 (c21.getD 0 .u)).bind fun c22 =>
 (AV.asI .u64 (c22.getD 0 .u)).bind fun n23 =>
 (AV.asI .u64 (c22.getD 1 .u)).bind fun n24 =>
 (AV.asB (c21.getD 1 .u)).bind fun b25 =>
 (r20.2.st (.n σ.next) 0 [(.i .u64 n23), (.i .u64 n24)]).bind fun σ26 =>
 (σ26.ld (.n σ.next) 0).bind fun w27 =>
 (AV.asI .u64 w27).bind fun n28 =>
 (σ26.ld (.n σ.next) 1).bind fun w29 =>
 (AV.asI .u64 w29).bind fun n30 =>
 (σ26.ld (.n σ.next) 2).bind fun w31 =>
 (AV.asI .u64 w31).bind fun n32 =>
 (σ26.ld (.n σ.next) 3).bind fun w33 =>
 (AV.asI .u64 w33).bind fun n34 =>
 (σ26.st (.n ((σ.next + 1) + 1)) 0 [(.i .u64 n28), (.i .u64 n30), (.i .u64 n32), (.i .u64 n34)]).bind fun σ35 =>
 (σ35.ld (.n ((σ.next + 1) + 1)) 0).bind fun w36 =>
 (AV.asI .u64 w36).bind fun n37 =>
 (σ35.ld (.n ((σ.next + 1) + 1)) 1).bind fun w38 =>
 (AV.asI .u64 w38).bind fun n39 =>
 (σ35.ld (.n ((σ.next + 1) + 1)) 2).bind fun w40 =>
 (AV.asI .u64 w40).bind fun n41 =>
 (σ35.ld (.n ((σ.next + 1) + 1)) 3).bind fun w42 =>
 (AV.asI .u64 w42).bind fun n43 =>
 some ((.agg [(.i .u64 n37), (.i .u64 n39), (.i .u64 n41), (.i .u64 n43)]), σ35)
 else none
noncomputable def ledger_Ledger__in {O : Type} : Sm O := ledger_Ledger__in_c wide_Add
theorem ledger_Ledger__in_ent : Entered Tryz.prog 208 := Tryz.call208
theorem ledger_Ledger__in_run {O : Type} (k54 : Sm O) : run (O := O) Tryz.prog [(54, k54)] Tryz.f208 (.n .z (.n .z .z)) = ledger_Ledger__in_c k54 := by kernel_rfl
theorem ledger_Ledger__in_sound {O : Type} {RO : O → Loc → (Nat → Option Obj) → Prop} : FSound RO Tryz.prog 208 (ledger_Ledger__in) :=
   have h : FSound RO Tryz.prog 208 (ledger_Ledger__in_c wide_Add) := (ledger_Ledger__in_run wide_Add) ▸ run_sound (gcons wide_Add_ent (wide_Add_sound) <| gnil) mixed Tryz.func208 (by kernel_rfl) _
   h
noncomputable def ledger_Ledger__Deposit_c {O : Type} (k209 k208 : Sm O) : Sm O := fun xs σ =>
 bif Nat.beq xs.length 3 then
 (AV.asAgg 4 (xs.getD 0 .u)).bind fun c0 =>
 (AV.asI .u64 (c0.getD 0 .u)).bind fun n1 =>
 (AV.asI .u64 (c0.getD 1 .u)).bind fun n2 =>
 (AV.asI .u64 (c0.getD 2 .u)).bind fun n3 =>
 (AV.asI .u64 (c0.getD 3 .u)).bind fun n4 =>
 (AV.asI .i64 (xs.getD 1 .u)).bind fun n5 =>
 (AV.asI .i64 (xs.getD 2 .u)).bind fun n6 =>
 let σ7 := σ.bump 2
 let σ8 := σ7.put σ.next (.cells true 118 [(.i .u64 n1), (.i .u64 n2), (.i .u64 n3), (.i .u64 n4)])
 let σ9 := σ8.put (σ.next + 1) (.cells true 118 [(.i .u64 0), (.i .u64 0), (.i .u64 0), (.i .u64 0)])
 (σ9.ld (.n σ.next) 0).bind fun w10 =>
 (AV.asI .u64 w10).bind fun n11 =>
 (σ9.ld (.n σ.next) 1).bind fun w12 =>
 (AV.asI .u64 w12).bind fun n13 =>
 (σ9.ld (.n σ.next) 2).bind fun w14 =>
 (AV.asI .u64 w14).bind fun n15 =>
 (σ9.ld (.n σ.next) 3).bind fun w16 =>
 (AV.asI .u64 w16).bind fun n17 =>
 (k209 [J n5, J n6] σ9).bind fun r18 =>
 (AV.asAgg 2 r18.1).bind fun c19 =>
 (AV.asI .u64 (c19.getD 0 .u)).bind fun n20 =>
 (AV.asI .u64 (c19.getD 1 .u)).bind fun n21 =>
 (chkE (r18.2.ld (.n σ.next) 0) (some (.i .u64 n11))).bind fun _ =>
 (chkE (r18.2.ld (.n σ.next) 1) (some (.i .u64 n13))).bind fun _ =>
 (chkE (r18.2.ld (.n σ.next) 2) (some (.i .u64 n15))).bind fun _ =>
 (chkE (r18.2.ld (.n σ.next) 3) (some (.i .u64 n17))).bind fun _ =>
 (k208 [(.agg [(.i .u64 n11), (.i .u64 n13), (.i .u64 n15), (.i .u64 n17)]), (.agg [(.i .u64 n20), (.i .u64 n21)])] r18.2).bind fun r22 =>
 (AV.asAgg 4 r22.1).bind fun c23 =>
 (AV.asI .u64 (c23.getD 0 .u)).bind fun n24 =>
 (AV.asI .u64 (c23.getD 1 .u)).bind fun n25 =>
 (AV.asI .u64 (c23.getD 2 .u)).bind fun n26 =>
 (AV.asI .u64 (c23.getD 3 .u)).bind fun n27 =>
 (r22.2.st (.n (σ.next + 1)) 0 [(.i .u64 n24), (.i .u64 n25), (.i .u64 n26), (.i .u64 n27)]).bind fun σ28 =>
 (σ28.ld (.n (σ.next + 1)) 0).bind fun w29 =>
 (AV.asI .u64 w29).bind fun n30 =>
 (σ28.ld (.n (σ.next + 1)) 1).bind fun w31 =>
 (AV.asI .u64 w31).bind fun n32 =>
 (σ28.ld (.n (σ.next + 1)) 2).bind fun w33 =>
 (AV.asI .u64 w33).bind fun n34 =>
 (σ28.ld (.n (σ.next + 1)) 3).bind fun w35 =>
 (AV.asI .u64 w35).bind fun n36 =>
 some ((.agg [(.i .u64 n30), (.i .u64 n32), (.i .u64 n34), (.i .u64 n36)]), σ28)
 else none
noncomputable def ledger_Ledger__Deposit {O : Type} : Sm O := ledger_Ledger__Deposit_c cost_Deposit ledger_Ledger__in
theorem ledger_Ledger__Deposit_ent : Entered Tryz.prog 132 := Tryz.call132
theorem ledger_Ledger__Deposit_run {O : Type} (k209 k208 : Sm O) : run (O := O) Tryz.prog [(209, k209), (208, k208)] Tryz.f132 (.n .z (.n (.d [] [0, 1, 2, 3, 4, 5] [0, 0, 0, 6, 15, 31]) .z)) = ledger_Ledger__Deposit_c k209 k208 := by kernel_rfl
theorem ledger_Ledger__Deposit_sound {O : Type} {RO : O → Loc → (Nat → Option Obj) → Prop} : FSound RO Tryz.prog 132 (ledger_Ledger__Deposit) :=
   have h : FSound RO Tryz.prog 132 (ledger_Ledger__Deposit_c cost_Deposit ledger_Ledger__in) := (ledger_Ledger__Deposit_run cost_Deposit ledger_Ledger__in) ▸ run_sound (gcons cost_Deposit_ent (cost_Deposit_sound) <| gcons ledger_Ledger__in_ent (ledger_Ledger__in_sound) <| gnil) mixed Tryz.func132 (by kernel_rfl) _
   h
noncomputable def heap_Heap__request_c {O : Type} (k56 k250 k251 k244 k243 k132 : Sm O) : Sm O := fun xs σ =>
 bif Nat.beq xs.length 2 then
 (AV.asP (xs.getD 0 .u)).bind fun p0 =>
 (AV.asI .i64 (xs.getD 1 .u)).bind fun n1 =>
 Option.bind p0 fun q2 =>
 (σ.ld q2.1 (q2.2 + 7)).bind fun w3 =>
 (AV.asI .i64 w3).bind fun n4 =>
 (σ.ld q2.1 ((q2.2 + 7) + 1)).bind fun w5 =>
 (AV.asI .i64 w5).bind fun n6 =>
 (σ.ld q2.1 (((q2.2 + 7) + 1) + 1)).bind fun w7 =>
 (AV.asI .i64 w7).bind fun n8 =>
 (σ.ld q2.1 ((((q2.2 + 7) + 1) + 1) + 1)).bind fun w9 =>
 (AV.asI .i64 w9).bind fun n10 =>
 (σ.ld q2.1 (((((q2.2 + 7) + 1) + 1) + 1) + 1)).bind fun w11 =>
 (AV.asI .i64 w11).bind fun n12 =>
 (σ.ld q2.1 ((((((q2.2 + 7) + 1) + 1) + 1) + 1) + 1)).bind fun w13 =>
 (AV.asI .i64 w13).bind fun n14 =>
 (σ.ld q2.1 (((((((q2.2 + 7) + 1) + 1) + 1) + 1) + 1) + 1)).bind fun w15 =>
 (AV.asI .i64 w15).bind fun n16 =>
 (σ.ld q2.1 ((((((((q2.2 + 7) + 1) + 1) + 1) + 1) + 1) + 1) + 1)).bind fun w17 =>
 (AV.asI .i64 w17).bind fun n18 =>
 (k56 [(.p p0)] σ).bind fun r19 =>
 (AV.asI .i64 r19.1).bind fun n20 =>
 (chkE (r19.2.ld q2.1 (q2.2 + 7)) (some (.i .i64 n4))).bind fun _ =>
 (chkE (r19.2.ld q2.1 ((q2.2 + 7) + 1)) (some (.i .i64 n6))).bind fun _ =>
 (chkE (r19.2.ld q2.1 (((q2.2 + 7) + 1) + 1)) (some (.i .i64 n8))).bind fun _ =>
 (chkE (r19.2.ld q2.1 ((((q2.2 + 7) + 1) + 1) + 1)) (some (.i .i64 n10))).bind fun _ =>
 (chkE (r19.2.ld q2.1 (((((q2.2 + 7) + 1) + 1) + 1) + 1)) (some (.i .i64 n12))).bind fun _ =>
 (chkE (r19.2.ld q2.1 ((((((q2.2 + 7) + 1) + 1) + 1) + 1) + 1)) (some (.i .i64 n14))).bind fun _ =>
 (chkE (r19.2.ld q2.1 (((((((q2.2 + 7) + 1) + 1) + 1) + 1) + 1) + 1)) (some (.i .i64 n16))).bind fun _ =>
 (chkE (r19.2.ld q2.1 ((((((((q2.2 + 7) + 1) + 1) + 1) + 1) + 1) + 1) + 1)) (some (.i .i64 n18))).bind fun _ =>
 (k250 [(.agg (P1 n4 n6 n8 n10 n12 n14 n16 n18)), J n20, J n1] r19.2).bind fun r21 =>
 (AV.asB r21.1).bind fun b22 =>
 (bif b22 then
 Option.bind p0 fun q23 =>
 (r21.2.ld q23.1 (q23.2 + 7)).bind fun w24 =>
 (AV.asI .i64 w24).bind fun n25 =>
 (r21.2.ld q23.1 ((q23.2 + 7) + 1)).bind fun w26 =>
 (AV.asI .i64 w26).bind fun n27 =>
 (r21.2.ld q23.1 (((q23.2 + 7) + 1) + 1)).bind fun w28 =>
 (AV.asI .i64 w28).bind fun n29 =>
 (r21.2.ld q23.1 ((((q23.2 + 7) + 1) + 1) + 1)).bind fun w30 =>
 (AV.asI .i64 w30).bind fun n31 =>
 (r21.2.ld q23.1 (((((q23.2 + 7) + 1) + 1) + 1) + 1)).bind fun w32 =>
 (AV.asI .i64 w32).bind fun n33 =>
 (r21.2.ld q23.1 ((((((q23.2 + 7) + 1) + 1) + 1) + 1) + 1)).bind fun w34 =>
 (AV.asI .i64 w34).bind fun n35 =>
 (r21.2.ld q23.1 (((((((q23.2 + 7) + 1) + 1) + 1) + 1) + 1) + 1)).bind fun w36 =>
 (AV.asI .i64 w36).bind fun n37 =>
 (r21.2.ld q23.1 ((((((((q23.2 + 7) + 1) + 1) + 1) + 1) + 1) + 1) + 1)).bind fun w38 =>
 (AV.asI .i64 w38).bind fun n39 =>
 (k251 [(.agg (P1 n25 n27 n29 n31 n33 n35 n37 n39))] r21.2).bind fun r40 =>
 (AV.asB r40.1).bind fun b41 =>
 (k244 [(.p p0)] r40.2).bind fun r42 =>
 (AV.asI .i64 r42.1).bind fun n43 =>
 (k243 [(.p p0), J n43, J n1, (.b b41)] r42.2).bind fun r44 =>
 (AV.asB r44.1).bind fun b45 =>
 (bif (!b45) then
 none
 else Option.bind p0 fun q46 =>
 (r44.2.ld q46.1 ((q46.2 + 32) + 3)).bind fun w47 =>
 (AV.asI .i64 w47).bind fun n48 =>
 Option.bind p0 fun q49 =>
 (r44.2.st q49.1 ((q49.2 + 32) + 3) [(.i .i64 (IntKind.i64.wrap (n48 + n1)))]).bind fun σ50 =>
 Option.bind p0 fun q51 =>
 (σ50.ld q51.1 (q51.2 + 15)).bind fun w52 =>
 (AV.asI .u64 w52).bind fun n53 =>
 (σ50.ld q51.1 ((q51.2 + 15) + 1)).bind fun w54 =>
 (AV.asI .u64 w54).bind fun n55 =>
 (σ50.ld q51.1 (((q51.2 + 15) + 1) + 1)).bind fun w56 =>
 (AV.asI .u64 w56).bind fun n57 =>
 (σ50.ld q51.1 ((((q51.2 + 15) + 1) + 1) + 1)).bind fun w58 =>
 (AV.asI .u64 w58).bind fun n59 =>
 (k132 [(.agg [(.i .u64 n53), (.i .u64 n55), (.i .u64 n57), (.i .u64 n59)]), J n1, J 0] σ50).bind fun r60 =>
 (AV.asAgg 4 r60.1).bind fun c61 =>
 (AV.asI .u64 (c61.getD 0 .u)).bind fun n62 =>
 (AV.asI .u64 (c61.getD 1 .u)).bind fun n63 =>
 (AV.asI .u64 (c61.getD 2 .u)).bind fun n64 =>
 (AV.asI .u64 (c61.getD 3 .u)).bind fun n65 =>
 Option.bind p0 fun q66 =>
 (r60.2.st q66.1 (q66.2 + 15) [(.i .u64 n62), (.i .u64 n63), (.i .u64 n64), (.i .u64 n65)]).bind fun σ67 =>
 some (J 0, σ67))
 else none)
 else none
noncomputable def heap_Heap__request {O : Type} (F : Nat) : Sm O := heap_Heap__request_c heap_Heap__used gate_Gate__Asks gate_Gate__Pressed (heap_Heap__collect F) heap_Heap__after ledger_Ledger__Deposit
theorem heap_Heap__request_ent : Entered Tryz.prog 213 := Tryz.call213
theorem heap_Heap__request_run {O : Type} (k56 k250 k251 k244 k243 k132 : Sm O) : run (O := O) Tryz.prog [(56, k56), (250, k250), (251, k251), (244, k244), (243, k243), (132, k132)] Tryz.f213 (.n .z (.n (.n (.d [] [0, 1, 2, 3, 4, 6, 5, 7] [0, 1, 3, 7, 0, 16, 0, 127]) (.n (.n .z (.n .z (.n .x .z))) .x)) (.n .z (.n .z .z)))) = heap_Heap__request_c k56 k250 k251 k244 k243 k132 := by kernel_rfl
theorem heap_Heap__request_sound {O : Type} {RO : O → Loc → (Nat → Option Obj) → Prop} (F : Nat) : FSound RO Tryz.prog 213 (heap_Heap__request F) :=
   have h : FSound RO Tryz.prog 213 (heap_Heap__request_c heap_Heap__used gate_Gate__Asks gate_Gate__Pressed (heap_Heap__collect F) heap_Heap__after ledger_Ledger__Deposit) := (heap_Heap__request_run heap_Heap__used gate_Gate__Asks gate_Gate__Pressed (heap_Heap__collect F) heap_Heap__after ledger_Ledger__Deposit) ▸ run_sound (gcons heap_Heap__used_ent (heap_Heap__used_sound) <| gcons gate_Gate__Asks_ent (gate_Gate__Asks_sound) <| gcons gate_Gate__Pressed_ent (gate_Gate__Pressed_sound) <| gcons heap_Heap__collect_ent (heap_Heap__collect_sound F) <| gcons heap_Heap__after_ent (heap_Heap__after_sound) <| gcons ledger_Ledger__Deposit_ent (ledger_Ledger__Deposit_sound) <| gnil) mixed Tryz.func213 (by kernel_rfl) _
   h
noncomputable def pool_Pool__grow_c {O : Type} (k324 k336 : Sm O) : Sm O := fun xs σ =>
 bif Nat.beq xs.length 1 then
 (AV.asP (xs.getD 0 .u)).bind fun p0 =>
 Option.bind p0 fun q1 =>
 (σ.ld q1.1 (q1.2 + 3)).bind fun w2 =>
 (AV.asI .i64 w2).bind fun n3 =>
 (bif (decide (n3 ≥ 1048576)) then
 none
 else Option.bind p0 fun q4 =>
 (σ.ld q4.1 (q4.2 + 3)).bind fun w5 =>
 (AV.asI .i64 w5).bind fun n6 =>
 Option.bind p0 fun q7 =>
 (σ.ld q7.1 (q7.2 + 4)).bind fun w8 =>
 (AV.asI .i64 w8).bind fun n9 =>
 (bif (decide (n6 < n9)) then
 none
 else Option.bind p0 fun q10 =>
 (σ.ld q10.1 (q10.2 + 4)).bind fun w11 =>
 (AV.asI .i64 w11).bind fun n12 =>
 let v13 : Int := (if (IntKind.i64.wrap (2 * n12)) > 8 then (IntKind.i64.wrap (2 * n12)) else 8)
 Option.bind p0 fun q14 =>
 (σ.ld q14.1 q14.2).bind fun w15 =>
 (AV.asP w15).bind fun p16 =>
 Option.bind p0 fun q17 =>
 (σ.ld q17.1 (q17.2 + 1)).bind fun w18 =>
 (AV.asI .i64 w18).bind fun n19 =>
 (k324 [(.p p0)] σ).bind fun r20 =>
 (AV.asI .i64 r20.1).bind fun n21 =>
 (chkE (r20.2.ld q14.1 q14.2) (some (.p p16))).bind fun _ =>
 (chkE (r20.2.ld q17.1 (q17.2 + 1)) (some (.i .i64 n19))).bind fun _ =>
 (k336 [(.p p16), J n19, (.i .i64 (IntKind.i64.wrap (v13 * n21)))] r20.2).bind fun r22 =>
 (AV.asI .i64 r22.1).bind fun n23 =>
 (bif ((n23 : Int) != 0) then
 none
 else Option.bind p0 fun q24 =>
 (r22.2.st q24.1 (q24.2 + 4) [J v13]).bind fun σ25 =>
 some (J 0, σ25))))
 else none
noncomputable def pool_Pool__grow {O : Type} : Sm O := pool_Pool__grow_c pool_Pool__width mem_Mem__Grow
theorem pool_Pool__grow_ent : Entered Tryz.prog 387 := Tryz.call387
theorem pool_Pool__grow_run {O : Type} (k324 k336 : Sm O) : run (O := O) Tryz.prog [(324, k324), (336, k336)] Tryz.f387 (.n .z (.n (.n (.n .z (.n .x (.n (.d [] [0, 1, 2, 3, 4, 5, 6, 7, 8, 9] [0, 1, 3, 7, 0, 16, 48, 112, 255, 511]) (.n .x .z)))) .z) (.n .z (.n (.n (.d [] [0, 1, 2, 3, 4, 5, 6, 7, 8, 9, 10, 11, 12, 13] [0, 1, 3, 7, 0, 16, 48, 112, 0, 0, 512, 1792, 4095, 8191]) (.n .z (.n .x .z))) (.n .z .z))))) = pool_Pool__grow_c k324 k336 := by kernel_rfl
theorem pool_Pool__grow_sound {O : Type} {RO : O → Loc → (Nat → Option Obj) → Prop} : FSound RO Tryz.prog 387 (pool_Pool__grow) :=
   have h : FSound RO Tryz.prog 387 (pool_Pool__grow_c pool_Pool__width mem_Mem__Grow) := (pool_Pool__grow_run pool_Pool__width mem_Mem__Grow) ▸ run_sound (gcons pool_Pool__width_ent (pool_Pool__width_sound) <| gcons mem_Mem__Grow_ent (mem_Mem__Grow_sound) <| gnil) mixed Tryz.func387 (by kernel_rfl) _
   h
noncomputable def pool_Pool__Take_c {O : Type} (k387 k286 k287 k195 : Sm O) : Sm O := fun xs σ =>
 bif Nat.beq xs.length 1 then
 (AV.asP (xs.getD 0 .u)).bind fun p0 =>
 Option.bind p0 fun q1 =>
 (σ.ld q1.1 (q1.2 + 5)).bind fun w2 =>
 (AV.asI .i64 w2).bind fun n3 =>
 (bif ((n3 : Int) == 0) then
 (k387 [(.p p0)] σ).bind fun r4 =>
 (AV.asI .i64 r4.1).bind fun n5 =>
 (bif ((n5 : Int) != 0) then
 none
 else Option.bind p0 fun q6 =>
 (r4.2.ld q6.1 (q6.2 + 3)).bind fun w7 =>
 (AV.asI .i64 w7).bind fun n8 =>
 Option.bind p0 fun q9 =>
 (r4.2.st q9.1 (q9.2 + 3) [(.i .i64 (IntKind.i64.wrap (n8 + 1)))]).bind fun σ10 =>
 Option.bind p0 fun q11 =>
 (σ10.ld q11.1 (q11.2 + 3)).bind fun w12 =>
 (AV.asI .i64 w12).bind fun n13 =>
 Option.bind p0 fun q14 =>
 (σ10.ld q14.1 q14.2).bind fun w15 =>
 (AV.asP w15).bind fun p16 =>
 Option.bind p0 fun q17 =>
 (σ10.ld q17.1 (q17.2 + 1)).bind fun w18 =>
 (AV.asI .i64 w18).bind fun n19 =>
 (k286 [(.p p0), J n13, (.i .i64 (-1))] σ10).bind fun r20 =>
 (AV.asI .i64 r20.1).bind fun n21 =>
 (chkE (r20.2.ld q14.1 q14.2) (some (.p p16))).bind fun _ =>
 (chkE (r20.2.ld q17.1 (q17.2 + 1)) (some (.i .i64 n19))).bind fun _ =>
 (k287 [(.p p16), J n19, J n21, (.i .u64 1)] r20.2).bind fun r22 =>
 (AV.asI .i64 r22.1).bind fun n23 =>
 Option.bind p0 fun q24 =>
 (r22.2.ld q24.1 (q24.2 + 6)).bind fun w25 =>
 (AV.asI .i64 w25).bind fun n26 =>
 Option.bind p0 fun q27 =>
 (r22.2.st q27.1 (q27.2 + 6) [(.i .i64 (IntKind.i64.wrap (n26 + 1)))]).bind fun σ28 =>
 some ((.tup [J n13, J 0]), σ28))
 else none)
 else none
noncomputable def pool_Pool__Take {O : Type} : Sm O := pool_Pool__Take_c pool_Pool__grow pool_Pool__at mem_Mem__Write mem_Mem__Read
theorem pool_Pool__Take_ent : Entered Tryz.prog 332 := Tryz.call332
theorem pool_Pool__Take_run {O : Type} (k387 k286 k287 k195 : Sm O) : run (O := O) Tryz.prog [(387, k387), (286, k286), (287, k287), (195, k195)] Tryz.f332 (.n .z (.n .z (.n (.n .z (.n (.n (.n .z (.n .z (.n .x .z))) (.n .z (.n .z (.n (.d [] [0, 1, 2, 3, 4, 5, 6, 7, 8, 9, 10, 11] [0, 1, 3, 7, 0, 16, 48, 112, 0, 0, 768, 2047]) (.n .z .z))))) .x)) (.n (.d [] [0, 1, 2, 3, 4, 5, 6, 7, 8, 9, 10, 11, 12, 13, 14, 15, 16] [0, 1, 3, 7, 0, 16, 48, 112, 0, 0, 768, 2047, 4095, 8191, 8191, 16383, 65535]) (.n (.d [] [0, 1, 2, 3, 4, 5, 6, 7, 8, 9, 10, 11, 12, 13, 14, 15, 16] [0, 1, 3, 7, 0, 16, 48, 112, 0, 0, 768, 2047, 4095, 8191, 8191, 16383, 65535]) (.n (.d [] [0, 1, 2, 3, 4, 5, 6, 7, 8, 9, 11, 12, 10, 13] [0, 1, 3, 7, 0, 16, 48, 112, 0, 0, 768, 0, 2048, 8191]) (.n (.d [] [0, 1, 2, 3, 4, 5, 6, 7, 8, 9, 11, 12, 13, 14, 10, 15] [0, 1, 3, 7, 0, 16, 48, 112, 0, 0, 768, 0, 2048, 6144, 14336, 32767]) (.n .z (.n .z .z))))))))) = pool_Pool__Take_c k387 k286 k287 k195 := by kernel_rfl
theorem pool_Pool__Take_sound {O : Type} {RO : O → Loc → (Nat → Option Obj) → Prop} : FSound RO Tryz.prog 332 (pool_Pool__Take) :=
   have h : FSound RO Tryz.prog 332 (pool_Pool__Take_c pool_Pool__grow pool_Pool__at mem_Mem__Write mem_Mem__Read) := (pool_Pool__Take_run pool_Pool__grow pool_Pool__at mem_Mem__Write mem_Mem__Read) ▸ run_sound (gcons pool_Pool__grow_ent (pool_Pool__grow_sound) <| gcons pool_Pool__at_ent (pool_Pool__at_sound) <| gcons mem_Mem__Write_ent (mem_Mem__Write_sound) <| gcons mem_Mem__Read_ent (mem_Mem__Read_sound) <| gnil) mixed Tryz.func332 (by kernel_rfl) _
   h
noncomputable def chain_Table__Push_c {O : Type} (k325 k388 : Sm O) : Sm O := fun xs σ =>
 bif Nat.beq xs.length 3 then
 (AV.asAgg 5 (xs.getD 0 .u)).bind fun c0 =>
 (AV.asP (c0.getD 0 .u)).bind fun p1 =>
 I6 c0 1 fun n2 => I6 c0 2 fun n3 => I6 c0 3 fun n4 => I6 c0 4 fun n5 => (AV.asAgg 3 (xs.getD 1 .u)).bind fun c6 =>
 I6 c6 0 fun n7 => I6 c6 1 fun n8 => I6 c6 2 fun n9 => (AV.asI .i64 (xs.getD 2 .u)).bind fun n10 =>
 let σ11 := σ.bump 3
 let σ12 := σ11.put σ.next (.cells true 328 [(.p p1), J n2, J n3, J n4, J n5])
 let σ13 := σ12.put (σ.next + 1) (.cells true 296 [J n7, J n8, J n9])
 let σ14 := σ13.put ((σ.next + 1) + 1) (.cells true 296 [J 0, J 0, J 0])
 (σ14.ld (.n σ.next) 0).bind fun w15 =>
 (AV.asP w15).bind fun p16 =>
 (σ14.ld (.n σ.next) 1).bind fun w17 =>
 (AV.asI .i64 w17).bind fun n18 =>
 (σ14.ld (.n σ.next) 2).bind fun w19 =>
 (AV.asI .i64 w19).bind fun n20 =>
 (σ14.ld (.n σ.next) 3).bind fun w21 =>
 (AV.asI .i64 w21).bind fun n22 =>
 (σ14.ld (.n σ.next) 4).bind fun w23 =>
 (AV.asI .i64 w23).bind fun n24 =>
 (k325 [(.agg [(.p p16), J n18, J n20, J n22, J n24]), J n10] σ14).bind fun r25 =>
 (AV.asI .i64 r25.1).bind fun n26 =>
 (bif ((n26 : Int) != 0) then
 none
 else (r25.2.ld (.n σ.next) 0).bind fun w27 =>
 (AV.asP w27).bind fun p28 =>
 (r25.2.ld (.n σ.next) 1).bind fun w29 =>
 (AV.asI .i64 w29).bind fun n30 =>
 (r25.2.ld (.n σ.next) 2).bind fun w31 =>
 (AV.asI .i64 w31).bind fun n32 =>
 (r25.2.ld (.n σ.next) 3).bind fun w33 =>
 (AV.asI .i64 w33).bind fun n34 =>
 (r25.2.ld (.n σ.next) 4).bind fun w35 =>
 (AV.asI .i64 w35).bind fun n36 =>
 (r25.2.ld (.n σ.next) 4).bind fun w37 =>
 (AV.asI .i64 w37).bind fun n38 =>
 (r25.2.ld (.n (σ.next + 1)) 1).bind fun w39 =>
 (AV.asI .i64 w39).bind fun n40 =>
 (k388 [(.agg [(.p p28), J n30, J n32, J n34, J n36]), J n10, J n38, J n40] r25.2).bind fun r41 =>
 (AV.asTup 0 r41.1).bind fun c42 =>
 (r41.2.ld (.n σ.next) 0).bind fun w43 =>
 (AV.asP w43).bind fun p44 =>
 (r41.2.ld (.n σ.next) 1).bind fun w45 =>
 (AV.asI .i64 w45).bind fun n46 =>
 (r41.2.ld (.n σ.next) 2).bind fun w47 =>
 (AV.asI .i64 w47).bind fun n48 =>
 (r41.2.ld (.n σ.next) 3).bind fun w49 =>
 (AV.asI .i64 w49).bind fun n50 =>
 (r41.2.ld (.n σ.next) 4).bind fun w51 =>
 (AV.asI .i64 w51).bind fun n52 =>
 (r41.2.ld (.n σ.next) 3).bind fun w53 =>
 (AV.asI .i64 w53).bind fun n54 =>
 (k388 [(.agg [(.p p44), J n46, J n48, J n50, J n52]), J n10, J n54, J 0] r41.2).bind fun r55 =>
 (AV.asTup 0 r55.1).bind fun c56 =>
 (r55.2.ld (.n (σ.next + 1)) 2).bind fun w57 =>
 (AV.asI .i64 w57).bind fun n58 =>
 (bif ((n58 : Int) == 0) then
 (r55.2.st (.n ((σ.next + 1) + 1)) 0 [J n10, J n10, J 1]).bind fun σ59 =>
 (σ59.ld (.n ((σ.next + 1) + 1)) 0).bind fun w60 =>
 (AV.asI .i64 w60).bind fun n61 =>
 (σ59.ld (.n ((σ.next + 1) + 1)) 1).bind fun w62 =>
 (AV.asI .i64 w62).bind fun n63 =>
 (σ59.ld (.n ((σ.next + 1) + 1)) 2).bind fun w64 =>
 (AV.asI .i64 w64).bind fun n65 =>
 some ((.tup [(.agg [J n61, J n63, J n65]), J 0]), σ59)
 else none))
 else none
noncomputable def chain_Table__Push {O : Type} : Sm O := chain_Table__Push_c chain_Table__check chain_Table__set
theorem chain_Table__Push_ent : Entered Tryz.prog 333 := Tryz.call333
theorem chain_Table__Push_run {O : Type} (k325 k388 : Sm O) : run (O := O) Tryz.prog [(325, k325), (388, k388)] Tryz.f333 (.n .z (.n (.n .z (.n .z (.n .x .z))) (.n .z (.n .z (.n (.n .z (.n .z .x)) (.n .z .z)))))) = chain_Table__Push_c k325 k388 := by kernel_rfl
theorem chain_Table__Push_sound {O : Type} {RO : O → Loc → (Nat → Option Obj) → Prop} : FSound RO Tryz.prog 333 (chain_Table__Push) :=
   have h : FSound RO Tryz.prog 333 (chain_Table__Push_c chain_Table__check chain_Table__set) := (chain_Table__Push_run chain_Table__check chain_Table__set) ▸ run_sound (gcons chain_Table__check_ent (chain_Table__check_sound) <| gcons chain_Table__set_ent (chain_Table__set_sound) <| gnil) mixed Tryz.func333 (by kernel_rfl) _
   h
noncomputable def pool_Pool__Gen_c {O : Type} (k384 : Sm O) : Sm O := fun xs σ =>
 bif Nat.beq xs.length 2 then
 (AV.asP (xs.getD 0 .u)).bind fun p0 =>
 (AV.asI .i64 (xs.getD 1 .u)).bind fun n1 =>
 (k384 [(.p p0), J n1] σ).bind fun r2 =>
 (AV.asTup 2 r2.1).bind fun c3 =>
 (AV.asI .u64 (c3.getD 0 .u)).bind fun n4 =>
 (AV.asB (c3.getD 1 .u)).bind fun b5 =>
 some ((.i .i64 (IntKind.i64.wrap (Int.fdiv n4 (2 ^ 1)))), r2.2)
 else none
noncomputable def pool_Pool__Gen {O : Type} : Sm O := pool_Pool__Gen_c pool_Pool__look
theorem pool_Pool__Gen_ent : Entered Tryz.prog 335 := Tryz.call335
theorem pool_Pool__Gen_run {O : Type} (k384 : Sm O) : run (O := O) Tryz.prog [(384, k384)] Tryz.f335 (.n .z (.n .z .z)) = pool_Pool__Gen_c k384 := by kernel_rfl
theorem pool_Pool__Gen_sound {O : Type} {RO : O → Loc → (Nat → Option Obj) → Prop} : FSound RO Tryz.prog 335 (pool_Pool__Gen) :=
   have h : FSound RO Tryz.prog 335 (pool_Pool__Gen_c pool_Pool__look) := (pool_Pool__Gen_run pool_Pool__look) ▸ run_sound (gcons pool_Pool__look_ent (pool_Pool__look_sound) <| gnil) mixed Tryz.func335 (by kernel_rfl) _
   h
end Go.Abs.Tryz
