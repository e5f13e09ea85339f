/-
  What functions of the program do. No conditions.
-/
import Derived.Test.YtnbichnjfamdkaaGreatAbsExtern
import Derived.Test.YtnbichnjfamdkaaGreatAbsWord
import Derived.Test.YtnbichnjfamdkaaGreatProg
import Derived.KernelRfl
set_option linter.unusedVariables false
set_option linter.unusedSimpArgs false
set_option linter.constructorNameAsVariable false
set_option maxRecDepth 100000
namespace Go.Abs.Tryz
open Go Go.Abs Go.Proofs
noncomputable section
variable {O : Type} {RO : O → Loc → (Nat → Option Obj) → Prop}
theorem mixed : Tryz.prog.follows .mixedOrders = true := by kernel_rfl
theorem sdf {G : List (FuncId × Sm O)} {f : FuncId} {fn : Func} {an : Ann} {s : Sm O} (e : run Tryz.prog G fn an = s) (hG : GSound RO Tryz.prog G) (hf : Tryz.prog.funcs[f]? = some fn) (hk : fnOK fn = true) : FSound RO Tryz.prog f s := e ▸ run_sound hG mixed hf hk an
abbrev T_canon_Form : Nat := 25
abbrev T_haymowref40_Form : Nat := 30
abbrev T_haymowref40_Node : Nat := 75
def law40_few_L1 (h : AH O) : List AV × AH O → Option ((List AV × AH O) ⊕ ((List AV × AH O) ⊕ (AV × AH O))) := (fun r6 =>
 (AV.asI .i64 (r6.1.getD 0 .u)).bind fun n7 =>
 ldS r6.2 (.n h.next) 0 fun l9 =>
 ((bif ((decide (n7 < (l9.2 : Int))) == true) then
 some ([(.b (decide (n7 < 20)))], r6.2)
 else some ([(.b false)], r6.2)) : Option (List AV × AH O)).bind fun r10 =>
 (AV.asB (r10.1.getD 0 .u)).bind fun b11 =>
 (bif b11 then
 ldS r10.2 (.n h.next) 0 fun l13 =>
 (bif ((decide ((0 : Int) ≤ n7)) && (decide (n7 < (l13.2 : Int)))) then
 (SA.ref l13.1).bind fun q14 =>
 ldS r10.2 q14.1 ((q14.2 + (n7.toNat * 7)) + 5) fun l16 =>
 ((bif ((decide ((l16.2 : Int) > 20)) == false) then
 ldS r10.2 (.n h.next) 0 fun l18 =>
 (bif ((decide ((0 : Int) ≤ n7)) && (decide (n7 < (l18.2 : Int)))) then
 (SA.ref l18.1).bind fun q19 =>
 ldS r10.2 q19.1 ((q19.2 + (n7.toNat * 7)) + 6) fun l21 =>
 some ([(.b (decide ((l21.2 : Int) > 20)))], r10.2)
 else none)
 else some ([(.b true)], r10.2)) : Option (List AV × AH O)).bind fun r22 =>
 (AV.asB (r22.1.getD 0 .u)).bind fun b23 =>
 (bif b23 then
 ((some ((.b false), r22.2) : Option (AV × AH O)).map fun r => Sum.inr (Sum.inr r))
 else some (Sum.inl ([(.i .i64 (IntKind.i64.wrap (n7 + 1)))], r22.2)))
 else none)
 else some (Sum.inr (Sum.inl ([], r10.2)))))
def law40_few_c : Sm O := fun xs h =>
 bif Nat.beq xs.length 1 then
 (AV.asAgg 3 (xs.getD 0 .u)).bind fun c0 =>
 gtS c0 0 fun l1 =>
 gtS c0 1 fun l2 =>
 gtS c0 2 fun l3 =>
 let h4 := h.bump 1
 let h5 := h4.put h.next (.cells true 25 [(.sl l1.1 l1.2), (.sl l2.1 l2.2), (.sl l3.1 l3.2)])
 bindS (S := List AV × AH O) (R := (AV × AH O)) (loopF (S := List AV × AH O) (T := (List AV × AH O) ⊕ (AV × AH O)) (law40_few_L1 h) ([(.i .i64 0)], h5)) fun r24 =>
 ldS r24.2 (.n h.next) 0 fun l26 =>
 ((bif ((decide ((l26.2 : Int) ≤ 20)) == true) then
 ldS r24.2 (.n h.next) 1 fun l28 =>
 some ([(.b (decide ((l28.2 : Int) ≤ 20)))], r24.2)
 else some ([(.b false)], r24.2)) : Option (List AV × AH O)).bind fun r29 =>
 (AV.asB (r29.1.getD 0 .u)).bind fun b30 =>
 ((bif (b30 == true) then
 ldS r29.2 (.n h.next) 2 fun l32 =>
 some ([(.b (decide ((l32.2 : Int) ≤ 20)))], r29.2)
 else some ([(.b false)], r29.2)) : Option (List AV × AH O)).bind fun r33 =>
 (AV.asB (r33.1.getD 0 .u)).bind fun b34 =>
 some ((.b b34), r33.2)
 else none
def law40_few : Sm O := law40_few_c
theorem law40_few_ent : Entered Tryz.prog 5 := Tryz.call5
theorem law40_few_run : run (O := O) Tryz.prog [] Tryz.f5 (.n .z (.n (.n .z (.n (.lp true 0 [(3, .one (.i .i64))] [] (.n (.n (.g [(5, 2, [(12, .one .b)])]) .z) (.n (.n (.n (.g [(8, 8, [(32, .one .b)])]) (.n .z .z)) .z) .z))) .z)) (.n (.g [(4, 4, [(42, .one .b)]), (10, 4, [(48, .one .b)])]) .z))) = law40_few_c  := by kernel_rfl
theorem law40_few_sound : FSound RO Tryz.prog 5 law40_few := sdf law40_few_run (gnil) Tryz.func5 (by kernel_rfl)
def law40_Ref_L1 (h : AH O) (h6 : AH O) : List AV × AH O → Option ((List AV × AH O) ⊕ (List AV × AH O)) := (fun r14 =>
 (AV.asI .i64 (r14.1.getD 0 .u)).bind fun n15 =>
 ldS r14.2 (.n h.next) 0 fun l17 =>
 (bif (decide (n15 < (l17.2 : Int))) then
 let h18 := r14.2.bump 2
 ldS h18 (.n h6.next) 0 fun l20 =>
 ldS h18 (.n h.next) 0 fun l22 =>
 (bif ((decide ((0 : Int) ≤ n15)) && (decide (n15 < (l22.2 : Int)))) then
 (SA.ref l22.1).bind fun q23 =>
 ldI h18 q23.1 (q23.2 + (n15.toNat * 7)) fun n25 =>
 ldI h18 q23.1 ((q23.2 + (n15.toNat * 7)) + 1) fun n27 =>
 ldI h18 q23.1 (((q23.2 + (n15.toNat * 7)) + 1) + 1) fun n29 =>
 ldI h18 q23.1 ((((q23.2 + (n15.toNat * 7)) + 1) + 1) + 1) fun n31 =>
 (h18.ld q23.1 (((((q23.2 + (n15.toNat * 7)) + 1) + 1) + 1) + 1)).bind fun w32 =>
 (AV.asB w32).bind fun b33 =>
 ldS h18 (.n h.next) 0 fun l35 =>
 (bif ((decide ((0 : Int) ≤ n15)) && (decide (n15 < (l35.2 : Int)))) then
 (SA.ref l35.1).bind fun q36 =>
 ldS h18 q36.1 ((q36.2 + (n15.toNat * 7)) + 5) fun l38 =>
 ldS h18 (.n h.next) 0 fun l40 =>
 (bif ((decide ((0 : Int) ≤ n15)) && (decide (n15 < (l40.2 : Int)))) then
 (SA.ref l40.1).bind fun q41 =>
 ldS h18 q41.1 ((q41.2 + (n15.toNat * 7)) + 6) fun l43 =>
 let h44 := h18.put r14.2.next (.cells true 75 [(.i .i64 n25), (.i .i64 n27), (.i .i64 n29), (.i .i64 n31), (.b b33), (.sl l38.1 l38.2), (.sl l43.1 l43.2)])
 (h44.rdSl (.loc (.n r14.2.next) 0 7) 1 7).bind fun new45 =>
 (bif (Nat.ble ((l20.2 + 1) * 89) 35184372088832) then
 (h44.appSl (r14.2.next + 1) 75 7 l20.1 l20.2 1 new45).bind fun r46 =>
 (AV.asSl r46.1).bind fun l47 =>
 (r46.2.st (.n h6.next) 0 [(.sl l47.1 l47.2)]).bind fun h48 =>
 some (Sum.inl ([(.i .i64 (IntKind.i64.wrap (n15 + 1)))], h48))
 else none)
 else none)
 else none)
 else none)
 else some (Sum.inr ([], r14.2))))
def law40_Ref_c : Sm O := fun xs h =>
 bif Nat.beq xs.length 1 then
 (AV.asAgg 3 (xs.getD 0 .u)).bind fun c0 =>
 gtS c0 0 fun l1 =>
 gtS c0 1 fun l2 =>
 gtS c0 2 fun l3 =>
 let h4 := h.bump 2
 let h5 := h4.put h.next (.cells true 25 [(.sl l1.1 l1.2), (.sl l2.1 l2.2), (.sl l3.1 l3.2)])
 let h6 := h5.put (h.next + 1) (.cells true 30 [(.sl .nil 0), (.sl .nil 0), (.sl .nil 0)])
 let h7 := h6.bump 1
 ldS h7 (.n h.next) 1 fun l9 =>
 ldS h7 (.n h.next) 2 fun l11 =>
 let h12 := h7.put h6.next (.cells true 30 [(.sl .nil 0), (.sl .nil 0), (.sl .nil 0)])
 (h12.st (.n h6.next) 0 [(.sl .nil 0), (.sl l9.1 l9.2), (.sl l11.1 l11.2)]).bind fun h13 =>
 (loopF (S := List AV × AH O) (T := List AV × AH O) (law40_Ref_L1 h h6) ([(.i .i64 0)], h13)).bind fun r49 =>
 ldS r49.2 (.n h6.next) 0 fun l51 =>
 ldS r49.2 (.n h6.next) 1 fun l53 =>
 ldS r49.2 (.n h6.next) 2 fun l55 =>
 (r49.2.st (.n (h.next + 1)) 0 [(.sl l51.1 l51.2), (.sl l53.1 l53.2), (.sl l55.1 l55.2)]).bind fun h56 =>
 ldS h56 (.n (h.next + 1)) 0 fun l58 =>
 ldS h56 (.n (h.next + 1)) 1 fun l60 =>
 ldS h56 (.n (h.next + 1)) 2 fun l62 =>
 some ((.agg [(.sl l58.1 l58.2), (.sl l60.1 l60.2), (.sl l62.1 l62.2)]), h56)
 else none
def law40_Ref : Sm O := frz (law40_Ref_c)
theorem law40_Ref_ent : Entered Tryz.prog 6 := Tryz.call6
theorem law40_Ref_run : run (O := O) Tryz.prog [] Tryz.f6 (.n .z (.n .z (.n (.n .z (.n (.lp false 0 [(4, .one (.i .i64))] [] (.n (.n .z .z) (.n (.n (.d [] [0, 1, 2, 3, 4, 5, 6, 7, 8, 9, 10, 11, 12, 13, 14, 15, 16, 17, 18, 19, 20, 21, 22, 23, 24] [0, 1, 0, 4, 0, 28, 60, 124, 0, 256, 0, 1792, 3840, 7936, 0, 16384, 0, 114688, 245760, 507904, 1048572, 2097148, 4194303, 8388607, 16777215]) .z) .z))) .z)) .z))) = law40_Ref_c  := by kernel_rfl
theorem law40_Ref_sound : FSound RO Tryz.prog 6 (law40_Ref) :=
   have h : FSound RO Tryz.prog 6 (law40_Ref_c) := (law40_Ref_run) ▸ run_sound (gnil) mixed Tryz.func6 (by kernel_rfl) _
   h.frz
def canon_within_1_c : Sm O := fun xs h =>
 bif Nat.beq xs.length 3 then
 gtI xs 0 fun n0 =>
 (AV.asPS (xs.getD 1 .u)).bind fun q1 =>
 ldI h q1.1 q1.2 fun n3 =>
 ((bif ((decide (n0 < n3)) == false) then
 (AV.asPS (xs.getD 2 .u)).bind fun q4 =>
 ldI h q4.1 q4.2 fun n6 =>
 some ([(.b (decide (n0 > n6)))], h)
 else some ([(.b true)], h)) : Option (List AV × AH O)).bind fun r7 =>
 (AV.asB (r7.1.getD 0 .u)).bind fun b8 =>
 some ((.b b8), r7.2)
 else none
def canon_within_1 : Sm O := canon_within_1_c
theorem canon_within_1_ent : Entered Tryz.prog 44 := Tryz.call44
theorem canon_within_1_run : run (O := O) Tryz.prog [] Tryz.f44 (.n .z (.n (.g [(3, 3, [(12, .one .b)])]) .z)) = canon_within_1_c  := by kernel_rfl
theorem canon_within_1_sound : FSound RO Tryz.prog 44 canon_within_1 := sdf canon_within_1_run (gnil) Tryz.func44 (by kernel_rfl)
def slices_IndexFunc___int_int__L1 (l0 : SA × Nat) (k44 : Sm O) (f1 : Option (Fn × List AV × List AV)) : List AV × AH O → Option ((List AV × AH O) ⊕ ((List AV × AH O) ⊕ (AV × AH O))) := (fun r2 =>
 (AV.asI .i64 (r2.1.getD 0 .u)).bind fun n3 =>
 (bif (decide (n3 < (l0.2 : Int))) then
 (bif ((decide ((0 : Int) ≤ n3)) && (decide (n3 < (l0.2 : Int)))) then
 (SA.ref l0.1).bind fun q4 =>
 ldI r2.2 q4.1 (q4.2 + (n3.toNat * 1)) fun n6 =>
 (callV [(44, k44)] f1 [(.i .i64 n6)] r2.2).bind fun r7 =>
 (AV.asB r7.1).bind fun b8 =>
 (bif b8 then
 ((some ((.i .i64 n3), r7.2) : Option (AV × AH O)).map fun r => Sum.inr (Sum.inr r))
 else some (Sum.inl ([(.i .i64 (IntKind.i64.wrap (n3 + 1)))], r7.2)))
 else none)
 else some (Sum.inr (Sum.inl ([], r2.2)))))
def slices_IndexFunc___int_int__c (k44 : Sm O) : Sm O := fun xs h =>
 bif Nat.beq xs.length 2 then
 gtS xs 0 fun l0 =>
 (AV.asF (xs.getD 1 .u)).bind fun f1 =>
 bindS (S := List AV × AH O) (R := (AV × AH O)) (loopF (S := List AV × AH O) (T := (List AV × AH O) ⊕ (AV × AH O)) (slices_IndexFunc___int_int__L1 l0 k44 f1) ([(.i .i64 0)], h)) fun r9 =>
 some ((.i .i64 (-1)), r9.2)
 else none
def slices_IndexFunc___int_int_ : Sm O := slices_IndexFunc___int_int__c canon_within_1
theorem slices_IndexFunc___int_int__ent : Entered Tryz.prog 71 := Tryz.call71
theorem slices_IndexFunc___int_int__run (k44 : Sm O) : run (O := O) Tryz.prog [(44, k44)] Tryz.f71 (.n .z (.n (.n .z (.n (.lp true 0 [(8, .one (.i .i64))] [] (.n .z (.n .z (.n (.n (.n .z (.n .z (.n .z .z))) .z) .z)))) .z)) .z)) = slices_IndexFunc___int_int__c k44 := by kernel_rfl
theorem slices_IndexFunc___int_int__sound : FSound RO Tryz.prog 71 slices_IndexFunc___int_int_ := sdf (slices_IndexFunc___int_int__run _) (gcons canon_within_1_ent canon_within_1_sound <| gnil) Tryz.func71 (by kernel_rfl)
def slices_ContainsFunc___int_int__c (k71 : Sm O) : Sm O := fun xs h =>
 bif Nat.beq xs.length 2 then
 gtS xs 0 fun l0 =>
 (AV.asF (xs.getD 1 .u)).bind fun f1 =>
 (k71 [(.sl l0.1 l0.2), (.fn f1)] h).bind fun r2 =>
 (AV.asI .i64 r2.1).bind fun n3 =>
 some ((.b (decide (n3 ≥ 0))), r2.2)
 else none
def slices_ContainsFunc___int_int_ : Sm O := slices_ContainsFunc___int_int__c slices_IndexFunc___int_int_
theorem slices_ContainsFunc___int_int__ent : Entered Tryz.prog 43 := Tryz.call43
theorem slices_ContainsFunc___int_int__run (k71 : Sm O) : run (O := O) Tryz.prog [(71, k71)] Tryz.f43 (.n .z .z) = slices_ContainsFunc___int_int__c k71 := by kernel_rfl
theorem slices_ContainsFunc___int_int__sound : FSound RO Tryz.prog 43 slices_ContainsFunc___int_int_ := sdf (slices_ContainsFunc___int_int__run _) (gcons slices_IndexFunc___int_int__ent slices_IndexFunc___int_int__sound <| gnil) Tryz.func43 (by kernel_rfl)
def canon_within_c (k44 k43 : Sm O) : Sm O := fun xs h =>
 bif Nat.beq xs.length 3 then
 gtS xs 0 fun l0 =>
 gtI xs 1 fun n1 =>
 gtI xs 2 fun n2 =>
 let h3 := h.bump 2
 let h4 := h3.put h.next (.cells true 3 [(.i .i64 n1)])
 let h5 := h4.put (h.next + 1) (.cells true 3 [(.i .i64 n2)])
 (k43 [(.sl l0.1 l0.2), (.fn (some (.func 44, [], [(.p (some ((.n h.next), 0))), (.p (some ((.n (h.next + 1)), 0)))])))] h5).bind fun r6 =>
 (AV.asB r6.1).bind fun b7 =>
 some ((.b (!b7)), r6.2)
 else none
def canon_within : Sm O := canon_within_c canon_within_1 slices_ContainsFunc___int_int_
theorem canon_within_ent : Entered Tryz.prog 17 := Tryz.call17
theorem canon_within_run (k44 k43 : Sm O) : run (O := O) Tryz.prog [(44, k44), (43, k43)] Tryz.f17 (.n .z .z) = canon_within_c k44 k43 := by kernel_rfl
theorem canon_within_sound : FSound RO Tryz.prog 17 canon_within := sdf (canon_within_run _ _) (gcons canon_within_1_ent canon_within_1_sound <| gcons slices_ContainsFunc___int_int__ent slices_ContainsFunc___int_int__sound <| gnil) Tryz.func17 (by kernel_rfl)
def canon_Right_1_L1 (l0 : SA × Nat) (xs : List AV) : List AV × AH O → Option ((List AV × AH O) ⊕ ((List AV × AH O) ⊕ (AV × AH O))) := (fun r1 =>
 (AV.asI .i64 (r1.1.getD 0 .u)).bind fun n2 =>
 (bif (decide (n2 < (l0.2 : Int))) then
 (bif ((decide ((0 : Int) ≤ n2)) && (decide (n2 < (l0.2 : Int)))) then
 (SA.ref l0.1).bind fun q3 =>
 ldI r1.2 q3.1 (q3.2 + (n2.toNat * 1)) fun n5 =>
 (AV.asPS (xs.getD 1 .u)).bind fun q6 =>
 ldI r1.2 q6.1 q6.2 fun n8 =>
 (bif (decide (n5 > (IntKind.i64.wrap (n8 + 1)))) then
 ((some ((.b false), r1.2) : Option (AV × AH O)).map fun r => Sum.inr (Sum.inr r))
 else (AV.asPS (xs.getD 1 .u)).bind fun q9 =>
 ldI r1.2 q9.1 q9.2 fun n11 =>
 (AV.asPS (xs.getD 1 .u)).bind fun q12 =>
 (r1.2.st q12.1 q12.2 [(.i .i64 (if n5 > n11 then n5 else n11))]).bind fun h13 =>
 some (Sum.inl ([(.i .i64 (IntKind.i64.wrap (n2 + 1)))], h13)))
 else none)
 else some (Sum.inr (Sum.inl ([], r1.2)))))
def canon_Right_1_c : Sm O := fun xs h =>
 bif Nat.beq xs.length 2 then
 gtS xs 0 fun l0 =>
 bindS (S := List AV × AH O) (R := (AV × AH O)) (loopF (S := List AV × AH O) (T := (List AV × AH O) ⊕ (AV × AH O)) (canon_Right_1_L1 l0 xs) ([(.i .i64 0)], h)) fun r14 =>
 some ((.b true), r14.2)
 else none
def canon_Right_1 : Sm O := canon_Right_1_c
theorem canon_Right_1_ent : Entered Tryz.prog 18 := Tryz.call18
theorem canon_Right_1_run : run (O := O) Tryz.prog [] Tryz.f18 (.n .z (.n (.n .z (.n (.lp true 0 [(8, .one (.i .i64))] [] (.n .z (.n .z (.n (.n (.n .z (.n (.n .z (.n .z .z)) .z)) .z) .z)))) .z)) .z)) = canon_Right_1_c  := by kernel_rfl
theorem canon_Right_1_sound : FSound RO Tryz.prog 18 canon_Right_1 := sdf canon_Right_1_run (gnil) Tryz.func18 (by kernel_rfl)
def header_within_c : Sm O := fun xs h =>
 bif Nat.beq xs.length 2 then
 gtI xs 0 fun n0 =>
 gtI xs 1 fun n1 =>
 ((bif ((decide (n0 ≥ 0)) == true) then
 some ([(.b (decide (n0 ≤ n1)))], h)
 else some ([(.b false)], h)) : Option (List AV × AH O)).bind fun r2 =>
 (AV.asB (r2.1.getD 0 .u)).bind fun b3 =>
 some ((.b b3), r2.2)
 else none
def header_within : Sm O := header_within_c
theorem header_within_ent : Entered Tryz.prog 45 := Tryz.call45
theorem header_within_run : run (O := O) Tryz.prog [] Tryz.f45 (.n .z (.n (.g [(2, 3, [(11, .one .b)])]) .z)) = header_within_c  := by kernel_rfl
theorem header_within_sound : FSound RO Tryz.prog 45 header_within := sdf header_within_run (gnil) Tryz.func45 (by kernel_rfl)
def header_Check_c (k45 : Sm O) : Sm O := fun xs h =>
 bif Nat.beq xs.length 1 then
 (AV.asAgg 5 (xs.getD 0 .u)).bind fun c0 =>
 gtI c0 0 fun n1 =>
 gtI c0 1 fun n2 =>
 gtI c0 2 fun n3 =>
 gtI c0 3 fun n4 =>
 (AV.asB (c0.getD 4 .u)).bind fun b5 =>
 let h6 := h.bump 1
 let h7 := h6.put h.next (.cells true 72 [(.i .i64 n1), (.i .i64 n2), (.i .i64 n3), (.i .i64 n4), (.b b5)])
 ldI h7 (.n h.next) 0 fun n9 =>
 (k45 [(.i .i64 n9), (.i .i64 4095)] h7).bind fun r10 =>
 (AV.asB r10.1).bind fun b11 =>
 ((bif ((!b11) == false) then
 ldI r10.2 (.n h.next) 1 fun n13 =>
 (k45 [(.i .i64 n13), (.i .i64 4095)] r10.2).bind fun r14 =>
 (AV.asB r14.1).bind fun b15 =>
 some ([(.b (!b15))], r14.2)
 else some ([(.b true)], r10.2)) : Option (List AV × AH O)).bind fun r16 =>
 (AV.asB (r16.1.getD 0 .u)).bind fun b17 =>
 (bif b17 then
 some ((.i .i64 20), r16.2)
 else ldI r16.2 (.n h.next) 2 fun n19 =>
 (k45 [(.i .i64 n19), (.i .i64 31)] r16.2).bind fun r20 =>
 (AV.asB r20.1).bind fun b21 =>
 (bif (!b21) then
 some ((.i .i64 21), r20.2)
 else ldI r20.2 (.n h.next) 3 fun n23 =>
 (k45 [(.i .i64 n23), (.i .i64 7)] r20.2).bind fun r24 =>
 (AV.asB r24.1).bind fun b25 =>
 (bif (!b25) then
 some ((.i .i64 2), r24.2)
 else some ((.i .i64 0), r24.2))))
 else none
def header_Check : Sm O := header_Check_c header_within
theorem header_Check_ent : Entered Tryz.prog 19 := Tryz.call19
theorem header_Check_run (k45 : Sm O) : run (O := O) Tryz.prog [(45, k45)] Tryz.f19 (.n .z (.n (.n (.n (.g [(5, 5, [(15, .one .b)])]) (.n .z (.n .z (.n .z (.n .z (.n .z .z)))))) .z) .z)) = header_Check_c k45 := by kernel_rfl
theorem header_Check_sound : FSound RO Tryz.prog 19 header_Check := sdf (header_Check_run _) (gcons header_within_ent header_within_sound <| gnil) Tryz.func19 (by kernel_rfl)
def canon_Right_L1 (l26 : SA × Nat) (r16 : List AV × AH O) (k19 : Sm O) (k17 : Sm O) (l7 : SA × Nat) (k18 : Sm O) : List AV × AH O → Option ((List AV × AH O) ⊕ ((List AV × AH O) ⊕ (AV × AH O))) := (fun r27 =>
 (AV.asI .i64 (r27.1.getD 0 .u)).bind fun n28 =>
 (bif (decide (n28 < (l26.2 : Int))) then
 let h29 := r27.2.bump 1
 (bif ((decide ((0 : Int) ≤ n28)) && (decide (n28 < (l26.2 : Int)))) then
 (SA.ref l26.1).bind fun q30 =>
 ldI h29 q30.1 (q30.2 + (n28.toNat * 7)) fun n32 =>
 ldI h29 q30.1 ((q30.2 + (n28.toNat * 7)) + 1) fun n34 =>
 ldI h29 q30.1 (((q30.2 + (n28.toNat * 7)) + 1) + 1) fun n36 =>
 ldI h29 q30.1 ((((q30.2 + (n28.toNat * 7)) + 1) + 1) + 1) fun n38 =>
 (h29.ld q30.1 (((((q30.2 + (n28.toNat * 7)) + 1) + 1) + 1) + 1)).bind fun w39 =>
 (AV.asB w39).bind fun b40 =>
 ldS h29 q30.1 ((((((q30.2 + (n28.toNat * 7)) + 1) + 1) + 1) + 1) + 1) fun l42 =>
 ldS h29 q30.1 (((((((q30.2 + (n28.toNat * 7)) + 1) + 1) + 1) + 1) + 1) + 1) fun l44 =>
 let h45 := h29.put r27.2.next (.cells true 77 [(.i .i64 0), (.i .i64 0), (.i .i64 0), (.i .i64 0), (.b false), (.sl .nil 0), (.sl .nil 0)])
 (h45.st (.n r27.2.next) 0 [(.i .i64 n32), (.i .i64 n34), (.i .i64 n36), (.i .i64 n38), (.b b40), (.sl l42.1 l42.2), (.sl l44.1 l44.2)]).bind fun h46 =>
 ldI h46 (.n r16.2.next) 0 fun n48 =>
 ((bif ((decide (n28 ≥ n48)) == false) then
 ldI h46 (.n r27.2.next) 0 fun n50 =>
 ldI h46 (.n r27.2.next) 1 fun n52 =>
 ldI h46 (.n r27.2.next) 2 fun n54 =>
 ldI h46 (.n r27.2.next) 3 fun n56 =>
 (h46.ld (.n r27.2.next) 4).bind fun w57 =>
 (AV.asB w57).bind fun b58 =>
 (k19 [(.agg [(.i .i64 n50), (.i .i64 n52), (.i .i64 n54), (.i .i64 n56), (.b b58)])] h46).bind fun r59 =>
 (AV.asI .i64 r59.1).bind fun n60 =>
 some ([(.b ((n60 : Int) != 0))], r59.2)
 else some ([(.b true)], h46)) : Option (List AV × AH O)).bind fun r61 =>
 (AV.asB (r61.1.getD 0 .u)).bind fun b62 =>
 ((bif (b62 == false) then
 ldS r61.2 (.n r27.2.next) 5 fun l64 =>
 ldI r61.2 (.n r27.2.next) 0 fun n66 =>
 some ([(.b (((l64.2 : Int) : Int) != n66))], r61.2)
 else some ([(.b true)], r61.2)) : Option (List AV × AH O)).bind fun r67 =>
 (AV.asB (r67.1.getD 0 .u)).bind fun b68 =>
 ((bif (b68 == false) then
 ldS r67.2 (.n r27.2.next) 6 fun l70 =>
 ldI r67.2 (.n r27.2.next) 1 fun n72 =>
 some ([(.b (((l70.2 : Int) : Int) != n72))], r67.2)
 else some ([(.b true)], r67.2)) : Option (List AV × AH O)).bind fun r73 =>
 (AV.asB (r73.1.getD 0 .u)).bind fun b74 =>
 (bif b74 then
 ((some ((.b false), r73.2) : Option (AV × AH O)).map fun r => Sum.inr (Sum.inr r))
 else ldS r73.2 (.n r27.2.next) 5 fun l76 =>
 (k17 [(.sl l76.1 l76.2), (.i .i64 0), (.i .i64 (l7.2 : Int))] r73.2).bind fun r77 =>
 (AV.asB r77.1).bind fun b78 =>
 ((bif ((!b78) == false) then
 ldS r77.2 (.n r27.2.next) 5 fun l80 =>
 (k18 [(.sl l80.1 l80.2), (.p (some ((.n r16.2.next), 0)))] r77.2).bind fun r81 =>
 (AV.asB r81.1).bind fun b82 =>
 some ([(.b (!b82))], r81.2)
 else some ([(.b true)], r77.2)) : Option (List AV × AH O)).bind fun r83 =>
 (AV.asB (r83.1.getD 0 .u)).bind fun b84 =>
 (bif b84 then
 ((some ((.b false), r83.2) : Option (AV × AH O)).map fun r => Sum.inr (Sum.inr r))
 else some (Sum.inl ([(.i .i64 (IntKind.i64.wrap (n28 + 1)))], r83.2))))
 else none)
 else some (Sum.inr (Sum.inl ([], r27.2)))))
def canon_Right_c (k17 k18 k19 : Sm O) : Sm O := fun xs h =>
 bif Nat.beq xs.length 1 then
 (AV.asAgg 3 (xs.getD 0 .u)).bind fun c0 =>
 gtS c0 0 fun l1 =>
 gtS c0 1 fun l2 =>
 gtS c0 2 fun l3 =>
 let h4 := h.bump 1
 let h5 := h4.put h.next (.cells true 25 [(.sl l1.1 l1.2), (.sl l2.1 l2.2), (.sl l3.1 l3.2)])
 ldS h5 (.n h.next) 0 fun l7 =>
 ldS h5 (.n h.next) 1 fun l9 =>
 (k17 [(.sl l9.1 l9.2), (.i .i64 1), (.i .i64 (l7.2 : Int))] h5).bind fun r10 =>
 (AV.asB r10.1).bind fun b11 =>
 ((bif ((!b11) == false) then
 ldS r10.2 (.n h.next) 2 fun l13 =>
 (k17 [(.sl l13.1 l13.2), (.i .i64 0), (.i .i64 (l7.2 : Int))] r10.2).bind fun r14 =>
 (AV.asB r14.1).bind fun b15 =>
 some ([(.b (!b15))], r14.2)
 else some ([(.b true)], r10.2)) : Option (List AV × AH O)).bind fun r16 =>
 (AV.asB (r16.1.getD 0 .u)).bind fun b17 =>
 (bif b17 then
 some ((.b false), r16.2)
 else let h18 := r16.2.bump 1
 let h19 := h18.put r16.2.next (.cells true 3 [(.i .i64 0)])
 (h19.st (.n r16.2.next) 0 [(.i .i64 0)]).bind fun h20 =>
 ldS h20 (.n h.next) 1 fun l22 =>
 (k18 [(.sl l22.1 l22.2), (.p (some ((.n r16.2.next), 0)))] h20).bind fun r23 =>
 (AV.asB r23.1).bind fun b24 =>
 (bif (!b24) then
 some ((.b false), r23.2)
 else ldS r23.2 (.n h.next) 0 fun l26 =>
 bindS (S := List AV × AH O) (R := (AV × AH O)) (loopF (S := List AV × AH O) (T := (List AV × AH O) ⊕ (AV × AH O)) (canon_Right_L1 l26 r16 k19 k17 l7 k18) ([(.i .i64 0)], r23.2)) fun r85 =>
 some ((.b true), r85.2)))
 else none
def canon_Right : Sm O := canon_Right_c canon_within canon_Right_1 header_Check
theorem canon_Right_ent : Entered Tryz.prog 7 := Tryz.call7
theorem canon_Right_run (k17 k18 k19 : Sm O) : run (O := O) Tryz.prog [(17, k17), (18, k18), (19, k19)] Tryz.f7 (.n .z (.n .z (.n (.n (.g [(5, 5, [(22, .one .b)])]) (.n .z .z)) (.n .z (.n .z (.n (.n .z (.n .z .z)) (.n (.n .z (.n (.lp true 0 [(32, .one (.i .i64))] [] (.n .z (.n .z (.n (.n (.n .z (.n (.n (.g [(3, 4, [(45, .one .b)]), (9, 8, [(55, .one .b)]), (19, 8, [(65, .one .b)])]) (.n .z .z)) (.n (.g [(5, 5, [(77, .one .b)])]) (.n .z .z)))) .z) .z)))) .z)) .z))))))) = canon_Right_c k17 k18 k19 := by kernel_rfl
theorem canon_Right_sound : FSound RO Tryz.prog 7 canon_Right := sdf (canon_Right_run _ _ _) (gcons canon_within_ent canon_within_sound <| gcons canon_Right_1_ent canon_Right_1_sound <| gcons header_Check_ent header_Check_sound <| gnil) Tryz.func7 (by kernel_rfl)
def haymowref12_Check_c : Sm O := fun xs h =>
 bif Nat.beq xs.length 1 then
 (AV.asAgg 5 (xs.getD 0 .u)).bind fun c0 =>
 gtI c0 0 fun n1 =>
 gtI c0 1 fun n2 =>
 gtI c0 2 fun n3 =>
 gtI c0 3 fun n4 =>
 (AV.asB (c0.getD 4 .u)).bind fun b5 =>
 let h6 := h.bump 1
 let h7 := h6.put h.next (.cells true 72 [(.i .i64 n1), (.i .i64 n2), (.i .i64 n3), (.i .i64 n4), (.b b5)])
 ldI h7 (.n h.next) 0 fun n9 =>
 ldI h7 (.n h.next) 1 fun n11 =>
 ((bif ((decide (n9 < 0)) == false) then
 some ([(.b (decide (n9 > 4095)))], h7)
 else some ([(.b true)], h7)) : Option (List AV × AH O)).bind fun r12 =>
 (AV.asB (r12.1.getD 0 .u)).bind fun b13 =>
 ((bif (b13 == false) then
 some ([(.b (decide (n11 < 0)))], r12.2)
 else some ([(.b true)], r12.2)) : Option (List AV × AH O)).bind fun r14 =>
 (AV.asB (r14.1.getD 0 .u)).bind fun b15 =>
 ((bif (b15 == false) then
 some ([(.b (decide (n11 > 4095)))], r14.2)
 else some ([(.b true)], r14.2)) : Option (List AV × AH O)).bind fun r16 =>
 (AV.asB (r16.1.getD 0 .u)).bind fun b17 =>
 (bif b17 then
 some ((.i .i64 20), r16.2)
 else ldI r16.2 (.n h.next) 2 fun n19 =>
 ((bif ((decide (n19 < 0)) == false) then
 ldI r16.2 (.n h.next) 2 fun n21 =>
 some ([(.b (decide (n21 > 31)))], r16.2)
 else some ([(.b true)], r16.2)) : Option (List AV × AH O)).bind fun r22 =>
 (AV.asB (r22.1.getD 0 .u)).bind fun b23 =>
 (bif b23 then
 some ((.i .i64 21), r22.2)
 else ldI r22.2 (.n h.next) 3 fun n25 =>
 ((bif ((decide (n25 < 0)) == false) then
 ldI r22.2 (.n h.next) 3 fun n27 =>
 some ([(.b (decide (n27 > 7)))], r22.2)
 else some ([(.b true)], r22.2)) : Option (List AV × AH O)).bind fun r28 =>
 (AV.asB (r28.1.getD 0 .u)).bind fun b29 =>
 (bif b29 then
 some ((.i .i64 2), r28.2)
 else some ((.i .i64 0), r28.2))))
 else none
def haymowref12_Check : Sm O := haymowref12_Check_c
theorem haymowref12_Check_ent : Entered Tryz.prog 20 := Tryz.call20
theorem haymowref12_Check_run : run (O := O) Tryz.prog [] Tryz.f20 (.n .z (.n (.d [] [0, 1, 2, 3, 4, 5, 6, 7] [0, 1, 3, 0, 8, 24, 7, 127]) (.n (.n (.g [(2, 2, [(16, .one .b)]), (6, 2, [(20, .one .b)]), (10, 2, [(24, .one .b)])]) (.n .z .z)) (.n (.n (.g [(3, 3, [(32, .one .b)])]) (.n .z .z)) (.n (.n (.g [(3, 3, [(40, .one .b)])]) (.n .z .z)) .z))))) = haymowref12_Check_c  := by kernel_rfl
theorem haymowref12_Check_sound : FSound RO Tryz.prog 20 haymowref12_Check := sdf haymowref12_Check_run (gnil) Tryz.func20 (by kernel_rfl)
def haymowref40_Right_L4 (h : AH O) : List AV × AH O → Option ((List AV × AH O) ⊕ ((List AV × AH O) ⊕ (AV × AH O))) := (fun r124 =>
 (AV.asI .i64 (r124.1.getD 0 .u)).bind fun n125 =>
 ldS r124.2 (.n h.next) 2 fun l127 =>
 (bif (decide (n125 < (l127.2 : Int))) then
 ldS r124.2 (.n h.next) 2 fun l129 =>
 (bif ((decide ((0 : Int) ≤ n125)) && (decide (n125 < (l129.2 : Int)))) then
 (SA.ref l129.1).bind fun q130 =>
 ldI r124.2 q130.1 (q130.2 + (n125.toNat * 1)) fun n132 =>
 ((bif ((decide (n132 < 0)) == false) then
 ldS r124.2 (.n h.next) 2 fun l134 =>
 (bif ((decide ((0 : Int) ≤ n125)) && (decide (n125 < (l134.2 : Int)))) then
 (SA.ref l134.1).bind fun q135 =>
 ldI r124.2 q135.1 (q135.2 + (n125.toNat * 1)) fun n137 =>
 ldS r124.2 (.n h.next) 0 fun l139 =>
 some ([(.b (decide (n137 > (l139.2 : Int))))], r124.2)
 else none)
 else some ([(.b true)], r124.2)) : Option (List AV × AH O)).bind fun r140 =>
 (AV.asB (r140.1.getD 0 .u)).bind fun b141 =>
 (bif b141 then
 ((some ((.b false), r140.2) : Option (AV × AH O)).map fun r => Sum.inr (Sum.inr r))
 else some (Sum.inl ([(.i .i64 (IntKind.i64.wrap (n125 + 1)))], r140.2)))
 else none)
 else some (Sum.inr (Sum.inl ([], r124.2)))))
def haymowref40_Right_L3 (r39 : List AV × AH O) (h : AH O) : List AV × AH O → Option ((List AV × AH O) ⊕ ((List AV × AH O) ⊕ ((List AV × AH O) ⊕ ((List AV × AH O) ⊕ (AV × AH O))))) := (fun r90 =>
 (AV.asI .i64 (r90.1.getD 0 .u)).bind fun n91 =>
 (AV.asI .i64 (r90.1.getD 1 .u)).bind fun n92 =>
 ldS r90.2 (.n r39.2.next) 5 fun l94 =>
 (bif (decide (n92 < (l94.2 : Int))) then
 ldS r90.2 (.n r39.2.next) 5 fun l96 =>
 (bif ((decide ((0 : Int) ≤ n92)) && (decide (n92 < (l96.2 : Int)))) then
 (SA.ref l96.1).bind fun q97 =>
 ldI r90.2 q97.1 (q97.2 + (n92.toNat * 1)) fun n99 =>
 ((bif ((decide (n99 < 0)) == false) then
 ldS r90.2 (.n r39.2.next) 5 fun l101 =>
 (bif ((decide ((0 : Int) ≤ n92)) && (decide (n92 < (l101.2 : Int)))) then
 (SA.ref l101.1).bind fun q102 =>
 ldI r90.2 q102.1 (q102.2 + (n92.toNat * 1)) fun n104 =>
 ldS r90.2 (.n h.next) 0 fun l106 =>
 some ([(.b (decide (n104 > (l106.2 : Int))))], r90.2)
 else none)
 else some ([(.b true)], r90.2)) : Option (List AV × AH O)).bind fun r107 =>
 (AV.asB (r107.1.getD 0 .u)).bind fun b108 =>
 ((bif (b108 == false) then
 ldS r107.2 (.n r39.2.next) 5 fun l110 =>
 (bif ((decide ((0 : Int) ≤ n92)) && (decide (n92 < (l110.2 : Int)))) then
 (SA.ref l110.1).bind fun q111 =>
 ldI r107.2 q111.1 (q111.2 + (n92.toNat * 1)) fun n113 =>
 some ([(.b (decide (n113 > (IntKind.i64.wrap (n91 + 1)))))], r107.2)
 else none)
 else some ([(.b true)], r107.2)) : Option (List AV × AH O)).bind fun r114 =>
 (AV.asB (r114.1.getD 0 .u)).bind fun b115 =>
 (bif b115 then
 ((((some ((.b false), r114.2) : Option (AV × AH O)).map fun r => Sum.inr (Sum.inr r)) : Option ((List AV × AH O) ⊕ ((List AV × AH O) ⊕ (AV × AH O)))).map fun r => Sum.inr (Sum.inr r))
 else ldS r114.2 (.n r39.2.next) 5 fun l117 =>
 (bif ((decide ((0 : Int) ≤ n92)) && (decide (n92 < (l117.2 : Int)))) then
 (SA.ref l117.1).bind fun q118 =>
 ldI r114.2 q118.1 (q118.2 + (n92.toNat * 1)) fun n120 =>
 some (Sum.inl ([(.i .i64 (if n120 > n91 then n120 else n91)), (.i .i64 (IntKind.i64.wrap (n92 + 1)))], r114.2))
 else none))
 else none)
 else some (Sum.inr (Sum.inl ([(.i .i64 n91)], r90.2)))))
def haymowref40_Right_L2 (h : AH O) (k20 : Sm O) : List AV × AH O → Option ((List AV × AH O) ⊕ ((List AV × AH O) ⊕ (AV × AH O))) := (fun r39 =>
 (AV.asI .i64 (r39.1.getD 0 .u)).bind fun n40 =>
 (AV.asI .i64 (r39.1.getD 1 .u)).bind fun n41 =>
 ldS r39.2 (.n h.next) 0 fun l43 =>
 (bif (decide (n41 < (l43.2 : Int))) then
 let h44 := r39.2.bump 1
 ldS h44 (.n h.next) 0 fun l46 =>
 (bif ((decide ((0 : Int) ≤ n41)) && (decide (n41 < (l46.2 : Int)))) then
 (SA.ref l46.1).bind fun q47 =>
 ldI h44 q47.1 (q47.2 + (n41.toNat * 7)) fun n49 =>
 ldI h44 q47.1 ((q47.2 + (n41.toNat * 7)) + 1) fun n51 =>
 ldI h44 q47.1 (((q47.2 + (n41.toNat * 7)) + 1) + 1) fun n53 =>
 ldI h44 q47.1 ((((q47.2 + (n41.toNat * 7)) + 1) + 1) + 1) fun n55 =>
 (h44.ld q47.1 (((((q47.2 + (n41.toNat * 7)) + 1) + 1) + 1) + 1)).bind fun w56 =>
 (AV.asB w56).bind fun b57 =>
 ldS h44 q47.1 ((((((q47.2 + (n41.toNat * 7)) + 1) + 1) + 1) + 1) + 1) fun l59 =>
 ldS h44 q47.1 (((((((q47.2 + (n41.toNat * 7)) + 1) + 1) + 1) + 1) + 1) + 1) fun l61 =>
 let h62 := h44.put r39.2.next (.cells true 75 [(.i .i64 0), (.i .i64 0), (.i .i64 0), (.i .i64 0), (.b false), (.sl .nil 0), (.sl .nil 0)])
 (h62.st (.n r39.2.next) 0 [(.i .i64 n49), (.i .i64 n51), (.i .i64 n53), (.i .i64 n55), (.b b57), (.sl l59.1 l59.2), (.sl l61.1 l61.2)]).bind fun h63 =>
 ((bif ((decide (n40 ≤ n41)) == false) then
 ldI h63 (.n r39.2.next) 0 fun n65 =>
 ldI h63 (.n r39.2.next) 1 fun n67 =>
 ldI h63 (.n r39.2.next) 2 fun n69 =>
 ldI h63 (.n r39.2.next) 3 fun n71 =>
 (h63.ld (.n r39.2.next) 4).bind fun w72 =>
 (AV.asB w72).bind fun b73 =>
 (k20 [(.agg [(.i .i64 n65), (.i .i64 n67), (.i .i64 n69), (.i .i64 n71), (.b b73)])] h63).bind fun r74 =>
 (AV.asI .i64 r74.1).bind fun n75 =>
 some ([(.b ((n75 : Int) != 0))], r74.2)
 else some ([(.b true)], h63)) : Option (List AV × AH O)).bind fun r76 =>
 (AV.asB (r76.1.getD 0 .u)).bind fun b77 =>
 ((bif (b77 == false) then
 ldS r76.2 (.n r39.2.next) 5 fun l79 =>
 ldI r76.2 (.n r39.2.next) 0 fun n81 =>
 some ([(.b (((l79.2 : Int) : Int) != n81))], r76.2)
 else some ([(.b true)], r76.2)) : Option (List AV × AH O)).bind fun r82 =>
 (AV.asB (r82.1.getD 0 .u)).bind fun b83 =>
 ((bif (b83 == false) then
 ldS r82.2 (.n r39.2.next) 6 fun l85 =>
 ldI r82.2 (.n r39.2.next) 1 fun n87 =>
 some ([(.b (((l85.2 : Int) : Int) != n87))], r82.2)
 else some ([(.b true)], r82.2)) : Option (List AV × AH O)).bind fun r88 =>
 (AV.asB (r88.1.getD 0 .u)).bind fun b89 =>
 (bif b89 then
 ((some ((.b false), r88.2) : Option (AV × AH O)).map fun r => Sum.inr (Sum.inr r))
 else bindS (S := List AV × AH O) (R := ((List AV × AH O) ⊕ ((List AV × AH O) ⊕ (AV × AH O)))) (loopF (S := List AV × AH O) (T := (List AV × AH O) ⊕ ((List AV × AH O) ⊕ ((List AV × AH O) ⊕ (AV × AH O)))) (haymowref40_Right_L3 r39 h) ([(.i .i64 n40), (.i .i64 0)], r88.2)) fun r121 =>
 (AV.asI .i64 (r121.1.getD 0 .u)).bind fun n122 =>
 some (Sum.inl ([(.i .i64 n122), (.i .i64 (IntKind.i64.wrap (n41 + 1)))], r121.2)))
 else none)
 else some (Sum.inr (Sum.inl ([], r39.2)))))
def haymowref40_Right_L1 (h : AH O) : List AV × AH O → Option ((List AV × AH O) ⊕ ((List AV × AH O) ⊕ (AV × AH O))) := (fun r6 =>
 (AV.asI .i64 (r6.1.getD 0 .u)).bind fun n7 =>
 (AV.asI .i64 (r6.1.getD 1 .u)).bind fun n8 =>
 ldS r6.2 (.n h.next) 1 fun l10 =>
 (bif (decide (n8 < (l10.2 : Int))) then
 ldS r6.2 (.n h.next) 1 fun l12 =>
 (bif ((decide ((0 : Int) ≤ n8)) && (decide (n8 < (l12.2 : Int)))) then
 (SA.ref l12.1).bind fun q13 =>
 ldI r6.2 q13.1 (q13.2 + (n8.toNat * 1)) fun n15 =>
 ((bif ((decide (n15 < 1)) == false) then
 ldS r6.2 (.n h.next) 1 fun l17 =>
 (bif ((decide ((0 : Int) ≤ n8)) && (decide (n8 < (l17.2 : Int)))) then
 (SA.ref l17.1).bind fun q18 =>
 ldI r6.2 q18.1 (q18.2 + (n8.toNat * 1)) fun n20 =>
 ldS r6.2 (.n h.next) 0 fun l22 =>
 some ([(.b (decide (n20 > (l22.2 : Int))))], r6.2)
 else none)
 else some ([(.b true)], r6.2)) : Option (List AV × AH O)).bind fun r23 =>
 (AV.asB (r23.1.getD 0 .u)).bind fun b24 =>
 ((bif (b24 == false) then
 ldS r23.2 (.n h.next) 1 fun l26 =>
 (bif ((decide ((0 : Int) ≤ n8)) && (decide (n8 < (l26.2 : Int)))) then
 (SA.ref l26.1).bind fun q27 =>
 ldI r23.2 q27.1 (q27.2 + (n8.toNat * 1)) fun n29 =>
 some ([(.b (decide (n29 > (IntKind.i64.wrap (n7 + 1)))))], r23.2)
 else none)
 else some ([(.b true)], r23.2)) : Option (List AV × AH O)).bind fun r30 =>
 (AV.asB (r30.1.getD 0 .u)).bind fun b31 =>
 (bif b31 then
 ((some ((.b false), r30.2) : Option (AV × AH O)).map fun r => Sum.inr (Sum.inr r))
 else ldS r30.2 (.n h.next) 1 fun l33 =>
 (bif ((decide ((0 : Int) ≤ n8)) && (decide (n8 < (l33.2 : Int)))) then
 (SA.ref l33.1).bind fun q34 =>
 ldI r30.2 q34.1 (q34.2 + (n8.toNat * 1)) fun n36 =>
 some (Sum.inl ([(.i .i64 (if n36 > n7 then n36 else n7)), (.i .i64 (IntKind.i64.wrap (n8 + 1)))], r30.2))
 else none))
 else none)
 else some (Sum.inr (Sum.inl ([(.i .i64 n7)], r6.2)))))
def haymowref40_Right_c (k20 : Sm O) : Sm O := fun xs h =>
 bif Nat.beq xs.length 1 then
 (AV.asAgg 3 (xs.getD 0 .u)).bind fun c0 =>
 gtS c0 0 fun l1 =>
 gtS c0 1 fun l2 =>
 gtS c0 2 fun l3 =>
 let h4 := h.bump 1
 let h5 := h4.put h.next (.cells true 30 [(.sl l1.1 l1.2), (.sl l2.1 l2.2), (.sl l3.1 l3.2)])
 bindS (S := List AV × AH O) (R := (AV × AH O)) (loopF (S := List AV × AH O) (T := (List AV × AH O) ⊕ (AV × AH O)) (haymowref40_Right_L1 h) ([(.i .i64 0), (.i .i64 0)], h5)) fun r37 =>
 (AV.asI .i64 (r37.1.getD 0 .u)).bind fun n38 =>
 bindS (S := List AV × AH O) (R := (AV × AH O)) (loopF (S := List AV × AH O) (T := (List AV × AH O) ⊕ (AV × AH O)) (haymowref40_Right_L2 h k20) ([(.i .i64 n38), (.i .i64 0)], r37.2)) fun r123 =>
 bindS (S := List AV × AH O) (R := (AV × AH O)) (loopF (S := List AV × AH O) (T := (List AV × AH O) ⊕ (AV × AH O)) (haymowref40_Right_L4 h) ([(.i .i64 0)], r123.2)) fun r142 =>
 some ((.b true), r142.2)
 else none
def haymowref40_Right : Sm O := haymowref40_Right_c haymowref12_Check
theorem haymowref40_Right_ent : Entered Tryz.prog 8 := Tryz.call8
theorem haymowref40_Right_run (k20 : Sm O) : run (O := O) Tryz.prog [(20, k20)] Tryz.f8 (.n .z (.n .z (.n (.n .z (.n (.lp true 0 [(3, .one (.i .i64)), (4, .one (.i .i64))] [(3, .one (.i .i64))] (.n (.n .z .z) (.n (.n (.n (.n (.d [(6, 9, [(32, .one .b)]), (17, 8, [(42, .one .b)])] [0, 1, 2, 3, 4, 5, 6, 7, 8, 9, 10, 11, 12, 13, 14, 15, 16, 17, 18, 19, 20, 21, 22, 23, 24, 25, 26] [0, 1, 0, 7, 15, 31, 63, 127, 255, 127, 1023, 2047, 127, 4223, 12415, 32767, 65535, 131071, 262143, 524287, 262143, 2097151, 4194303, 262143, 8650751, 33554431, 67108863]) (.n .z .z)) .z) .z) .z))) .z)) (.n (.n .z (.n (.lp true 2 [(3, .one (.i .i64)), (5, .one (.i .i64))] [] (.n (.n .z .z) (.n (.n (.n .z (.n (.n (.g [(3, 4, [(70, .one .b)]), (9, 8, [(80, .one .b)]), (19, 8, [(90, .one .b)])]) (.n .z .z)) (.n .z (.n (.lp true 4 [(3, .one (.i .i64)), (7, .one (.i .i64))] [(3, .one (.i .i64))] (.n (.n .z .z) (.n (.n (.n (.n (.d [(6, 9, [(114, .one .b)]), (17, 8, [(124, .one .b)])] [0, 1, 2, 3, 4, 5, 6, 7, 8, 9, 10, 11, 12, 13, 14, 15, 16, 17, 18, 19, 20, 21, 22, 23, 24, 25, 26] [0, 1, 0, 7, 15, 31, 63, 127, 255, 127, 1023, 2047, 127, 4223, 12415, 32767, 65535, 131071, 262143, 524287, 262143, 2097151, 4194303, 262143, 8650751, 33554431, 67108863]) (.n .z .z)) .z) .z) .z))) .z)))) .z) .z))) .z)) (.n (.n .z (.n (.lp true 6 [(8, .one (.i .i64))] [] (.n (.n .z .z) (.n (.n (.n (.d [(6, 9, [(155, .one .b)])] [0, 1, 2, 3, 4, 5, 6, 7, 8, 9, 10, 11, 12, 13, 14, 15, 16] [0, 1, 0, 7, 15, 31, 63, 127, 255, 127, 1023, 2047, 127, 4223, 12415, 32767, 65535]) (.n .z .z)) .z) .z))) .z)) .z))))) = haymowref40_Right_c k20 := by kernel_rfl
theorem haymowref40_Right_sound : FSound RO Tryz.prog 8 haymowref40_Right := sdf (haymowref40_Right_run _) (gcons haymowref12_Check_ent haymowref12_Check_sound <| gnil) Tryz.func8 (by kernel_rfl)
def slices_Equal___int_int__L1 (l0 : SA × Nat) (l1 : SA × Nat) : List AV × AH O → Option ((List AV × AH O) ⊕ ((List AV × AH O) ⊕ (AV × AH O))) := (fun r2 =>
 (AV.asI .i64 (r2.1.getD 0 .u)).bind fun n3 =>
 (bif (decide (n3 < (l0.2 : Int))) then
 (bif ((decide ((0 : Int) ≤ n3)) && (decide (n3 < (l0.2 : Int)))) then
 (SA.ref l0.1).bind fun q4 =>
 ldI r2.2 q4.1 (q4.2 + (n3.toNat * 1)) fun n6 =>
 (bif ((decide ((0 : Int) ≤ n3)) && (decide (n3 < (l1.2 : Int)))) then
 (SA.ref l1.1).bind fun q7 =>
 ldI r2.2 q7.1 (q7.2 + (n3.toNat * 1)) fun n9 =>
 (bif ((n6 : Int) != n9) then
 ((some ((.b false), r2.2) : Option (AV × AH O)).map fun r => Sum.inr (Sum.inr r))
 else some (Sum.inl ([(.i .i64 (IntKind.i64.wrap (n3 + 1)))], r2.2)))
 else none)
 else none)
 else some (Sum.inr (Sum.inl ([], r2.2)))))
def slices_Equal___int_int__c : Sm O := fun xs h =>
 bif Nat.beq xs.length 2 then
 gtS xs 0 fun l0 =>
 gtS xs 1 fun l1 =>
 (bif (((l0.2 : Int) : Int) != (l1.2 : Int)) then
 some ((.b false), h)
 else bindS (S := List AV × AH O) (R := (AV × AH O)) (loopF (S := List AV × AH O) (T := (List AV × AH O) ⊕ (AV × AH O)) (slices_Equal___int_int__L1 l0 l1) ([(.i .i64 0)], h)) fun r10 =>
 some ((.b true), r10.2))
 else none
def slices_Equal___int_int_ : Sm O := slices_Equal___int_int__c
theorem slices_Equal___int_int__ent : Entered Tryz.prog 23 := Tryz.call23
theorem slices_Equal___int_int__run : run (O := O) Tryz.prog [] Tryz.f23 (.n .z (.n (.n .z (.n .z .z)) (.n (.n .z (.n (.lp true 0 [(13, .one (.i .i64))] [] (.n .z (.n .z (.n (.n (.n .z (.n (.d [] [0, 1, 2, 3, 4, 5, 6, 7, 8] [0, 0, 3, 7, 0, 0, 48, 112, 255]) (.n .z .z))) .z) .z)))) .z)) .z))) = slices_Equal___int_int__c  := by kernel_rfl
theorem slices_Equal___int_int__sound : FSound RO Tryz.prog 23 slices_Equal___int_int_ := sdf slices_Equal___int_int__run (gnil) Tryz.func23 (by kernel_rfl)
def slices_Equal___uint64_uint64__L1 (l0 : SA × Nat) (l1 : SA × Nat) : List AV × AH O → Option ((List AV × AH O) ⊕ ((List AV × AH O) ⊕ (AV × AH O))) := (fun r2 =>
 (AV.asI .i64 (r2.1.getD 0 .u)).bind fun n3 =>
 (bif (decide (n3 < (l0.2 : Int))) then
 (bif ((decide ((0 : Int) ≤ n3)) && (decide (n3 < (l0.2 : Int)))) then
 (SA.ref l0.1).bind fun q4 =>
 ldU r2.2 q4.1 (q4.2 + (n3.toNat * 1)) fun n6 =>
 (bif ((decide ((0 : Int) ≤ n3)) && (decide (n3 < (l1.2 : Int)))) then
 (SA.ref l1.1).bind fun q7 =>
 ldU r2.2 q7.1 (q7.2 + (n3.toNat * 1)) fun n9 =>
 (bif ((n6 : Int) != n9) then
 ((some ((.b false), r2.2) : Option (AV × AH O)).map fun r => Sum.inr (Sum.inr r))
 else some (Sum.inl ([(.i .i64 (IntKind.i64.wrap (n3 + 1)))], r2.2)))
 else none)
 else none)
 else some (Sum.inr (Sum.inl ([], r2.2)))))
def slices_Equal___uint64_uint64__c : Sm O := fun xs h =>
 bif Nat.beq xs.length 2 then
 gtS xs 0 fun l0 =>
 gtS xs 1 fun l1 =>
 (bif (((l0.2 : Int) : Int) != (l1.2 : Int)) then
 some ((.b false), h)
 else bindS (S := List AV × AH O) (R := (AV × AH O)) (loopF (S := List AV × AH O) (T := (List AV × AH O) ⊕ (AV × AH O)) (slices_Equal___uint64_uint64__L1 l0 l1) ([(.i .i64 0)], h)) fun r10 =>
 some ((.b true), r10.2))
 else none
def slices_Equal___uint64_uint64_ : Sm O := slices_Equal___uint64_uint64__c
theorem slices_Equal___uint64_uint64__ent : Entered Tryz.prog 46 := Tryz.call46
theorem slices_Equal___uint64_uint64__run : run (O := O) Tryz.prog [] Tryz.f46 (.n .z (.n (.n .z (.n .z .z)) (.n (.n .z (.n (.lp true 0 [(13, .one (.i .i64))] [] (.n .z (.n .z (.n (.n (.n .z (.n (.d [] [0, 1, 2, 3, 4, 5, 6, 7, 8] [0, 0, 3, 7, 0, 0, 48, 112, 255]) (.n .z .z))) .z) .z)))) .z)) .z))) = slices_Equal___uint64_uint64__c  := by kernel_rfl
theorem slices_Equal___uint64_uint64__sound : FSound RO Tryz.prog 46 slices_Equal___uint64_uint64_ := sdf slices_Equal___uint64_uint64__run (gnil) Tryz.func46 (by kernel_rfl)
def canon_Node__same_c (k23 k46 : Sm O) : Sm O := fun xs h =>
 bif Nat.beq xs.length 2 then
 (AV.asAgg 7 (xs.getD 0 .u)).bind fun c0 =>
 gtI c0 0 fun n1 =>
 gtI c0 1 fun n2 =>
 gtI c0 2 fun n3 =>
 gtI c0 3 fun n4 =>
 (AV.asB (c0.getD 4 .u)).bind fun b5 =>
 gtS c0 5 fun l6 =>
 gtS c0 6 fun l7 =>
 (AV.asAgg 7 (xs.getD 1 .u)).bind fun c8 =>
 gtI c8 0 fun n9 =>
 gtI c8 1 fun n10 =>
 gtI c8 2 fun n11 =>
 gtI c8 3 fun n12 =>
 (AV.asB (c8.getD 4 .u)).bind fun b13 =>
 gtS c8 5 fun l14 =>
 gtS c8 6 fun l15 =>
 let h16 := h.bump 2
 let h17 := h16.put h.next (.cells true 77 [(.i .i64 n1), (.i .i64 n2), (.i .i64 n3), (.i .i64 n4), (.b b5), (.sl l6.1 l6.2), (.sl l7.1 l7.2)])
 let h18 := h17.put (h.next + 1) (.cells true 77 [(.i .i64 n9), (.i .i64 n10), (.i .i64 n11), (.i .i64 n12), (.b b13), (.sl l14.1 l14.2), (.sl l15.1 l15.2)])
 ldI h18 (.n h.next) 0 fun n20 =>
 ldI h18 (.n h.next) 1 fun n22 =>
 ldI h18 (.n h.next) 2 fun n24 =>
 ldI h18 (.n h.next) 3 fun n26 =>
 (h18.ld (.n h.next) 4).bind fun w27 =>
 (AV.asB w27).bind fun b28 =>
 ldI h18 (.n (h.next + 1)) 0 fun n30 =>
 ldI h18 (.n (h.next + 1)) 1 fun n32 =>
 ldI h18 (.n (h.next + 1)) 2 fun n34 =>
 ldI h18 (.n (h.next + 1)) 3 fun n36 =>
 (h18.ld (.n (h.next + 1)) 4).bind fun w37 =>
 (AV.asB w37).bind fun b38 =>
 ((bif (((((n20 : Int) == n30) && (((n22 : Int) == n32) && true)) && (((n24 : Int) == n34) && (((n26 : Int) == n36) && ((b28 == b38) && true)))) == true) then
 ldS h18 (.n h.next) 5 fun l40 =>
 ldS h18 (.n (h.next + 1)) 5 fun l42 =>
 (k23 [(.sl l40.1 l40.2), (.sl l42.1 l42.2)] h18).bind fun r43 =>
 (AV.asB r43.1).bind fun b44 =>
 some ([(.b b44)], r43.2)
 else some ([(.b false)], h18)) : Option (List AV × AH O)).bind fun r45 =>
 (AV.asB (r45.1.getD 0 .u)).bind fun b46 =>
 ((bif (b46 == true) then
 ldS r45.2 (.n h.next) 6 fun l48 =>
 ldS r45.2 (.n (h.next + 1)) 6 fun l50 =>
 (k46 [(.sl l48.1 l48.2), (.sl l50.1 l50.2)] r45.2).bind fun r51 =>
 (AV.asB r51.1).bind fun b52 =>
 some ([(.b b52)], r51.2)
 else some ([(.b false)], r45.2)) : Option (List AV × AH O)).bind fun r53 =>
 (AV.asB (r53.1.getD 0 .u)).bind fun b54 =>
 some ((.b b54), r53.2)
 else none
def canon_Node__same : Sm O := canon_Node__same_c slices_Equal___int_int_ slices_Equal___uint64_uint64_
theorem canon_Node__same_ent : Entered Tryz.prog 22 := Tryz.call22
theorem canon_Node__same_run (k23 k46 : Sm O) : run (O := O) Tryz.prog [(23, k23), (46, k46)] Tryz.f22 (.n .z (.n (.g [(5, 5, [(16, .one .b)]), (12, 5, [(23, .one .b)])]) .z)) = canon_Node__same_c k23 k46 := by kernel_rfl
theorem canon_Node__same_sound : FSound RO Tryz.prog 22 canon_Node__same := sdf (canon_Node__same_run _ _) (gcons slices_Equal___int_int__ent slices_Equal___int_int__sound <| gcons slices_Equal___uint64_uint64__ent slices_Equal___uint64_uint64__sound <| gnil) Tryz.func22 (by kernel_rfl)
def slices_EqualFunc_canon_Node__L1 (l0 : SA × Nat) (l1 : SA × Nat) (k22 : Sm O) (f2 : Option (Fn × List AV × List AV)) : List AV × AH O → Option ((List AV × AH O) ⊕ ((List AV × AH O) ⊕ (AV × AH O))) := (fun r3 =>
 (AV.asI .i64 (r3.1.getD 0 .u)).bind fun n4 =>
 (bif (decide (n4 < (l0.2 : Int))) then
 let h5 := r3.2.bump 1
 (bif ((decide ((0 : Int) ≤ n4)) && (decide (n4 < (l0.2 : Int)))) then
 (SA.ref l0.1).bind fun q6 =>
 ldI h5 q6.1 (q6.2 + (n4.toNat * 7)) fun n8 =>
 ldI h5 q6.1 ((q6.2 + (n4.toNat * 7)) + 1) fun n10 =>
 ldI h5 q6.1 (((q6.2 + (n4.toNat * 7)) + 1) + 1) fun n12 =>
 ldI h5 q6.1 ((((q6.2 + (n4.toNat * 7)) + 1) + 1) + 1) fun n14 =>
 (h5.ld q6.1 (((((q6.2 + (n4.toNat * 7)) + 1) + 1) + 1) + 1)).bind fun w15 =>
 (AV.asB w15).bind fun b16 =>
 ldS h5 q6.1 ((((((q6.2 + (n4.toNat * 7)) + 1) + 1) + 1) + 1) + 1) fun l18 =>
 ldS h5 q6.1 (((((((q6.2 + (n4.toNat * 7)) + 1) + 1) + 1) + 1) + 1) + 1) fun l20 =>
 let h21 := h5.put r3.2.next (.cells true 77 [(.i .i64 0), (.i .i64 0), (.i .i64 0), (.i .i64 0), (.b false), (.sl .nil 0), (.sl .nil 0)])
 (h21.st (.n r3.2.next) 0 [(.i .i64 n8), (.i .i64 n10), (.i .i64 n12), (.i .i64 n14), (.b b16), (.sl l18.1 l18.2), (.sl l20.1 l20.2)]).bind fun h22 =>
 let h23 := h22.bump 1
 (bif ((decide ((0 : Int) ≤ n4)) && (decide (n4 < (l1.2 : Int)))) then
 (SA.ref l1.1).bind fun q24 =>
 ldI h23 q24.1 (q24.2 + (n4.toNat * 7)) fun n26 =>
 ldI h23 q24.1 ((q24.2 + (n4.toNat * 7)) + 1) fun n28 =>
 ldI h23 q24.1 (((q24.2 + (n4.toNat * 7)) + 1) + 1) fun n30 =>
 ldI h23 q24.1 ((((q24.2 + (n4.toNat * 7)) + 1) + 1) + 1) fun n32 =>
 (h23.ld q24.1 (((((q24.2 + (n4.toNat * 7)) + 1) + 1) + 1) + 1)).bind fun w33 =>
 (AV.asB w33).bind fun b34 =>
 ldS h23 q24.1 ((((((q24.2 + (n4.toNat * 7)) + 1) + 1) + 1) + 1) + 1) fun l36 =>
 ldS h23 q24.1 (((((((q24.2 + (n4.toNat * 7)) + 1) + 1) + 1) + 1) + 1) + 1) fun l38 =>
 let h39 := h23.put h22.next (.cells true 77 [(.i .i64 0), (.i .i64 0), (.i .i64 0), (.i .i64 0), (.b false), (.sl .nil 0), (.sl .nil 0)])
 (h39.st (.n h22.next) 0 [(.i .i64 n26), (.i .i64 n28), (.i .i64 n30), (.i .i64 n32), (.b b34), (.sl l36.1 l36.2), (.sl l38.1 l38.2)]).bind fun h40 =>
 ldI h40 (.n r3.2.next) 0 fun n42 =>
 ldI h40 (.n r3.2.next) 1 fun n44 =>
 ldI h40 (.n r3.2.next) 2 fun n46 =>
 ldI h40 (.n r3.2.next) 3 fun n48 =>
 (h40.ld (.n r3.2.next) 4).bind fun w49 =>
 (AV.asB w49).bind fun b50 =>
 ldS h40 (.n r3.2.next) 5 fun l52 =>
 ldS h40 (.n r3.2.next) 6 fun l54 =>
 ldI h40 (.n h22.next) 0 fun n56 =>
 ldI h40 (.n h22.next) 1 fun n58 =>
 ldI h40 (.n h22.next) 2 fun n60 =>
 ldI h40 (.n h22.next) 3 fun n62 =>
 (h40.ld (.n h22.next) 4).bind fun w63 =>
 (AV.asB w63).bind fun b64 =>
 ldS h40 (.n h22.next) 5 fun l66 =>
 ldS h40 (.n h22.next) 6 fun l68 =>
 (callV [(22, k22)] f2 [(.agg [(.i .i64 n42), (.i .i64 n44), (.i .i64 n46), (.i .i64 n48), (.b b50), (.sl l52.1 l52.2), (.sl l54.1 l54.2)]), (.agg [(.i .i64 n56), (.i .i64 n58), (.i .i64 n60), (.i .i64 n62), (.b b64), (.sl l66.1 l66.2), (.sl l68.1 l68.2)])] h40).bind fun r69 =>
 (AV.asB r69.1).bind fun b70 =>
 (bif (!b70) then
 ((some ((.b false), r69.2) : Option (AV × AH O)).map fun r => Sum.inr (Sum.inr r))
 else some (Sum.inl ([(.i .i64 (IntKind.i64.wrap (n4 + 1)))], r69.2)))
 else none)
 else none)
 else some (Sum.inr (Sum.inl ([], r3.2)))))
def slices_EqualFunc_canon_Node__c (k22 : Sm O) : Sm O := fun xs h =>
 bif Nat.beq xs.length 3 then
 gtS xs 0 fun l0 =>
 gtS xs 1 fun l1 =>
 (AV.asF (xs.getD 2 .u)).bind fun f2 =>
 (bif (((l0.2 : Int) : Int) != (l1.2 : Int)) then
 some ((.b false), h)
 else bindS (S := List AV × AH O) (R := (AV × AH O)) (loopF (S := List AV × AH O) (T := (List AV × AH O) ⊕ (AV × AH O)) (slices_EqualFunc_canon_Node__L1 l0 l1 k22 f2) ([(.i .i64 0)], h)) fun r71 =>
 some ((.b true), r71.2))
 else none
def slices_EqualFunc_canon_Node_ : Sm O := slices_EqualFunc_canon_Node__c canon_Node__same
theorem slices_EqualFunc_canon_Node__ent : Entered Tryz.prog 21 := Tryz.call21
theorem slices_EqualFunc_canon_Node__run (k22 : Sm O) : run (O := O) Tryz.prog [(22, k22)] Tryz.f21 (.n .z (.n (.n .z (.n .z .z)) (.n (.n .z (.n (.lp true 0 [(17, .one (.i .i64))] [] (.n .z (.n .z (.n (.n (.n .z (.n .z (.n .z (.n .z .z)))) .z) .z)))) .z)) .z))) = slices_EqualFunc_canon_Node__c k22 := by kernel_rfl
theorem slices_EqualFunc_canon_Node__sound : FSound RO Tryz.prog 21 slices_EqualFunc_canon_Node_ := sdf (slices_EqualFunc_canon_Node__run _) (gcons canon_Node__same_ent canon_Node__same_sound <| gnil) Tryz.func21 (by kernel_rfl)
def canon_Same_c (k21 k22 k23 : Sm O) : Sm O := fun xs h =>
 bif Nat.beq xs.length 2 then
 (AV.asAgg 3 (xs.getD 0 .u)).bind fun c0 =>
 gtS c0 0 fun l1 =>
 gtS c0 1 fun l2 =>
 gtS c0 2 fun l3 =>
 (AV.asAgg 3 (xs.getD 1 .u)).bind fun c4 =>
 gtS c4 0 fun l5 =>
 gtS c4 1 fun l6 =>
 gtS c4 2 fun l7 =>
 let h8 := h.bump 2
 let h9 := h8.put h.next (.cells true 25 [(.sl l1.1 l1.2), (.sl l2.1 l2.2), (.sl l3.1 l3.2)])
 let h10 := h9.put (h.next + 1) (.cells true 25 [(.sl l5.1 l5.2), (.sl l6.1 l6.2), (.sl l7.1 l7.2)])
 ldS h10 (.n h.next) 0 fun l12 =>
 ldS h10 (.n (h.next + 1)) 0 fun l14 =>
 (k21 [(.sl l12.1 l12.2), (.sl l14.1 l14.2), (.fn (some (.func 22, [], [])))] h10).bind fun r15 =>
 (AV.asB r15.1).bind fun b16 =>
 ((bif (b16 == true) then
 ldS r15.2 (.n h.next) 1 fun l18 =>
 ldS r15.2 (.n (h.next + 1)) 1 fun l20 =>
 (k23 [(.sl l18.1 l18.2), (.sl l20.1 l20.2)] r15.2).bind fun r21 =>
 (AV.asB r21.1).bind fun b22 =>
 some ([(.b b22)], r21.2)
 else some ([(.b false)], r15.2)) : Option (List AV × AH O)).bind fun r23 =>
 (AV.asB (r23.1.getD 0 .u)).bind fun b24 =>
 ((bif (b24 == true) then
 ldS r23.2 (.n h.next) 2 fun l26 =>
 ldS r23.2 (.n (h.next + 1)) 2 fun l28 =>
 (k23 [(.sl l26.1 l26.2), (.sl l28.1 l28.2)] r23.2).bind fun r29 =>
 (AV.asB r29.1).bind fun b30 =>
 some ([(.b b30)], r29.2)
 else some ([(.b false)], r23.2)) : Option (List AV × AH O)).bind fun r31 =>
 (AV.asB (r31.1.getD 0 .u)).bind fun b32 =>
 some ((.b b32), r31.2)
 else none
def canon_Same : Sm O := canon_Same_c slices_EqualFunc_canon_Node_ canon_Node__same slices_Equal___int_int_
theorem canon_Same_ent : Entered Tryz.prog 9 := Tryz.call9
theorem canon_Same_run (k21 k22 k23 : Sm O) : run (O := O) Tryz.prog [(21, k21), (22, k22), (23, k23)] Tryz.f9 (.n .z (.n (.g [(5, 5, [(16, .one .b)]), (12, 5, [(23, .one .b)])]) .z)) = canon_Same_c k21 k22 k23 := by kernel_rfl
theorem canon_Same_sound : FSound RO Tryz.prog 9 canon_Same := sdf (canon_Same_run _ _ _) (gcons slices_EqualFunc_canon_Node__ent slices_EqualFunc_canon_Node__sound <| gcons canon_Node__same_ent canon_Node__same_sound <| gcons slices_Equal___int_int__ent slices_Equal___int_int__sound <| gnil) Tryz.func9 (by kernel_rfl)
def haymowref02_Same_L1 (l0 : SA × Nat) (l1 : SA × Nat) : List AV × AH O → Option ((List AV × AH O) ⊕ ((List AV × AH O) ⊕ (AV × AH O))) := (fun r2 =>
 (AV.asI .i64 (r2.1.getD 0 .u)).bind fun n3 =>
 (bif (decide (n3 < (l0.2 : Int))) then
 (bif ((decide ((0 : Int) ≤ n3)) && (decide (n3 < (l0.2 : Int)))) then
 (SA.ref l0.1).bind fun q4 =>
 ldI r2.2 q4.1 (q4.2 + (n3.toNat * 1)) fun n6 =>
 (bif ((decide ((0 : Int) ≤ n3)) && (decide (n3 < (l1.2 : Int)))) then
 (SA.ref l1.1).bind fun q7 =>
 ldI r2.2 q7.1 (q7.2 + (n3.toNat * 1)) fun n9 =>
 (bif ((n6 : Int) != n9) then
 ((some ((.b false), r2.2) : Option (AV × AH O)).map fun r => Sum.inr (Sum.inr r))
 else some (Sum.inl ([(.i .i64 (IntKind.i64.wrap (n3 + 1)))], r2.2)))
 else none)
 else none)
 else some (Sum.inr (Sum.inl ([], r2.2)))))
def haymowref02_Same_c : Sm O := fun xs h =>
 bif Nat.beq xs.length 2 then
 gtS xs 0 fun l0 =>
 gtS xs 1 fun l1 =>
 (bif (((l0.2 : Int) : Int) != (l1.2 : Int)) then
 some ((.b false), h)
 else bindS (S := List AV × AH O) (R := (AV × AH O)) (loopF (S := List AV × AH O) (T := (List AV × AH O) ⊕ (AV × AH O)) (haymowref02_Same_L1 l0 l1) ([(.i .i64 0)], h)) fun r10 =>
 some ((.b true), r10.2))
 else none
def haymowref02_Same : Sm O := haymowref02_Same_c
theorem haymowref02_Same_ent : Entered Tryz.prog 24 := Tryz.call24
theorem haymowref02_Same_run : run (O := O) Tryz.prog [] Tryz.f24 (.n .z (.n (.n .z (.n .z .z)) (.n (.n .z (.n (.lp true 0 [(5, .one (.i .i64))] [] (.n (.n .z .z) (.n (.n (.n (.d [] [0, 1, 2, 3, 4, 5, 6, 7, 8] [0, 0, 3, 7, 0, 0, 48, 112, 255]) (.n .z .z)) .z) .z))) .z)) .z))) = haymowref02_Same_c  := by kernel_rfl
theorem haymowref02_Same_sound : FSound RO Tryz.prog 24 haymowref02_Same := sdf haymowref02_Same_run (gnil) Tryz.func24 (by kernel_rfl)
def haymowref05_Same_L1 (l0 : SA × Nat) (l1 : SA × Nat) : List AV × AH O → Option ((List AV × AH O) ⊕ ((List AV × AH O) ⊕ (AV × AH O))) := (fun r2 =>
 (AV.asI .i64 (r2.1.getD 0 .u)).bind fun n3 =>
 (bif (decide (n3 < (l0.2 : Int))) then
 (bif ((decide ((0 : Int) ≤ n3)) && (decide (n3 < (l0.2 : Int)))) then
 (SA.ref l0.1).bind fun q4 =>
 ldU r2.2 q4.1 (q4.2 + (n3.toNat * 1)) fun n6 =>
 (bif ((decide ((0 : Int) ≤ n3)) && (decide (n3 < (l1.2 : Int)))) then
 (SA.ref l1.1).bind fun q7 =>
 ldU r2.2 q7.1 (q7.2 + (n3.toNat * 1)) fun n9 =>
 (bif ((n6 : Int) != n9) then
 ((some ((.b false), r2.2) : Option (AV × AH O)).map fun r => Sum.inr (Sum.inr r))
 else some (Sum.inl ([(.i .i64 (IntKind.i64.wrap (n3 + 1)))], r2.2)))
 else none)
 else none)
 else some (Sum.inr (Sum.inl ([], r2.2)))))
def haymowref05_Same_c : Sm O := fun xs h =>
 bif Nat.beq xs.length 2 then
 gtS xs 0 fun l0 =>
 gtS xs 1 fun l1 =>
 (bif (((l0.2 : Int) : Int) != (l1.2 : Int)) then
 some ((.b false), h)
 else bindS (S := List AV × AH O) (R := (AV × AH O)) (loopF (S := List AV × AH O) (T := (List AV × AH O) ⊕ (AV × AH O)) (haymowref05_Same_L1 l0 l1) ([(.i .i64 0)], h)) fun r10 =>
 some ((.b true), r10.2))
 else none
def haymowref05_Same : Sm O := haymowref05_Same_c
theorem haymowref05_Same_ent : Entered Tryz.prog 25 := Tryz.call25
theorem haymowref05_Same_run : run (O := O) Tryz.prog [] Tryz.f25 (.n .z (.n (.n .z (.n .z .z)) (.n (.n .z (.n (.lp true 0 [(5, .one (.i .i64))] [] (.n (.n .z .z) (.n (.n (.n (.d [] [0, 1, 2, 3, 4, 5, 6, 7, 8] [0, 0, 3, 7, 0, 0, 48, 112, 255]) (.n .z .z)) .z) .z))) .z)) .z))) = haymowref05_Same_c  := by kernel_rfl
theorem haymowref05_Same_sound : FSound RO Tryz.prog 25 haymowref05_Same := sdf haymowref05_Same_run (gnil) Tryz.func25 (by kernel_rfl)
def law40_Is_L1 (h : AH O) (k24 : Sm O) (k25 : Sm O) : List AV × AH O → Option ((List AV × AH O) ⊕ ((List AV × AH O) ⊕ (AV × AH O))) := (fun r31 =>
 (AV.asI .i64 (r31.1.getD 0 .u)).bind fun n32 =>
 ldS r31.2 (.n (h.next + 1)) 0 fun l34 =>
 (bif (decide (n32 < (l34.2 : Int))) then
 ldS r31.2 (.n h.next) 0 fun l36 =>
 (bif ((decide ((0 : Int) ≤ n32)) && (decide (n32 < (l36.2 : Int)))) then
 (SA.ref l36.1).bind fun q37 =>
 ldI r31.2 q37.1 (q37.2 + (n32.toNat * 7)) fun n39 =>
 ldI r31.2 q37.1 ((q37.2 + (n32.toNat * 7)) + 1) fun n41 =>
 ldI r31.2 q37.1 (((q37.2 + (n32.toNat * 7)) + 1) + 1) fun n43 =>
 ldI r31.2 q37.1 ((((q37.2 + (n32.toNat * 7)) + 1) + 1) + 1) fun n45 =>
 (r31.2.ld q37.1 (((((q37.2 + (n32.toNat * 7)) + 1) + 1) + 1) + 1)).bind fun w46 =>
 (AV.asB w46).bind fun b47 =>
 ldS r31.2 (.n (h.next + 1)) 0 fun l49 =>
 (bif ((decide ((0 : Int) ≤ n32)) && (decide (n32 < (l49.2 : Int)))) then
 (SA.ref l49.1).bind fun q50 =>
 ldI r31.2 q50.1 (q50.2 + (n32.toNat * 7)) fun n52 =>
 ldI r31.2 q50.1 ((q50.2 + (n32.toNat * 7)) + 1) fun n54 =>
 ldI r31.2 q50.1 (((q50.2 + (n32.toNat * 7)) + 1) + 1) fun n56 =>
 ldI r31.2 q50.1 ((((q50.2 + (n32.toNat * 7)) + 1) + 1) + 1) fun n58 =>
 (r31.2.ld q50.1 (((((q50.2 + (n32.toNat * 7)) + 1) + 1) + 1) + 1)).bind fun w59 =>
 (AV.asB w59).bind fun b60 =>
 ((bif ((!((((n39 : Int) == n52) && (((n41 : Int) == n54) && true)) && (((n43 : Int) == n56) && (((n45 : Int) == n58) && ((b47 == b60) && true))))) == false) then
 ldS r31.2 (.n h.next) 0 fun l62 =>
 (bif ((decide ((0 : Int) ≤ n32)) && (decide (n32 < (l62.2 : Int)))) then
 (SA.ref l62.1).bind fun q63 =>
 ldS r31.2 q63.1 ((q63.2 + (n32.toNat * 7)) + 5) fun l65 =>
 ldS r31.2 (.n (h.next + 1)) 0 fun l67 =>
 (bif ((decide ((0 : Int) ≤ n32)) && (decide (n32 < (l67.2 : Int)))) then
 (SA.ref l67.1).bind fun q68 =>
 ldS r31.2 q68.1 ((q68.2 + (n32.toNat * 7)) + 5) fun l70 =>
 (k24 [(.sl l65.1 l65.2), (.sl l70.1 l70.2)] r31.2).bind fun r71 =>
 (AV.asB r71.1).bind fun b72 =>
 some ([(.b (!b72))], r71.2)
 else none)
 else none)
 else some ([(.b true)], r31.2)) : Option (List AV × AH O)).bind fun r73 =>
 (AV.asB (r73.1.getD 0 .u)).bind fun b74 =>
 ((bif (b74 == false) then
 ldS r73.2 (.n h.next) 0 fun l76 =>
 (bif ((decide ((0 : Int) ≤ n32)) && (decide (n32 < (l76.2 : Int)))) then
 (SA.ref l76.1).bind fun q77 =>
 ldS r73.2 q77.1 ((q77.2 + (n32.toNat * 7)) + 6) fun l79 =>
 ldS r73.2 (.n (h.next + 1)) 0 fun l81 =>
 (bif ((decide ((0 : Int) ≤ n32)) && (decide (n32 < (l81.2 : Int)))) then
 (SA.ref l81.1).bind fun q82 =>
 ldS r73.2 q82.1 ((q82.2 + (n32.toNat * 7)) + 6) fun l84 =>
 (k25 [(.sl l79.1 l79.2), (.sl l84.1 l84.2)] r73.2).bind fun r85 =>
 (AV.asB r85.1).bind fun b86 =>
 some ([(.b (!b86))], r85.2)
 else none)
 else none)
 else some ([(.b true)], r73.2)) : Option (List AV × AH O)).bind fun r87 =>
 (AV.asB (r87.1.getD 0 .u)).bind fun b88 =>
 (bif b88 then
 ((some ((.b false), r87.2) : Option (AV × AH O)).map fun r => Sum.inr (Sum.inr r))
 else some (Sum.inl ([(.i .i64 (IntKind.i64.wrap (n32 + 1)))], r87.2)))
 else none)
 else none)
 else some (Sum.inr (Sum.inl ([], r31.2)))))
def law40_Is_c (k24 k25 : Sm O) : Sm O := fun xs h =>
 bif Nat.beq xs.length 2 then
 (AV.asAgg 3 (xs.getD 0 .u)).bind fun c0 =>
 gtS c0 0 fun l1 =>
 gtS c0 1 fun l2 =>
 gtS c0 2 fun l3 =>
 (AV.asAgg 3 (xs.getD 1 .u)).bind fun c4 =>
 gtS c4 0 fun l5 =>
 gtS c4 1 fun l6 =>
 gtS c4 2 fun l7 =>
 let h8 := h.bump 2
 let h9 := h8.put h.next (.cells true 25 [(.sl l1.1 l1.2), (.sl l2.1 l2.2), (.sl l3.1 l3.2)])
 let h10 := h9.put (h.next + 1) (.cells true 30 [(.sl l5.1 l5.2), (.sl l6.1 l6.2), (.sl l7.1 l7.2)])
 ldS h10 (.n h.next) 0 fun l12 =>
 ldS h10 (.n (h.next + 1)) 0 fun l14 =>
 ((bif ((((l12.2 : Int) : Int) != (l14.2 : Int)) == false) then
 ldS h10 (.n h.next) 1 fun l16 =>
 ldS h10 (.n (h.next + 1)) 1 fun l18 =>
 (k24 [(.sl l16.1 l16.2), (.sl l18.1 l18.2)] h10).bind fun r19 =>
 (AV.asB r19.1).bind fun b20 =>
 some ([(.b (!b20))], r19.2)
 else some ([(.b true)], h10)) : Option (List AV × AH O)).bind fun r21 =>
 (AV.asB (r21.1.getD 0 .u)).bind fun b22 =>
 ((bif (b22 == false) then
 ldS r21.2 (.n h.next) 2 fun l24 =>
 ldS r21.2 (.n (h.next + 1)) 2 fun l26 =>
 (k24 [(.sl l24.1 l24.2), (.sl l26.1 l26.2)] r21.2).bind fun r27 =>
 (AV.asB r27.1).bind fun b28 =>
 some ([(.b (!b28))], r27.2)
 else some ([(.b true)], r21.2)) : Option (List AV × AH O)).bind fun r29 =>
 (AV.asB (r29.1.getD 0 .u)).bind fun b30 =>
 (bif b30 then
 some ((.b false), r29.2)
 else bindS (S := List AV × AH O) (R := (AV × AH O)) (loopF (S := List AV × AH O) (T := (List AV × AH O) ⊕ (AV × AH O)) (law40_Is_L1 h k24 k25) ([(.i .i64 0)], r29.2)) fun r89 =>
 some ((.b true), r89.2))
 else none
def law40_Is : Sm O := law40_Is_c haymowref02_Same haymowref05_Same
theorem law40_Is_ent : Entered Tryz.prog 10 := Tryz.call10
theorem law40_Is_run (k24 k25 : Sm O) : run (O := O) Tryz.prog [(24, k24), (25, k25)] Tryz.f10 (.n .z (.n (.n (.g [(7, 6, [(20, .one .b)]), (15, 6, [(28, .one .b)])]) (.n .z .z)) (.n (.n .z (.n (.lp true 0 [(5, .one (.i .i64))] [] (.n (.n .z .z) (.n (.n (.n (.d [(13, 14, [(64, .one .b)]), (29, 14, [(80, .one .b)])] [0, 1, 2, 3, 4, 5, 6, 7, 8, 9, 10, 11, 12, 13, 14, 15, 16, 17, 18, 19, 20, 21, 22, 23, 24, 25, 26, 27, 28, 29, 30, 31, 32, 33, 34, 35, 36, 37, 38, 39, 40, 41, 42, 43, 44] [0, 1, 0, 7, 15, 31, 0, 64, 0, 448, 960, 1984, 4095, 8191, 16383, 32767, 16383, 131071, 262143, 524287, 16383, 1064959, 16383, 7356415, 15745023, 32522239, 67108863, 134217727, 268435455, 536870911, 1073741823, 2147483647, 1073741823, 8589934591, 17179869183, 34359738367, 1073741823, 69793218559, 1073741823, 482110078975, 1031865892863, 2131377520639, 4398046511103, 8796093022207, 17592186044415]) (.n .z .z)) .z) .z))) .z)) .z))) = law40_Is_c k24 k25 := by kernel_rfl
theorem law40_Is_sound : FSound RO Tryz.prog 10 law40_Is := sdf (law40_Is_run _ _) (gcons haymowref02_Same_ent haymowref02_Same_sound <| gcons haymowref05_Same_ent haymowref05_Same_sound <| gnil) Tryz.func10 (by kernel_rfl)
def slices_Clone___int_int__c : Sm O := fun xs h =>
 bif Nat.beq xs.length 1 then
 gtS xs 0 fun l0 =>
 (bif (SA.isNil l0.1) then
 some ((.sl .nil 0), h)
 else let h1 := h.bump 2
 let h2 := h1.put h.next (.cells true 3 [])
 (h2.rdSl l0.1 l0.2 1).bind fun new3 =>
 (bif (Nat.ble ((0 + l0.2) * 9) 35184372088832) then
 (h2.appSl (h.next + 1) 3 1 (.loc (.n h.next) 0 1) 0 l0.2 new3).bind fun r4 =>
 (AV.asSl r4.1).bind fun l5 =>
 some ((.sl l5.1 l5.2), r4.2)
 else none))
 else none
def slices_Clone___int_int_ : Sm O := frz (slices_Clone___int_int__c)
theorem slices_Clone___int_int__ent : Entered Tryz.prog 26 := Tryz.call26
theorem slices_Clone___int_int__run : run (O := O) Tryz.prog [] Tryz.f26 (.n .z (.n (.n .z (.n .z .z)) .z)) = slices_Clone___int_int__c  := by kernel_rfl
theorem slices_Clone___int_int__sound : FSound RO Tryz.prog 26 (slices_Clone___int_int_) :=
   have h : FSound RO Tryz.prog 26 (slices_Clone___int_int__c) := (slices_Clone___int_int__run) ▸ run_sound (gnil) mixed Tryz.func26 (by kernel_rfl) _
   h.frz
def slices_Clone___uint64_uint64__c : Sm O := fun xs h =>
 bif Nat.beq xs.length 1 then
 gtS xs 0 fun l0 =>
 (bif (SA.isNil l0.1) then
 some ((.sl .nil 0), h)
 else let h1 := h.bump 2
 let h2 := h1.put h.next (.cells true 90 [])
 (h2.rdSl l0.1 l0.2 1).bind fun new3 =>
 (bif (Nat.ble ((0 + l0.2) * 9) 35184372088832) then
 (h2.appSl (h.next + 1) 90 1 (.loc (.n h.next) 0 1) 0 l0.2 new3).bind fun r4 =>
 (AV.asSl r4.1).bind fun l5 =>
 some ((.sl l5.1 l5.2), r4.2)
 else none))
 else none
def slices_Clone___uint64_uint64_ : Sm O := frz (slices_Clone___uint64_uint64__c)
theorem slices_Clone___uint64_uint64__ent : Entered Tryz.prog 27 := Tryz.call27
theorem slices_Clone___uint64_uint64__run : run (O := O) Tryz.prog [] Tryz.f27 (.n .z (.n (.n .z (.n .z .z)) .z)) = slices_Clone___uint64_uint64__c  := by kernel_rfl
theorem slices_Clone___uint64_uint64__sound : FSound RO Tryz.prog 27 (slices_Clone___uint64_uint64_) :=
   have h : FSound RO Tryz.prog 27 (slices_Clone___uint64_uint64__c) := (slices_Clone___uint64_uint64__run) ▸ run_sound (gnil) mixed Tryz.func27 (by kernel_rfl) _
   h.frz
def canon_Young_L2 (l65 : SA × Nat) (h6 : AH O) : List AV × AH O → Option ((List AV × AH O) ⊕ (List AV × AH O)) := (fun r66 =>
 (AV.asI .i64 (r66.1.getD 0 .u)).bind fun n67 =>
 (bif (decide (n67 < (l65.2 : Int))) then
 (bif ((decide ((0 : Int) ≤ n67)) && (decide (n67 < (l65.2 : Int)))) then
 (SA.ref l65.1).bind fun q68 =>
 ldI r66.2 q68.1 (q68.2 + (n67.toNat * 1)) fun n70 =>
 ((bif ((n70 : Int) != 0) then
 let h71 := r66.2.bump 2
 ldS h71 (.n h6.next) 2 fun l73 =>
 let h74 := h71.put r66.2.next (.cells true 3 [(.i .i64 n70)])
 (h74.rdSl (.loc (.n r66.2.next) 0 1) 1 1).bind fun new75 =>
 (bif (Nat.ble ((l73.2 + 1) * 9) 35184372088832) then
 (h74.appSl (r66.2.next + 1) 3 1 l73.1 l73.2 1 new75).bind fun r76 =>
 (AV.asSl r76.1).bind fun l77 =>
 (r76.2.st (.n h6.next) 2 [(.sl l77.1 l77.2)]).bind fun h78 =>
 some ([], h78)
 else none)
 else some ([], r66.2)) : Option (List AV × AH O)).bind fun r79 =>
 some (Sum.inl ([(.i .i64 (IntKind.i64.wrap (n67 + 1)))], r79.2))
 else none)
 else some (Sum.inr ([], r66.2))))
def canon_Young_L1 (l15 : SA × Nat) (h6 : AH O) (k26 : Sm O) (k27 : Sm O) : List AV × AH O → Option ((List AV × AH O) ⊕ (List AV × AH O)) := (fun r16 =>
 (AV.asI .i64 (r16.1.getD 0 .u)).bind fun n17 =>
 (bif (decide (n17 < (l15.2 : Int))) then
 let h18 := r16.2.bump 1
 (bif ((decide ((0 : Int) ≤ n17)) && (decide (n17 < (l15.2 : Int)))) then
 (SA.ref l15.1).bind fun q19 =>
 ldI h18 q19.1 (q19.2 + (n17.toNat * 7)) fun n21 =>
 ldI h18 q19.1 ((q19.2 + (n17.toNat * 7)) + 1) fun n23 =>
 ldI h18 q19.1 (((q19.2 + (n17.toNat * 7)) + 1) + 1) fun n25 =>
 ldI h18 q19.1 ((((q19.2 + (n17.toNat * 7)) + 1) + 1) + 1) fun n27 =>
 (h18.ld q19.1 (((((q19.2 + (n17.toNat * 7)) + 1) + 1) + 1) + 1)).bind fun w28 =>
 (AV.asB w28).bind fun b29 =>
 ldS h18 q19.1 ((((((q19.2 + (n17.toNat * 7)) + 1) + 1) + 1) + 1) + 1) fun l31 =>
 ldS h18 q19.1 (((((((q19.2 + (n17.toNat * 7)) + 1) + 1) + 1) + 1) + 1) + 1) fun l33 =>
 let h34 := h18.put r16.2.next (.cells true 77 [(.i .i64 0), (.i .i64 0), (.i .i64 0), (.i .i64 0), (.b false), (.sl .nil 0), (.sl .nil 0)])
 (h34.st (.n r16.2.next) 0 [(.i .i64 n21), (.i .i64 n23), (.i .i64 n25), (.i .i64 n27), (.b b29), (.sl l31.1 l31.2), (.sl l33.1 l33.2)]).bind fun h35 =>
 (h35.st (.n r16.2.next) 3 [(.i .i64 0)]).bind fun h36 =>
 let h37 := h36.bump 2
 ldS h37 (.n h6.next) 0 fun l39 =>
 ldI h37 (.n r16.2.next) 0 fun n41 =>
 ldI h37 (.n r16.2.next) 1 fun n43 =>
 ldI h37 (.n r16.2.next) 2 fun n45 =>
 ldI h37 (.n r16.2.next) 3 fun n47 =>
 (h37.ld (.n r16.2.next) 4).bind fun w48 =>
 (AV.asB w48).bind fun b49 =>
 ldS h37 (.n r16.2.next) 5 fun l51 =>
 ldS h37 (.n r16.2.next) 6 fun l53 =>
 (k26 [(.sl l51.1 l51.2)] h37).bind fun r54 =>
 (AV.asSl r54.1).bind fun l55 =>
 (chkE (r54.2.ld (.n h6.next) 0) (some (.sl l39.1 l39.2))).bind fun _ =>
 (chkE (r54.2.ld (.n r16.2.next) 0) (some (.i .i64 n41))).bind fun _ =>
 (chkE (r54.2.ld (.n r16.2.next) 1) (some (.i .i64 n43))).bind fun _ =>
 (chkE (r54.2.ld (.n r16.2.next) 2) (some (.i .i64 n45))).bind fun _ =>
 (chkE (r54.2.ld (.n r16.2.next) 3) (some (.i .i64 n47))).bind fun _ =>
 (chkE (r54.2.ld (.n r16.2.next) 4) (some (.b b49))).bind fun _ =>
 (chkE (r54.2.ld (.n r16.2.next) 6) (some (.sl l53.1 l53.2))).bind fun _ =>
 (k27 [(.sl l53.1 l53.2)] r54.2).bind fun r56 =>
 (AV.asSl r56.1).bind fun l57 =>
 (chkE (r56.2.ld (.n h6.next) 0) (some (.sl l39.1 l39.2))).bind fun _ =>
 (chkE (r56.2.ld (.n r16.2.next) 0) (some (.i .i64 n41))).bind fun _ =>
 (chkE (r56.2.ld (.n r16.2.next) 1) (some (.i .i64 n43))).bind fun _ =>
 (chkE (r56.2.ld (.n r16.2.next) 2) (some (.i .i64 n45))).bind fun _ =>
 (chkE (r56.2.ld (.n r16.2.next) 3) (some (.i .i64 n47))).bind fun _ =>
 (chkE (r56.2.ld (.n r16.2.next) 4) (some (.b b49))).bind fun _ =>
 let h58 := r56.2.put h36.next (.cells true 77 [(.i .i64 n41), (.i .i64 n43), (.i .i64 n45), (.i .i64 n47), (.b b49), (.sl l55.1 l55.2), (.sl l57.1 l57.2)])
 (h58.rdSl (.loc (.n h36.next) 0 7) 1 7).bind fun new59 =>
 (bif (Nat.ble ((l39.2 + 1) * 89) 35184372088832) then
 (h58.appSl (h36.next + 1) 77 7 l39.1 l39.2 1 new59).bind fun r60 =>
 (AV.asSl r60.1).bind fun l61 =>
 (r60.2.st (.n h6.next) 0 [(.sl l61.1 l61.2)]).bind fun h62 =>
 some (Sum.inl ([(.i .i64 (IntKind.i64.wrap (n17 + 1)))], h62))
 else none)
 else none)
 else some (Sum.inr ([], r16.2))))
def canon_Young_c (k26 k27 : Sm O) : Sm O := fun xs h =>
 bif Nat.beq xs.length 1 then
 (AV.asAgg 3 (xs.getD 0 .u)).bind fun c0 =>
 gtS c0 0 fun l1 =>
 gtS c0 1 fun l2 =>
 gtS c0 2 fun l3 =>
 let h4 := h.bump 2
 let h5 := h4.put h.next (.cells true 25 [(.sl l1.1 l1.2), (.sl l2.1 l2.2), (.sl l3.1 l3.2)])
 let h6 := h5.put (h.next + 1) (.cells true 25 [(.sl .nil 0), (.sl .nil 0), (.sl .nil 0)])
 let h7 := h6.bump 1
 ldS h7 (.n h.next) 1 fun l9 =>
 (k26 [(.sl l9.1 l9.2)] h7).bind fun r10 =>
 (AV.asSl r10.1).bind fun l11 =>
 let h12 := r10.2.put h6.next (.cells true 25 [(.sl .nil 0), (.sl .nil 0), (.sl .nil 0)])
 (h12.st (.n h6.next) 0 [(.sl .nil 0), (.sl l11.1 l11.2), (.sl .nil 0)]).bind fun h13 =>
 ldS h13 (.n h.next) 0 fun l15 =>
 (loopF (S := List AV × AH O) (T := List AV × AH O) (canon_Young_L1 l15 h6 k26 k27) ([(.i .i64 0)], h13)).bind fun r63 =>
 ldS r63.2 (.n h.next) 2 fun l65 =>
 (loopF (S := List AV × AH O) (T := List AV × AH O) (canon_Young_L2 l65 h6) ([(.i .i64 0)], r63.2)).bind fun r80 =>
 ldS r80.2 (.n h6.next) 0 fun l82 =>
 ldS r80.2 (.n h6.next) 1 fun l84 =>
 ldS r80.2 (.n h6.next) 2 fun l86 =>
 (r80.2.st (.n (h.next + 1)) 0 [(.sl l82.1 l82.2), (.sl l84.1 l84.2), (.sl l86.1 l86.2)]).bind fun h87 =>
 ldS h87 (.n (h.next + 1)) 0 fun l89 =>
 ldS h87 (.n (h.next + 1)) 1 fun l91 =>
 ldS h87 (.n (h.next + 1)) 2 fun l93 =>
 some ((.agg [(.sl l89.1 l89.2), (.sl l91.1 l91.2), (.sl l93.1 l93.2)]), h87)
 else none
def canon_Young : Sm O := frz (canon_Young_c slices_Clone___int_int_ slices_Clone___uint64_uint64_)
theorem canon_Young_ent : Entered Tryz.prog 11 := Tryz.call11
theorem canon_Young_run (k26 k27 : Sm O) : run (O := O) Tryz.prog [(26, k26), (27, k27)] Tryz.f11 (.n .z (.n .z (.n (.n .z (.n (.lp false 0 [(15, .one (.i .i64))] [] (.n .z (.n .z (.n (.n (.n .z (.n .z (.d [] [0, 1, 2, 3, 4, 5, 7, 8, 6, 9, 10, 11, 12, 13, 14] [0, 1, 0, 4, 0, 16, 48, 0, 128, 496, 1020, 2044, 4095, 8191, 16383]))) .z) .z)))) .z)) (.n (.n .z (.n (.lp false 2 [(39, .one (.i .i64))] [] (.n .z (.n .z (.n (.n (.n .z (.n .z (.j false [] .z .z))) .z) .z)))) .z)) .z)))) = canon_Young_c k26 k27 := by kernel_rfl
theorem canon_Young_sound : FSound RO Tryz.prog 11 (canon_Young) :=
   have h : FSound RO Tryz.prog 11 (canon_Young_c slices_Clone___int_int_ slices_Clone___uint64_uint64_) := (canon_Young_run slices_Clone___int_int_ slices_Clone___uint64_uint64_) ▸ run_sound (gcons slices_Clone___int_int__ent (slices_Clone___int_int__sound) <| gcons slices_Clone___uint64_uint64__ent (slices_Clone___uint64_uint64__sound) <| gnil) mixed Tryz.func11 (by kernel_rfl) _
   h.frz
def haymowref40_Young_L2 (h : AH O) (h6 : AH O) : List AV × AH O → Option ((List AV × AH O) ⊕ (List AV × AH O)) := (fun r60 =>
 (AV.asI .i64 (r60.1.getD 0 .u)).bind fun n61 =>
 ldS r60.2 (.n h.next) 2 fun l63 =>
 (bif (decide (n61 < (l63.2 : Int))) then
 ldS r60.2 (.n h.next) 2 fun l65 =>
 (bif ((decide ((0 : Int) ≤ n61)) && (decide (n61 < (l65.2 : Int)))) then
 (SA.ref l65.1).bind fun q66 =>
 ldI r60.2 q66.1 (q66.2 + (n61.toNat * 1)) fun n68 =>
 ((bif ((n68 : Int) != 0) then
 let h69 := r60.2.bump 2
 ldS h69 (.n h6.next) 2 fun l71 =>
 ldS h69 (.n h.next) 2 fun l73 =>
 (bif ((decide ((0 : Int) ≤ n61)) && (decide (n61 < (l73.2 : Int)))) then
 (SA.ref l73.1).bind fun q74 =>
 ldI h69 q74.1 (q74.2 + (n61.toNat * 1)) fun n76 =>
 let h77 := h69.put r60.2.next (.cells true 3 [(.i .i64 n76)])
 (h77.rdSl (.loc (.n r60.2.next) 0 1) 1 1).bind fun new78 =>
 (bif (Nat.ble ((l71.2 + 1) * 9) 35184372088832) then
 (h77.appSl (r60.2.next + 1) 3 1 l71.1 l71.2 1 new78).bind fun r79 =>
 (AV.asSl r79.1).bind fun l80 =>
 (r79.2.st (.n h6.next) 2 [(.sl l80.1 l80.2)]).bind fun h81 =>
 some ([], h81)
 else none)
 else none)
 else some ([], r60.2)) : Option (List AV × AH O)).bind fun r82 =>
 some (Sum.inl ([(.i .i64 (IntKind.i64.wrap (n61 + 1)))], r82.2))
 else none)
 else some (Sum.inr ([], r60.2))))
def haymowref40_Young_L1 (h : AH O) (h6 : AH O) : List AV × AH O → Option ((List AV × AH O) ⊕ (List AV × AH O)) := (fun r12 =>
 (AV.asI .i64 (r12.1.getD 0 .u)).bind fun n13 =>
 ldS r12.2 (.n h.next) 0 fun l15 =>
 (bif (decide (n13 < (l15.2 : Int))) then
 let h16 := r12.2.bump 1
 ldS h16 (.n h.next) 0 fun l18 =>
 (bif ((decide ((0 : Int) ≤ n13)) && (decide (n13 < (l18.2 : Int)))) then
 (SA.ref l18.1).bind fun q19 =>
 ldI h16 q19.1 (q19.2 + (n13.toNat * 7)) fun n21 =>
 ldI h16 q19.1 ((q19.2 + (n13.toNat * 7)) + 1) fun n23 =>
 ldI h16 q19.1 (((q19.2 + (n13.toNat * 7)) + 1) + 1) fun n25 =>
 ldI h16 q19.1 ((((q19.2 + (n13.toNat * 7)) + 1) + 1) + 1) fun n27 =>
 (h16.ld q19.1 (((((q19.2 + (n13.toNat * 7)) + 1) + 1) + 1) + 1)).bind fun w28 =>
 (AV.asB w28).bind fun b29 =>
 ldS h16 q19.1 ((((((q19.2 + (n13.toNat * 7)) + 1) + 1) + 1) + 1) + 1) fun l31 =>
 ldS h16 q19.1 (((((((q19.2 + (n13.toNat * 7)) + 1) + 1) + 1) + 1) + 1) + 1) fun l33 =>
 let h34 := h16.put r12.2.next (.cells true 75 [(.i .i64 0), (.i .i64 0), (.i .i64 0), (.i .i64 0), (.b false), (.sl .nil 0), (.sl .nil 0)])
 (h34.st (.n r12.2.next) 0 [(.i .i64 n21), (.i .i64 n23), (.i .i64 n25), (.i .i64 n27), (.b b29), (.sl l31.1 l31.2), (.sl l33.1 l33.2)]).bind fun h35 =>
 (h35.st (.n r12.2.next) 3 [(.i .i64 0)]).bind fun h36 =>
 let h37 := h36.bump 2
 ldS h37 (.n h6.next) 0 fun l39 =>
 ldI h37 (.n r12.2.next) 0 fun n41 =>
 ldI h37 (.n r12.2.next) 1 fun n43 =>
 ldI h37 (.n r12.2.next) 2 fun n45 =>
 ldI h37 (.n r12.2.next) 3 fun n47 =>
 (h37.ld (.n r12.2.next) 4).bind fun w48 =>
 (AV.asB w48).bind fun b49 =>
 ldS h37 (.n r12.2.next) 5 fun l51 =>
 ldS h37 (.n r12.2.next) 6 fun l53 =>
 let h54 := h37.put h36.next (.cells true 75 [(.i .i64 n41), (.i .i64 n43), (.i .i64 n45), (.i .i64 n47), (.b b49), (.sl l51.1 l51.2), (.sl l53.1 l53.2)])
 (h54.rdSl (.loc (.n h36.next) 0 7) 1 7).bind fun new55 =>
 (bif (Nat.ble ((l39.2 + 1) * 89) 35184372088832) then
 (h54.appSl (h36.next + 1) 75 7 l39.1 l39.2 1 new55).bind fun r56 =>
 (AV.asSl r56.1).bind fun l57 =>
 (r56.2.st (.n h6.next) 0 [(.sl l57.1 l57.2)]).bind fun h58 =>
 some (Sum.inl ([(.i .i64 (IntKind.i64.wrap (n13 + 1)))], h58))
 else none)
 else none)
 else some (Sum.inr ([], r12.2))))
def haymowref40_Young_c : Sm O := fun xs h =>
 bif Nat.beq xs.length 1 then
 (AV.asAgg 3 (xs.getD 0 .u)).bind fun c0 =>
 gtS c0 0 fun l1 =>
 gtS c0 1 fun l2 =>
 gtS c0 2 fun l3 =>
 let h4 := h.bump 2
 let h5 := h4.put h.next (.cells true 30 [(.sl l1.1 l1.2), (.sl l2.1 l2.2), (.sl l3.1 l3.2)])
 let h6 := h5.put (h.next + 1) (.cells true 30 [(.sl .nil 0), (.sl .nil 0), (.sl .nil 0)])
 let h7 := h6.bump 1
 ldS h7 (.n h.next) 1 fun l9 =>
 let h10 := h7.put h6.next (.cells true 30 [(.sl .nil 0), (.sl .nil 0), (.sl .nil 0)])
 (h10.st (.n h6.next) 0 [(.sl .nil 0), (.sl l9.1 l9.2), (.sl .nil 0)]).bind fun h11 =>
 (loopF (S := List AV × AH O) (T := List AV × AH O) (haymowref40_Young_L1 h h6) ([(.i .i64 0)], h11)).bind fun r59 =>
 (loopF (S := List AV × AH O) (T := List AV × AH O) (haymowref40_Young_L2 h h6) ([(.i .i64 0)], r59.2)).bind fun r83 =>
 ldS r83.2 (.n h6.next) 0 fun l85 =>
 ldS r83.2 (.n h6.next) 1 fun l87 =>
 ldS r83.2 (.n h6.next) 2 fun l89 =>
 (r83.2.st (.n (h.next + 1)) 0 [(.sl l85.1 l85.2), (.sl l87.1 l87.2), (.sl l89.1 l89.2)]).bind fun h90 =>
 ldS h90 (.n (h.next + 1)) 0 fun l92 =>
 ldS h90 (.n (h.next + 1)) 1 fun l94 =>
 ldS h90 (.n (h.next + 1)) 2 fun l96 =>
 some ((.agg [(.sl l92.1 l92.2), (.sl l94.1 l94.2), (.sl l96.1 l96.2)]), h90)
 else none
def haymowref40_Young : Sm O := frz (haymowref40_Young_c)
theorem haymowref40_Young_ent : Entered Tryz.prog 12 := Tryz.call12
theorem haymowref40_Young_run : run (O := O) Tryz.prog [] Tryz.f12 (.n .z (.n .z (.n (.n .z (.n (.lp false 0 [(4, .one (.i .i64))] [] (.n (.n .z .z) (.n (.n (.n .z .z) .z) .z))) .z)) (.n (.n .z (.n (.lp false 2 [(6, .one (.i .i64))] [] (.n (.n .z .z) (.n (.n (.n .z (.j false [] (.d [] [0, 1, 2, 3, 4, 5, 6, 7, 8, 9, 10] [0, 1, 0, 4, 0, 28, 60, 124, 255, 511, 1023]) .z)) .z) .z))) .z)) .z)))) = haymowref40_Young_c  := by kernel_rfl
theorem haymowref40_Young_sound : FSound RO Tryz.prog 12 (haymowref40_Young) :=
   have h : FSound RO Tryz.prog 12 (haymowref40_Young_c) := (haymowref40_Young_run) ▸ run_sound (gnil) mixed Tryz.func12 (by kernel_rfl) _
   h.frz
def shape_Right_c (k19 : Sm O) : Sm O := fun xs h =>
 bif Nat.beq xs.length 1 then
 (AV.asAgg 2 (xs.getD 0 .u)).bind fun c0 =>
 gtI c0 0 fun n1 =>
 gtI c0 1 fun n2 =>
 let h3 := h.bump 1
 let h4 := h3.put h.next (.cells true 70 [(.i .i64 n1), (.i .i64 n2)])
 ldI h4 (.n h.next) 0 fun n6 =>
 ldI h4 (.n h.next) 1 fun n8 =>
 (k19 [(.agg [(.i .i64 n6), (.i .i64 n8), (.i .i64 0), (.i .i64 0), (.b false)])] h4).bind fun r9 =>
 (AV.asI .i64 r9.1).bind fun n10 =>
 some ((.b ((n10 : Int) == 0)), r9.2)
 else none
def shape_Right : Sm O := shape_Right_c header_Check
theorem shape_Right_ent : Entered Tryz.prog 72 := Tryz.call72
theorem shape_Right_run (k19 : Sm O) : run (O := O) Tryz.prog [(19, k19)] Tryz.f72 (.n .z .z) = shape_Right_c k19 := by kernel_rfl
theorem shape_Right_sound : FSound RO Tryz.prog 72 shape_Right := sdf (shape_Right_run _) (gcons header_Check_ent header_Check_sound <| gnil) Tryz.func72 (by kernel_rfl)
def header_Words_c : Sm O := fun xs h =>
 bif Nat.beq xs.length 1 then
 (AV.asAgg 5 (xs.getD 0 .u)).bind fun c0 =>
 gtI c0 0 fun n1 =>
 gtI c0 1 fun n2 =>
 gtI c0 2 fun n3 =>
 gtI c0 3 fun n4 =>
 (AV.asB (c0.getD 4 .u)).bind fun b5 =>
 let h6 := h.bump 1
 let h7 := h6.put h.next (.cells true 72 [(.i .i64 n1), (.i .i64 n2), (.i .i64 n3), (.i .i64 n4), (.b b5)])
 ldI h7 (.n h.next) 0 fun n9 =>
 ldI h7 (.n h.next) 1 fun n11 =>
 let v12 : Int := (IntKind.i64.wrap ((IntKind.i64.wrap (1 + n9)) + n11))
 some ((.i .i64 v12), h7)
 else none
def header_Words : Sm O := header_Words_c
theorem header_Words_ent : Entered Tryz.prog 73 := Tryz.call73
theorem header_Words_run : run (O := O) Tryz.prog [] Tryz.f73 (.n .z .z) = header_Words_c  := by kernel_rfl
theorem header_Words_sound : FSound RO Tryz.prog 73 header_Words := sdf header_Words_run (gnil) Tryz.func73 (by kernel_rfl)
def shape_Words_c (k72 k73 : Sm O) : Sm O := fun xs h =>
 bif Nat.beq xs.length 1 then
 (AV.asAgg 2 (xs.getD 0 .u)).bind fun c0 =>
 gtI c0 0 fun n1 =>
 gtI c0 1 fun n2 =>
 let h3 := h.bump 1
 let h4 := h3.put h.next (.cells true 70 [(.i .i64 n1), (.i .i64 n2)])
 ldI h4 (.n h.next) 0 fun n6 =>
 ldI h4 (.n h.next) 1 fun n8 =>
 (k72 [(.agg [(.i .i64 n6), (.i .i64 n8)])] h4).bind fun r9 =>
 (AV.asB r9.1).bind fun b10 =>
 (bif (!b10) then
 some ((.i .i64 0), r9.2)
 else ldI r9.2 (.n h.next) 0 fun n12 =>
 ldI r9.2 (.n h.next) 1 fun n14 =>
 (k73 [(.agg [(.i .i64 n12), (.i .i64 n14), (.i .i64 0), (.i .i64 0), (.b false)])] r9.2).bind fun r15 =>
 (AV.asI .i64 r15.1).bind fun n16 =>
 some ((.i .i64 n16), r15.2))
 else none
def shape_Words : Sm O := shape_Words_c shape_Right header_Words
theorem shape_Words_ent : Entered Tryz.prog 47 := Tryz.call47
theorem shape_Words_run (k72 k73 : Sm O) : run (O := O) Tryz.prog [(72, k72), (73, k73)] Tryz.f47 (.n .z (.n (.n .z (.n .z .z)) .z)) = shape_Words_c k72 k73 := by kernel_rfl
theorem shape_Words_sound : FSound RO Tryz.prog 47 shape_Words := sdf (shape_Words_run _ _) (gcons shape_Right_ent shape_Right_sound <| gcons header_Words_ent header_Words_sound <| gnil) Tryz.func47 (by kernel_rfl)
def shape_Large_c (k47 : Sm O) : Sm O := fun xs h =>
 bif Nat.beq xs.length 2 then
 (AV.asAgg 2 (xs.getD 0 .u)).bind fun c0 =>
 gtI c0 0 fun n1 =>
 gtI c0 1 fun n2 =>
 gtI xs 1 fun n3 =>
 let h4 := h.bump 1
 let h5 := h4.put h.next (.cells true 70 [(.i .i64 n1), (.i .i64 n2)])
 ldI h5 (.n h.next) 0 fun n7 =>
 ldI h5 (.n h.next) 1 fun n9 =>
 (k47 [(.agg [(.i .i64 n7), (.i .i64 n9)])] h5).bind fun r10 =>
 (AV.asI .i64 r10.1).bind fun n11 =>
 some ((.b (decide (n11 > n3))), r10.2)
 else none
def shape_Large : Sm O := shape_Large_c shape_Words
theorem shape_Large_ent : Entered Tryz.prog 48 := Tryz.call48
theorem shape_Large_run (k47 : Sm O) : run (O := O) Tryz.prog [(47, k47)] Tryz.f48 (.n .z .z) = shape_Large_c k47 := by kernel_rfl
theorem shape_Large_sound : FSound RO Tryz.prog 48 shape_Large := sdf (shape_Large_run _) (gcons shape_Words_ent shape_Words_sound <| gnil) Tryz.func48 (by kernel_rfl)
def shape_Charge_c (k47 k48 : Sm O) : Sm O := fun xs h =>
 bif Nat.beq xs.length 2 then
 (AV.asAgg 2 (xs.getD 0 .u)).bind fun c0 =>
 gtI c0 0 fun n1 =>
 gtI c0 1 fun n2 =>
 gtI xs 1 fun n3 =>
 let h4 := h.bump 1
 let h5 := h4.put h.next (.cells true 70 [(.i .i64 n1), (.i .i64 n2)])
 ldI h5 (.n h.next) 0 fun n7 =>
 ldI h5 (.n h.next) 1 fun n9 =>
 (k47 [(.agg [(.i .i64 n7), (.i .i64 n9)])] h5).bind fun r10 =>
 (AV.asI .i64 r10.1).bind fun n11 =>
 ((bif ((decide (n11 > 0)) == true) then
 ldI r10.2 (.n h.next) 0 fun n13 =>
 ldI r10.2 (.n h.next) 1 fun n15 =>
 (k48 [(.agg [(.i .i64 n13), (.i .i64 n15)]), (.i .i64 n3)] r10.2).bind fun r16 =>
 (AV.asB r16.1).bind fun b17 =>
 some ([(.b b17)], r16.2)
 else some ([(.b false)], r10.2)) : Option (List AV × AH O)).bind fun r18 =>
 (AV.asB (r18.1.getD 0 .u)).bind fun b19 =>
 (bif b19 then
 some ((.i .i64 (IntKind.i64.wrap (n11 + 6))), r18.2)
 else some ((.i .i64 n11), r18.2))
 else none
def shape_Charge : Sm O := shape_Charge_c shape_Words shape_Large
theorem shape_Charge_ent : Entered Tryz.prog 28 := Tryz.call28
theorem shape_Charge_run (k47 k48 : Sm O) : run (O := O) Tryz.prog [(47, k47), (48, k48)] Tryz.f28 (.n .z (.n .z (.n (.n (.g [(2, 3, [(14, .one .b)])]) (.n .z .z)) .z))) = shape_Charge_c k47 k48 := by kernel_rfl
theorem shape_Charge_sound : FSound RO Tryz.prog 28 shape_Charge := sdf (shape_Charge_run _ _) (gcons shape_Words_ent shape_Words_sound <| gcons shape_Large_ent shape_Large_sound <| gnil) Tryz.func28 (by kernel_rfl)
def canon_Words_L1 (l8 : SA × Nat) (k28 : Sm O) (n4 : Int) : List AV × AH O → Option ((List AV × AH O) ⊕ (List AV × AH O)) := (fun r9 =>
 (AV.asI .i64 (r9.1.getD 0 .u)).bind fun n10 =>
 (AV.asI .i64 (r9.1.getD 1 .u)).bind fun n11 =>
 (bif (decide (n11 < (l8.2 : Int))) then
 let h12 := r9.2.bump 1
 (bif ((decide ((0 : Int) ≤ n11)) && (decide (n11 < (l8.2 : Int)))) then
 (SA.ref l8.1).bind fun q13 =>
 ldI h12 q13.1 (q13.2 + (n11.toNat * 7)) fun n15 =>
 ldI h12 q13.1 ((q13.2 + (n11.toNat * 7)) + 1) fun n17 =>
 ldI h12 q13.1 (((q13.2 + (n11.toNat * 7)) + 1) + 1) fun n19 =>
 ldI h12 q13.1 ((((q13.2 + (n11.toNat * 7)) + 1) + 1) + 1) fun n21 =>
 (h12.ld q13.1 (((((q13.2 + (n11.toNat * 7)) + 1) + 1) + 1) + 1)).bind fun w22 =>
 (AV.asB w22).bind fun b23 =>
 ldS h12 q13.1 ((((((q13.2 + (n11.toNat * 7)) + 1) + 1) + 1) + 1) + 1) fun l25 =>
 ldS h12 q13.1 (((((((q13.2 + (n11.toNat * 7)) + 1) + 1) + 1) + 1) + 1) + 1) fun l27 =>
 let h28 := h12.put r9.2.next (.cells true 77 [(.i .i64 0), (.i .i64 0), (.i .i64 0), (.i .i64 0), (.b false), (.sl .nil 0), (.sl .nil 0)])
 (h28.st (.n r9.2.next) 0 [(.i .i64 n15), (.i .i64 n17), (.i .i64 n19), (.i .i64 n21), (.b b23), (.sl l25.1 l25.2), (.sl l27.1 l27.2)]).bind fun h29 =>
 ldI h29 (.n r9.2.next) 0 fun n31 =>
 ldI h29 (.n r9.2.next) 1 fun n33 =>
 (k28 [(.agg [(.i .i64 n31), (.i .i64 n33)]), (.i .i64 n4)] h29).bind fun r34 =>
 (AV.asI .i64 r34.1).bind fun n35 =>
 some (Sum.inl ([(.i .i64 (IntKind.i64.wrap (n10 + n35))), (.i .i64 (IntKind.i64.wrap (n11 + 1)))], r34.2))
 else none)
 else some (Sum.inr ([(.i .i64 n10)], r9.2))))
def canon_Words_c (k28 : Sm O) : Sm O := fun xs h =>
 bif Nat.beq xs.length 2 then
 (AV.asAgg 3 (xs.getD 0 .u)).bind fun c0 =>
 gtS c0 0 fun l1 =>
 gtS c0 1 fun l2 =>
 gtS c0 2 fun l3 =>
 gtI xs 1 fun n4 =>
 let h5 := h.bump 1
 let h6 := h5.put h.next (.cells true 25 [(.sl l1.1 l1.2), (.sl l2.1 l2.2), (.sl l3.1 l3.2)])
 ldS h6 (.n h.next) 0 fun l8 =>
 (loopF (S := List AV × AH O) (T := List AV × AH O) (canon_Words_L1 l8 k28 n4) ([(.i .i64 0), (.i .i64 0)], h6)).bind fun r36 =>
 (AV.asI .i64 (r36.1.getD 0 .u)).bind fun n37 =>
 some ((.i .i64 n37), r36.2)
 else none
def canon_Words : Sm O := canon_Words_c shape_Charge
theorem canon_Words_ent : Entered Tryz.prog 13 := Tryz.call13
theorem canon_Words_run (k28 : Sm O) : run (O := O) Tryz.prog [(28, k28)] Tryz.f13 (.n .z (.n .z (.n (.n .z (.n (.lp false 0 [(5, .one (.i .i64)), (11, .one (.i .i64))] [(5, .one (.i .i64))] (.n .z (.n .z (.n (.n .z .z) .z)))) .z)) .z))) = canon_Words_c k28 := by kernel_rfl
theorem canon_Words_sound : FSound RO Tryz.prog 13 canon_Words := sdf (canon_Words_run _) (gcons shape_Charge_ent shape_Charge_sound <| gnil) Tryz.func13 (by kernel_rfl)
def haymowref13_Right_c : Sm O := fun xs h =>
 bif Nat.beq xs.length 1 then
 (AV.asAgg 2 (xs.getD 0 .u)).bind fun c0 =>
 gtI c0 0 fun n1 =>
 gtI c0 1 fun n2 =>
 let h3 := h.bump 1
 let h4 := h3.put h.next (.cells true 70 [(.i .i64 n1), (.i .i64 n2)])
 ldI h4 (.n h.next) 0 fun n6 =>
 ((bif ((decide (n6 ≥ 0)) == true) then
 ldI h4 (.n h.next) 0 fun n8 =>
 some ([(.b (decide (n8 < 4096)))], h4)
 else some ([(.b false)], h4)) : Option (List AV × AH O)).bind fun r9 =>
 (AV.asB (r9.1.getD 0 .u)).bind fun b10 =>
 ((bif (b10 == true) then
 ldI r9.2 (.n h.next) 1 fun n12 =>
 some ([(.b (decide (n12 ≥ 0)))], r9.2)
 else some ([(.b false)], r9.2)) : Option (List AV × AH O)).bind fun r13 =>
 (AV.asB (r13.1.getD 0 .u)).bind fun b14 =>
 ((bif (b14 == true) then
 ldI r13.2 (.n h.next) 1 fun n16 =>
 some ([(.b (decide (n16 < 4096)))], r13.2)
 else some ([(.b false)], r13.2)) : Option (List AV × AH O)).bind fun r17 =>
 (AV.asB (r17.1.getD 0 .u)).bind fun b18 =>
 some ((.b b18), r17.2)
 else none
def haymowref13_Right : Sm O := haymowref13_Right_c
theorem haymowref13_Right_ent : Entered Tryz.prog 74 := Tryz.call74
theorem haymowref13_Right_run : run (O := O) Tryz.prog [] Tryz.f74 (.n .z (.n (.g [(3, 3, [(10, .one .b)]), (8, 3, [(15, .one .b)]), (13, 3, [(20, .one .b)])]) .z)) = haymowref13_Right_c  := by kernel_rfl
theorem haymowref13_Right_sound : FSound RO Tryz.prog 74 haymowref13_Right := sdf haymowref13_Right_run (gnil) Tryz.func74 (by kernel_rfl)
def haymowref13_Words_c (k74 : Sm O) : Sm O := fun xs h =>
 bif Nat.beq xs.length 1 then
 (AV.asAgg 2 (xs.getD 0 .u)).bind fun c0 =>
 gtI c0 0 fun n1 =>
 gtI c0 1 fun n2 =>
 let h3 := h.bump 1
 let h4 := h3.put h.next (.cells true 70 [(.i .i64 n1), (.i .i64 n2)])
 ldI h4 (.n h.next) 0 fun n6 =>
 ldI h4 (.n h.next) 1 fun n8 =>
 (k74 [(.agg [(.i .i64 n6), (.i .i64 n8)])] h4).bind fun r9 =>
 (AV.asB r9.1).bind fun b10 =>
 (bif (!b10) then
 some ((.i .i64 0), r9.2)
 else ldI r9.2 (.n h.next) 0 fun n12 =>
 ldI r9.2 (.n h.next) 1 fun n14 =>
 let v15 : Int := (IntKind.i64.wrap ((IntKind.i64.wrap (1 + n12)) + n14))
 some ((.i .i64 v15), r9.2))
 else none
def haymowref13_Words : Sm O := haymowref13_Words_c haymowref13_Right
theorem haymowref13_Words_ent : Entered Tryz.prog 49 := Tryz.call49
theorem haymowref13_Words_run (k74 : Sm O) : run (O := O) Tryz.prog [(74, k74)] Tryz.f49 (.n .z (.n (.n .z (.n .z .z)) .z)) = haymowref13_Words_c k74 := by kernel_rfl
theorem haymowref13_Words_sound : FSound RO Tryz.prog 49 haymowref13_Words := sdf (haymowref13_Words_run _) (gcons haymowref13_Right_ent haymowref13_Right_sound <| gnil) Tryz.func49 (by kernel_rfl)
def haymowref13_Charge_c (k49 : Sm O) : Sm O := fun xs h =>
 bif Nat.beq xs.length 2 then
 (AV.asAgg 2 (xs.getD 0 .u)).bind fun c0 =>
 gtI c0 0 fun n1 =>
 gtI c0 1 fun n2 =>
 gtI xs 1 fun n3 =>
 let h4 := h.bump 1
 let h5 := h4.put h.next (.cells true 70 [(.i .i64 n1), (.i .i64 n2)])
 ldI h5 (.n h.next) 0 fun n7 =>
 ldI h5 (.n h.next) 1 fun n9 =>
 (k49 [(.agg [(.i .i64 n7), (.i .i64 n9)])] h5).bind fun r10 =>
 (AV.asI .i64 r10.1).bind fun n11 =>
 ((bif ((decide (n11 > 0)) == true) then
 some ([(.b (decide (n11 > n3)))], r10.2)
 else some ([(.b false)], r10.2)) : Option (List AV × AH O)).bind fun r12 =>
 (AV.asB (r12.1.getD 0 .u)).bind fun b13 =>
 ((bif b13 then
 some ([(.i .i64 (IntKind.i64.wrap (n11 + 6)))], r12.2)
 else some ([(.i .i64 n11)], r12.2)) : Option (List AV × AH O)).bind fun r14 =>
 (AV.asI .i64 (r14.1.getD 0 .u)).bind fun n15 =>
 some ((.i .i64 n15), r14.2)
 else none
def haymowref13_Charge : Sm O := haymowref13_Charge_c haymowref13_Words
theorem haymowref13_Charge_ent : Entered Tryz.prog 29 := Tryz.call29
theorem haymowref13_Charge_run (k49 : Sm O) : run (O := O) Tryz.prog [(49, k49)] Tryz.f29 (.n .z (.n .z (.n (.n (.g [(2, 3, [(14, .one .b)])]) (.j false [(5, .one (.i .i64))] .z .z)) .z))) = haymowref13_Charge_c k49 := by kernel_rfl
theorem haymowref13_Charge_sound : FSound RO Tryz.prog 29 haymowref13_Charge := sdf (haymowref13_Charge_run _) (gcons haymowref13_Words_ent haymowref13_Words_sound <| gnil) Tryz.func29 (by kernel_rfl)
def haymowref40_Words_L1 (h : AH O) (k29 : Sm O) (n4 : Int) : List AV × AH O → Option ((List AV × AH O) ⊕ (List AV × AH O)) := (fun r7 =>
 (AV.asI .i64 (r7.1.getD 0 .u)).bind fun n8 =>
 (AV.asI .i64 (r7.1.getD 1 .u)).bind fun n9 =>
 ldS r7.2 (.n h.next) 0 fun l11 =>
 (bif (decide (n9 < (l11.2 : Int))) then
 ldS r7.2 (.n h.next) 0 fun l13 =>
 (bif ((decide ((0 : Int) ≤ n9)) && (decide (n9 < (l13.2 : Int)))) then
 (SA.ref l13.1).bind fun q14 =>
 ldI r7.2 q14.1 (q14.2 + (n9.toNat * 7)) fun n16 =>
 ldI r7.2 q14.1 ((q14.2 + (n9.toNat * 7)) + 1) fun n18 =>
 (k29 [(.agg [(.i .i64 n16), (.i .i64 n18)]), (.i .i64 n4)] r7.2).bind fun r19 =>
 (AV.asI .i64 r19.1).bind fun n20 =>
 some (Sum.inl ([(.i .i64 (IntKind.i64.wrap (n8 + n20))), (.i .i64 (IntKind.i64.wrap (n9 + 1)))], r19.2))
 else none)
 else some (Sum.inr ([(.i .i64 n8)], r7.2))))
def haymowref40_Words_c (k29 : Sm O) : Sm O := fun xs h =>
 bif Nat.beq xs.length 2 then
 (AV.asAgg 3 (xs.getD 0 .u)).bind fun c0 =>
 gtS c0 0 fun l1 =>
 gtS c0 1 fun l2 =>
 gtS c0 2 fun l3 =>
 gtI xs 1 fun n4 =>
 let h5 := h.bump 1
 let h6 := h5.put h.next (.cells true 30 [(.sl l1.1 l1.2), (.sl l2.1 l2.2), (.sl l3.1 l3.2)])
 (loopF (S := List AV × AH O) (T := List AV × AH O) (haymowref40_Words_L1 h k29 n4) ([(.i .i64 0), (.i .i64 0)], h6)).bind fun r21 =>
 (AV.asI .i64 (r21.1.getD 0 .u)).bind fun n22 =>
 some ((.i .i64 n22), r21.2)
 else none
def haymowref40_Words : Sm O := haymowref40_Words_c haymowref13_Charge
theorem haymowref40_Words_ent : Entered Tryz.prog 14 := Tryz.call14
theorem haymowref40_Words_run (k29 : Sm O) : run (O := O) Tryz.prog [(29, k29)] Tryz.f14 (.n .z (.n .z (.n (.n .z (.n (.lp false 0 [(5, .one (.i .i64)), (6, .one (.i .i64))] [(5, .one (.i .i64))] (.n (.n .z .z) (.n .z .z))) .z)) .z))) = haymowref40_Words_c k29 := by kernel_rfl
theorem haymowref40_Words_sound : FSound RO Tryz.prog 14 haymowref40_Words := sdf (haymowref40_Words_run _) (gcons haymowref13_Charge_ent haymowref13_Charge_sound <| gnil) Tryz.func14 (by kernel_rfl)
end
end Go.Abs.Tryz
