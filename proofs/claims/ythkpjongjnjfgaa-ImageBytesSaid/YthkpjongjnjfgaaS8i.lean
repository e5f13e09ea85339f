/-
  What functions of the program do. No conditions.
-/
import Derived.Test.YthkpjongjnjfgaaAbsExtern
import Derived.Test.YthkpjongjnjfgaaAbsWord
import Derived.Test.YthkpjongjnjfgaaProg
import Derived.KernelRfl
set_option linter.unusedVariables false
set_option linter.unusedSimpArgs false
set_option linter.constructorNameAsVariable false
set_option maxRecDepth 100000
namespace Go.Abs.Try
open Go Go.Abs Go.Proofs
noncomputable section
variable {O : Type} {RO : O -> Loc -> (Nat -> Option Obj) -> Prop}
theorem mixed : Try.prog.follows .mixedOrders = true := by kernel_rfl
theorem sdf {G : List (FuncId × Sm O)} {f : FuncId} {fn : Func} {an : Ann} {s : Sm O} (e : run Try.prog G fn an = s) (hG : GSound RO Try.prog G) (hf : Try.prog.funcs[f]? = some fn) (hk : fnOK fn = true) : FSound RO Try.prog f s := e ▸ run_sound hG mixed hf hk an
abbrev T_canon_Form : Nat := 27
abbrev T_haymowref40_Form : Nat := 33
abbrev T_haymowref40_Node : Nat := 97
def canon_within_1_c : Sm O := fun xs h =>
 bif Nat.beq xs.length 3 then
 gtI xs 0 fun n0 =>
 (AV.asPS (xs.getD 1 .u)).bind fun q1 =>
 ldI h q1.1 q1.2 fun n3 =>
 ((bif ((decide (n0 < n3)) == false) then
 (AV.asPS (xs.getD 2 .u)).bind fun q4 =>
 ldI h q4.1 q4.2 fun n6 =>
 some ([(.b (decide (n0 > n6)))], h)
 else some ([(.b true)], h)) : Option (List AV × AH O)).bind fun r7 =>
 (AV.asB (r7.1.getD 0 .u)).bind fun b8 =>
 some ((.b b8), r7.2)
 else none
def canon_within_1 : Sm O := canon_within_1_c
theorem canon_within_1_ent : Entered Try.prog 110 := Try.call110
theorem canon_within_1_run : run (O := O) Try.prog [] Try.f110 (.n .z (.n (.g [(3, 3, [(12, .one .b)])]) .z)) = canon_within_1_c  := by kernel_rfl
theorem canon_within_1_sound : FSound RO Try.prog 110 canon_within_1 := sdf canon_within_1_run (gnil) Try.func110 (by kernel_rfl)
def slices_IndexFunc___int_int__L1 (l0 : SA × Nat) (k110 : Sm O) (f1 : Option (Fn × List AV × List AV)) : List AV × AH O -> Option ((List AV × AH O) ⊕ ((List AV × AH O) ⊕ (AV × AH O))) := (fun r2 =>
 (AV.asI .i64 (r2.1.getD 0 .u)).bind fun n3 =>
 (bif (decide (n3 < (l0.2 : Int))) then
 (bif ((decide ((0 : Int) <= n3)) && (decide (n3 < (l0.2 : Int)))) then
 (SA.ref l0.1).bind fun q4 =>
 ldI r2.2 q4.1 (q4.2 + (n3.toNat * 1)) fun n6 =>
 (callV [(110, k110)] f1 [(.i .i64 n6)] r2.2).bind fun r7 =>
 (AV.asB r7.1).bind fun b8 =>
 (bif b8 then
 ((some ((.i .i64 n3), r7.2) : Option (AV × AH O)).map fun r => Sum.inr (Sum.inr r))
 else some (Sum.inl ([(.i .i64 (IntKind.i64.wrap (n3 + 1)))], r7.2)))
 else none)
 else some (Sum.inr (Sum.inl ([], r2.2)))))
def slices_IndexFunc___int_int__c (k110 : Sm O) : Sm O := fun xs h =>
 bif Nat.beq xs.length 2 then
 gtS xs 0 fun l0 =>
 (AV.asF (xs.getD 1 .u)).bind fun f1 =>
 bindS (S := List AV × AH O) (R := (AV × AH O)) (loopF (S := List AV × AH O) (T := (List AV × AH O) ⊕ (AV × AH O)) (slices_IndexFunc___int_int__L1 l0 k110 f1) ([(.i .i64 0)], h)) fun r9 =>
 some ((.i .i64 (-1)), r9.2)
 else none
def slices_IndexFunc___int_int_ : Sm O := slices_IndexFunc___int_int__c canon_within_1
theorem slices_IndexFunc___int_int__ent : Entered Try.prog 122 := Try.call122
theorem slices_IndexFunc___int_int__run (k110 : Sm O) : run (O := O) Try.prog [(110, k110)] Try.f122 (.n .z (.n (.n .z (.n (.lp true 0 [(8, .one (.i .i64))] [] (.n .z (.n .z (.n (.n (.n .z (.n .z (.n .z .z))) .z) .z)))) .z)) .z)) = slices_IndexFunc___int_int__c k110 := by kernel_rfl
theorem slices_IndexFunc___int_int__sound : FSound RO Try.prog 122 slices_IndexFunc___int_int_ := sdf (slices_IndexFunc___int_int__run _) (gcons canon_within_1_ent canon_within_1_sound <| gnil) Try.func122 (by kernel_rfl)
def slices_ContainsFunc___int_int__c (k122 : Sm O) : Sm O := fun xs h =>
 bif Nat.beq xs.length 2 then
 gtS xs 0 fun l0 =>
 (AV.asF (xs.getD 1 .u)).bind fun f1 =>
 (k122 [(.sl l0.1 l0.2), (.fn f1)] h).bind fun r2 =>
 (AV.asI .i64 r2.1).bind fun n3 =>
 some ((.b (decide (n3 >= 0))), r2.2)
 else none
def slices_ContainsFunc___int_int_ : Sm O := slices_ContainsFunc___int_int__c slices_IndexFunc___int_int_
theorem slices_ContainsFunc___int_int__ent : Entered Try.prog 109 := Try.call109
theorem slices_ContainsFunc___int_int__run (k122 : Sm O) : run (O := O) Try.prog [(122, k122)] Try.f109 (.n .z .z) = slices_ContainsFunc___int_int__c k122 := by kernel_rfl
theorem slices_ContainsFunc___int_int__sound : FSound RO Try.prog 109 slices_ContainsFunc___int_int_ := sdf (slices_ContainsFunc___int_int__run _) (gcons slices_IndexFunc___int_int__ent slices_IndexFunc___int_int__sound <| gnil) Try.func109 (by kernel_rfl)
def canon_within_c (k110 k109 : Sm O) : Sm O := fun xs h =>
 bif Nat.beq xs.length 3 then
 gtS xs 0 fun l0 =>
 gtI xs 1 fun n1 =>
 gtI xs 2 fun n2 =>
 let h3 := h.bump 2
 let h4 := h3.put h.next (.cells true 3 [(.i .i64 n1)])
 let h5 := h4.put (h.next + 1) (.cells true 3 [(.i .i64 n2)])
 (k109 [(.sl l0.1 l0.2), (.fn (some (.func 110, [], [(.p (some ((.n h.next), 0))), (.p (some ((.n (h.next + 1)), 0)))])))] h5).bind fun r6 =>
 (AV.asB r6.1).bind fun b7 =>
 some ((.b (!b7)), r6.2)
 else none
def canon_within : Sm O := canon_within_c canon_within_1 slices_ContainsFunc___int_int_
theorem canon_within_ent : Entered Try.prog 87 := Try.call87
theorem canon_within_run (k110 k109 : Sm O) : run (O := O) Try.prog [(110, k110), (109, k109)] Try.f87 (.n .z .z) = canon_within_c k110 k109 := by kernel_rfl
theorem canon_within_sound : FSound RO Try.prog 87 canon_within := sdf (canon_within_run _ _) (gcons canon_within_1_ent canon_within_1_sound <| gcons slices_ContainsFunc___int_int__ent slices_ContainsFunc___int_int__sound <| gnil) Try.func87 (by kernel_rfl)
def canon_Right_1_L1 (l0 : SA × Nat) (xs : List AV) : List AV × AH O -> Option ((List AV × AH O) ⊕ ((List AV × AH O) ⊕ (AV × AH O))) := (fun r1 =>
 (AV.asI .i64 (r1.1.getD 0 .u)).bind fun n2 =>
 (bif (decide (n2 < (l0.2 : Int))) then
 (bif ((decide ((0 : Int) <= n2)) && (decide (n2 < (l0.2 : Int)))) then
 (SA.ref l0.1).bind fun q3 =>
 ldI r1.2 q3.1 (q3.2 + (n2.toNat * 1)) fun n5 =>
 (AV.asPS (xs.getD 1 .u)).bind fun q6 =>
 ldI r1.2 q6.1 q6.2 fun n8 =>
 (bif (decide (n5 > (IntKind.i64.wrap (n8 + 1)))) then
 ((some ((.b false), r1.2) : Option (AV × AH O)).map fun r => Sum.inr (Sum.inr r))
 else (AV.asPS (xs.getD 1 .u)).bind fun q9 =>
 ldI r1.2 q9.1 q9.2 fun n11 =>
 (AV.asPS (xs.getD 1 .u)).bind fun q12 =>
 (r1.2.st q12.1 q12.2 [(.i .i64 (if n5 > n11 then n5 else n11))]).bind fun h13 =>
 some (Sum.inl ([(.i .i64 (IntKind.i64.wrap (n2 + 1)))], h13)))
 else none)
 else some (Sum.inr (Sum.inl ([], r1.2)))))
def canon_Right_1_c : Sm O := fun xs h =>
 bif Nat.beq xs.length 2 then
 gtS xs 0 fun l0 =>
 bindS (S := List AV × AH O) (R := (AV × AH O)) (loopF (S := List AV × AH O) (T := (List AV × AH O) ⊕ (AV × AH O)) (canon_Right_1_L1 l0 xs) ([(.i .i64 0)], h)) fun r14 =>
 some ((.b true), r14.2)
 else none
def canon_Right_1 : Sm O := canon_Right_1_c
theorem canon_Right_1_ent : Entered Try.prog 88 := Try.call88
theorem canon_Right_1_run : run (O := O) Try.prog [] Try.f88 (.n .z (.n (.n .z (.n (.lp true 0 [(8, .one (.i .i64))] [] (.n .z (.n .z (.n (.n (.n .z (.n (.n .z (.n .z .z)) .z)) .z) .z)))) .z)) .z)) = canon_Right_1_c  := by kernel_rfl
theorem canon_Right_1_sound : FSound RO Try.prog 88 canon_Right_1 := sdf canon_Right_1_run (gnil) Try.func88 (by kernel_rfl)
def header_within_c : Sm O := fun xs h =>
 bif Nat.beq xs.length 2 then
 gtI xs 0 fun n0 =>
 gtI xs 1 fun n1 =>
 ((bif ((decide (n0 >= 0)) == true) then
 some ([(.b (decide (n0 <= n1)))], h)
 else some ([(.b false)], h)) : Option (List AV × AH O)).bind fun r2 =>
 (AV.asB (r2.1.getD 0 .u)).bind fun b3 =>
 some ((.b b3), r2.2)
 else none
def header_within : Sm O := header_within_c
theorem header_within_ent : Entered Try.prog 101 := Try.call101
theorem header_within_run : run (O := O) Try.prog [] Try.f101 (.n .z (.n (.g [(2, 3, [(11, .one .b)])]) .z)) = header_within_c  := by kernel_rfl
theorem header_within_sound : FSound RO Try.prog 101 header_within := sdf header_within_run (gnil) Try.func101 (by kernel_rfl)
def header_Check_c (k101 : Sm O) : Sm O := fun xs h =>
 bif Nat.beq xs.length 1 then
 (AV.asAgg 5 (xs.getD 0 .u)).bind fun c0 =>
 gtI c0 0 fun n1 =>
 gtI c0 1 fun n2 =>
 gtI c0 2 fun n3 =>
 gtI c0 3 fun n4 =>
 (AV.asB (c0.getD 4 .u)).bind fun b5 =>
 let h6 := h.bump 1
 let h7 := h6.put h.next (.cells true 53 [(.i .i64 n1), (.i .i64 n2), (.i .i64 n3), (.i .i64 n4), (.b b5)])
 ldI h7 (.n h.next) 0 fun n9 =>
 (k101 [(.i .i64 n9), (.i .i64 4095)] h7).bind fun r10 =>
 (AV.asB r10.1).bind fun b11 =>
 ((bif ((!b11) == false) then
 ldI r10.2 (.n h.next) 1 fun n13 =>
 (k101 [(.i .i64 n13), (.i .i64 4095)] r10.2).bind fun r14 =>
 (AV.asB r14.1).bind fun b15 =>
 some ([(.b (!b15))], r14.2)
 else some ([(.b true)], r10.2)) : Option (List AV × AH O)).bind fun r16 =>
 (AV.asB (r16.1.getD 0 .u)).bind fun b17 =>
 (bif b17 then
 some ((.i .i64 20), r16.2)
 else ldI r16.2 (.n h.next) 2 fun n19 =>
 (k101 [(.i .i64 n19), (.i .i64 31)] r16.2).bind fun r20 =>
 (AV.asB r20.1).bind fun b21 =>
 (bif (!b21) then
 some ((.i .i64 21), r20.2)
 else ldI r20.2 (.n h.next) 3 fun n23 =>
 (k101 [(.i .i64 n23), (.i .i64 7)] r20.2).bind fun r24 =>
 (AV.asB r24.1).bind fun b25 =>
 (bif (!b25) then
 some ((.i .i64 2), r24.2)
 else some ((.i .i64 0), r24.2))))
 else none
def header_Check : Sm O := header_Check_c header_within
theorem header_Check_ent : Entered Try.prog 62 := Try.call62
theorem header_Check_run (k101 : Sm O) : run (O := O) Try.prog [(101, k101)] Try.f62 (.n .z (.n (.n (.n (.g [(5, 5, [(15, .one .b)])]) (.n .z (.n .z (.n .z (.n .z (.n .z .z)))))) .z) .z)) = header_Check_c k101 := by kernel_rfl
theorem header_Check_sound : FSound RO Try.prog 62 header_Check := sdf (header_Check_run _) (gcons header_within_ent header_within_sound <| gnil) Try.func62 (by kernel_rfl)
def canon_Right_L1 (l26 : SA × Nat) (r16 : List AV × AH O) (k62 : Sm O) (k87 : Sm O) (l7 : SA × Nat) (k88 : Sm O) : List AV × AH O -> Option ((List AV × AH O) ⊕ ((List AV × AH O) ⊕ (AV × AH O))) := (fun r27 =>
 (AV.asI .i64 (r27.1.getD 0 .u)).bind fun n28 =>
 (bif (decide (n28 < (l26.2 : Int))) then
 let h29 := r27.2.bump 1
 (bif ((decide ((0 : Int) <= n28)) && (decide (n28 < (l26.2 : Int)))) then
 (SA.ref l26.1).bind fun q30 =>
 ldI h29 q30.1 (q30.2 + (n28.toNat * 7)) fun n32 =>
 ldI h29 q30.1 ((q30.2 + (n28.toNat * 7)) + 1) fun n34 =>
 ldI h29 q30.1 (((q30.2 + (n28.toNat * 7)) + 1) + 1) fun n36 =>
 ldI h29 q30.1 ((((q30.2 + (n28.toNat * 7)) + 1) + 1) + 1) fun n38 =>
 (h29.ld q30.1 (((((q30.2 + (n28.toNat * 7)) + 1) + 1) + 1) + 1)).bind fun w39 =>
 (AV.asB w39).bind fun b40 =>
 ldS h29 q30.1 ((((((q30.2 + (n28.toNat * 7)) + 1) + 1) + 1) + 1) + 1) fun l42 =>
 ldS h29 q30.1 (((((((q30.2 + (n28.toNat * 7)) + 1) + 1) + 1) + 1) + 1) + 1) fun l44 =>
 let h45 := h29.put r27.2.next (.cells true 89 [(.i .i64 0), (.i .i64 0), (.i .i64 0), (.i .i64 0), (.b false), (.sl .nil 0), (.sl .nil 0)])
 (h45.st (.n r27.2.next) 0 [(.i .i64 n32), (.i .i64 n34), (.i .i64 n36), (.i .i64 n38), (.b b40), (.sl l42.1 l42.2), (.sl l44.1 l44.2)]).bind fun h46 =>
 ldI h46 (.n r16.2.next) 0 fun n48 =>
 ((bif ((decide (n28 >= n48)) == false) then
 ldI h46 (.n r27.2.next) 0 fun n50 =>
 ldI h46 (.n r27.2.next) 1 fun n52 =>
 ldI h46 (.n r27.2.next) 2 fun n54 =>
 ldI h46 (.n r27.2.next) 3 fun n56 =>
 (h46.ld (.n r27.2.next) 4).bind fun w57 =>
 (AV.asB w57).bind fun b58 =>
 (k62 [(.agg [(.i .i64 n50), (.i .i64 n52), (.i .i64 n54), (.i .i64 n56), (.b b58)])] h46).bind fun r59 =>
 (AV.asI .i64 r59.1).bind fun n60 =>
 some ([(.b ((n60 : Int) != 0))], r59.2)
 else some ([(.b true)], h46)) : Option (List AV × AH O)).bind fun r61 =>
 (AV.asB (r61.1.getD 0 .u)).bind fun b62 =>
 ((bif (b62 == false) then
 ldS r61.2 (.n r27.2.next) 5 fun l64 =>
 ldI r61.2 (.n r27.2.next) 0 fun n66 =>
 some ([(.b (((l64.2 : Int) : Int) != n66))], r61.2)
 else some ([(.b true)], r61.2)) : Option (List AV × AH O)).bind fun r67 =>
 (AV.asB (r67.1.getD 0 .u)).bind fun b68 =>
 ((bif (b68 == false) then
 ldS r67.2 (.n r27.2.next) 6 fun l70 =>
 ldI r67.2 (.n r27.2.next) 1 fun n72 =>
 some ([(.b (((l70.2 : Int) : Int) != n72))], r67.2)
 else some ([(.b true)], r67.2)) : Option (List AV × AH O)).bind fun r73 =>
 (AV.asB (r73.1.getD 0 .u)).bind fun b74 =>
 (bif b74 then
 ((some ((.b false), r73.2) : Option (AV × AH O)).map fun r => Sum.inr (Sum.inr r))
 else ldS r73.2 (.n r27.2.next) 5 fun l76 =>
 (k87 [(.sl l76.1 l76.2), (.i .i64 0), (.i .i64 (l7.2 : Int))] r73.2).bind fun r77 =>
 (AV.asB r77.1).bind fun b78 =>
 ((bif ((!b78) == false) then
 ldS r77.2 (.n r27.2.next) 5 fun l80 =>
 (k88 [(.sl l80.1 l80.2), (.p (some ((.n r16.2.next), 0)))] r77.2).bind fun r81 =>
 (AV.asB r81.1).bind fun b82 =>
 some ([(.b (!b82))], r81.2)
 else some ([(.b true)], r77.2)) : Option (List AV × AH O)).bind fun r83 =>
 (AV.asB (r83.1.getD 0 .u)).bind fun b84 =>
 (bif b84 then
 ((some ((.b false), r83.2) : Option (AV × AH O)).map fun r => Sum.inr (Sum.inr r))
 else some (Sum.inl ([(.i .i64 (IntKind.i64.wrap (n28 + 1)))], r83.2))))
 else none)
 else some (Sum.inr (Sum.inl ([], r27.2)))))
def canon_Right_c (k87 k88 k62 : Sm O) : Sm O := fun xs h =>
 bif Nat.beq xs.length 1 then
 (AV.asAgg 3 (xs.getD 0 .u)).bind fun c0 =>
 gtS c0 0 fun l1 =>
 gtS c0 1 fun l2 =>
 gtS c0 2 fun l3 =>
 let h4 := h.bump 1
 let h5 := h4.put h.next (.cells true 27 [(.sl l1.1 l1.2), (.sl l2.1 l2.2), (.sl l3.1 l3.2)])
 ldS h5 (.n h.next) 0 fun l7 =>
 ldS h5 (.n h.next) 1 fun l9 =>
 (k87 [(.sl l9.1 l9.2), (.i .i64 1), (.i .i64 (l7.2 : Int))] h5).bind fun r10 =>
 (AV.asB r10.1).bind fun b11 =>
 ((bif ((!b11) == false) then
 ldS r10.2 (.n h.next) 2 fun l13 =>
 (k87 [(.sl l13.1 l13.2), (.i .i64 0), (.i .i64 (l7.2 : Int))] r10.2).bind fun r14 =>
 (AV.asB r14.1).bind fun b15 =>
 some ([(.b (!b15))], r14.2)
 else some ([(.b true)], r10.2)) : Option (List AV × AH O)).bind fun r16 =>
 (AV.asB (r16.1.getD 0 .u)).bind fun b17 =>
 (bif b17 then
 some ((.b false), r16.2)
 else let h18 := r16.2.bump 1
 let h19 := h18.put r16.2.next (.cells true 3 [(.i .i64 0)])
 (h19.st (.n r16.2.next) 0 [(.i .i64 0)]).bind fun h20 =>
 ldS h20 (.n h.next) 1 fun l22 =>
 (k88 [(.sl l22.1 l22.2), (.p (some ((.n r16.2.next), 0)))] h20).bind fun r23 =>
 (AV.asB r23.1).bind fun b24 =>
 (bif (!b24) then
 some ((.b false), r23.2)
 else ldS r23.2 (.n h.next) 0 fun l26 =>
 bindS (S := List AV × AH O) (R := (AV × AH O)) (loopF (S := List AV × AH O) (T := (List AV × AH O) ⊕ (AV × AH O)) (canon_Right_L1 l26 r16 k62 k87 l7 k88) ([(.i .i64 0)], r23.2)) fun r85 =>
 some ((.b true), r85.2)))
 else none
def canon_Right : Sm O := canon_Right_c canon_within canon_Right_1 header_Check
theorem canon_Right_ent : Entered Try.prog 44 := Try.call44
theorem canon_Right_run (k87 k88 k62 : Sm O) : run (O := O) Try.prog [(87, k87), (88, k88), (62, k62)] Try.f44 (.n .z (.n .z (.n (.n (.g [(5, 5, [(22, .one .b)])]) (.n .z .z)) (.n .z (.n .z (.n (.n .z (.n .z .z)) (.n (.n .z (.n (.lp true 0 [(32, .one (.i .i64))] [] (.n .z (.n .z (.n (.n (.n .z (.n (.n (.g [(3, 4, [(45, .one .b)]), (9, 8, [(55, .one .b)]), (19, 8, [(65, .one .b)])]) (.n .z .z)) (.n (.g [(5, 5, [(77, .one .b)])]) (.n .z .z)))) .z) .z)))) .z)) .z))))))) = canon_Right_c k87 k88 k62 := by kernel_rfl
theorem canon_Right_sound : FSound RO Try.prog 44 canon_Right := sdf (canon_Right_run _ _ _) (gcons canon_within_ent canon_within_sound <| gcons canon_Right_1_ent canon_Right_1_sound <| gcons header_Check_ent header_Check_sound <| gnil) Try.func44 (by kernel_rfl)
def header_fields_L1 (n4 : Int) (n6 : Int) (n8 : Int) (n10 : Int) (n12 : Int) : List AV × AH O -> Option ((List AV × AH O) ⊕ (List AV × AH O)) := (fun r13 =>
 (AV.asSl (r13.1.getD 0 .u)).bind fun l14 =>
 (AV.asI .i64 (r13.1.getD 1 .u)).bind fun n15 =>
 (AV.asI .i64 (r13.1.getD 2 .u)).bind fun n16 =>
 (bif (decide (n16 < 5)) then
 (bif ((decide ((0 : Int) <= n16)) && (decide (n16 < 5))) then
 (([(.i .i64 n4), (.i .i64 n6), (.i .i64 n8), (.i .i64 n10), (.i .i64 n12)] : List AV)[(n16.toNat * 1)]?).bind fun w17 =>
 (AV.asI .i64 w17).bind fun n18 =>
 let h19 := r13.2.bump 2
 let h20 := h19.put r13.2.next (.cells true 170 [(.i .i64 n15), (.i .i64 n18)])
 (h20.rdSl (.loc (.n r13.2.next) 0 2) 1 2).bind fun new21 =>
 (bif (Nat.ble ((l14.2 + 1) * 17) 35184372088832) then
 (h20.appSl (r13.2.next + 1) 170 2 l14.1 l14.2 1 new21).bind fun r22 =>
 (AV.asSl r22.1).bind fun l23 =>
 some (Sum.inl ([(.sl l23.1 l23.2), (.i .i64 (IntKind.i64.wrap (n15 + n18))), (.i .i64 (IntKind.i64.wrap (n16 + 1)))], r22.2))
 else none)
 else none)
 else some (Sum.inr ([(.sl l14.1 l14.2)], r13.2))))
def header_fields_c : Sm O := fun xs h =>
 bif Nat.beq xs.length 0 then
 let h0 := h.bump 1
 let h1 := h0.put h.next (.cells true 175 [(.i .i64 0), (.i .i64 0), (.i .i64 0), (.i .i64 0), (.i .i64 0)])
 (h1.st (.n h.next) 0 [(.i .i64 12), (.i .i64 12), (.i .i64 5), (.i .i64 3), (.i .i64 1)]).bind fun h2 =>
 ldI h2 (.n h.next) 0 fun n4 =>
 ldI h2 (.n h.next) 1 fun n6 =>
 ldI h2 (.n h.next) 2 fun n8 =>
 ldI h2 (.n h.next) 3 fun n10 =>
 ldI h2 (.n h.next) 4 fun n12 =>
 (loopF (S := List AV × AH O) (T := List AV × AH O) (header_fields_L1 n4 n6 n8 n10 n12) ([(.sl .nil 0), (.i .i64 0), (.i .i64 0)], h2)).bind fun r24 =>
 (AV.asSl (r24.1.getD 0 .u)).bind fun l25 =>
 let h26 := r24.2.bump 2
 let h27 := h26.put r24.2.next (.cells true 170 [(.i .i64 62), (.i .i64 1)])
 (h27.rdSl (.loc (.n r24.2.next) 0 2) 1 2).bind fun new28 =>
 (bif (Nat.ble ((l25.2 + 1) * 17) 35184372088832) then
 (h27.appSl (r24.2.next + 1) 170 2 l25.1 l25.2 1 new28).bind fun r29 =>
 (AV.asSl r29.1).bind fun l30 =>
 some ((.sl l30.1 l30.2), r29.2)
 else none)
 else none
def header_fields : Sm O := header_fields_c
theorem header_fields_ent : Entered Try.prog 95 := Try.call95
theorem header_fields_run : run (O := O) Try.prog [] Try.f95 (.n .z (.n .z (.n .z (.n .z (.n (.n .z (.n (.lp false 0 [(2, .one .sl), (3, .one (.i .i64)), (8, .one (.i .i64))] [(2, .one .sl)] (.n .z (.n .z (.n (.n (.n .z .z) .z) .z)))) .z)) .z))))) = header_fields_c  := by kernel_rfl
theorem header_fields_sound : FSound RO Try.prog 95 header_fields := sdf header_fields_run (gnil) Try.func95 (by kernel_rfl)
def field_Right_c : Sm O := fun xs h =>
 bif Nat.beq xs.length 1 then
 (AV.asAgg 2 (xs.getD 0 .u)).bind fun c0 =>
 gtI c0 0 fun n1 =>
 gtI c0 1 fun n2 =>
 let h3 := h.bump 1
 let h4 := h3.put h.next (.cells true 170 [(.i .i64 n1), (.i .i64 n2)])
 ldI h4 (.n h.next) 1 fun n6 =>
 ((bif ((decide (n6 >= 1)) == true) then
 ldI h4 (.n h.next) 1 fun n8 =>
 some ([(.b (decide (n8 <= 64)))], h4)
 else some ([(.b false)], h4)) : Option (List AV × AH O)).bind fun r9 =>
 (AV.asB (r9.1.getD 0 .u)).bind fun b10 =>
 ((bif (b10 == true) then
 ldI r9.2 (.n h.next) 0 fun n12 =>
 some ([(.b (decide (n12 >= 0)))], r9.2)
 else some ([(.b false)], r9.2)) : Option (List AV × AH O)).bind fun r13 =>
 (AV.asB (r13.1.getD 0 .u)).bind fun b14 =>
 ((bif (b14 == true) then
 ldI r13.2 (.n h.next) 0 fun n16 =>
 ldI r13.2 (.n h.next) 1 fun n18 =>
 some ([(.b (decide (n16 <= (IntKind.i64.wrap (64 - n18)))))], r13.2)
 else some ([(.b false)], r13.2)) : Option (List AV × AH O)).bind fun r19 =>
 (AV.asB (r19.1.getD 0 .u)).bind fun b20 =>
 some ((.b b20), r19.2)
 else none
def field_Right : Sm O := field_Right_c
theorem field_Right_ent : Entered Try.prog 120 := Try.call120
theorem field_Right_run : run (O := O) Try.prog [] Try.f120 (.n .z (.n (.g [(3, 3, [(10, .one .b)]), (8, 3, [(15, .one .b)]), (13, 6, [(23, .one .b)])]) .z)) = field_Right_c  := by kernel_rfl
theorem field_Right_sound : FSound RO Try.prog 120 field_Right := sdf field_Right_run (gnil) Try.func120 (by kernel_rfl)
def field_Mask_c (k120 : Sm O) : Sm O := fun xs h =>
 bif Nat.beq xs.length 1 then
 (AV.asAgg 2 (xs.getD 0 .u)).bind fun c0 =>
 gtI c0 0 fun n1 =>
 gtI c0 1 fun n2 =>
 let h3 := h.bump 1
 let h4 := h3.put h.next (.cells true 170 [(.i .i64 n1), (.i .i64 n2)])
 ldI h4 (.n h.next) 0 fun n6 =>
 ldI h4 (.n h.next) 1 fun n8 =>
 (k120 [(.agg [(.i .i64 n6), (.i .i64 n8)])] h4).bind fun r9 =>
 (AV.asB r9.1).bind fun b10 =>
 (bif (!b10) then
 some ((.i .u64 0), r9.2)
 else ldI r9.2 (.n h.next) 1 fun n12 =>
 (bif (decide ((IntKind.i64.wrap (64 - n12)) < 0)) then
 none
 else let v13 : Int := (Int.fdiv 18446744073709551615 (2 ^ min (IntKind.i64.wrap (64 - n12)).toNat 64))
 ldI r9.2 (.n h.next) 0 fun n15 =>
 (bif (decide (n15 < 0)) then
 none
 else some ((.i .u64 (IntKind.u64.wrap (v13 * 2 ^ min n15.toNat 64))), r9.2))))
 else none
def field_Mask : Sm O := field_Mask_c field_Right
theorem field_Mask_ent : Entered Try.prog 121 := Try.call121
theorem field_Mask_run (k120 : Sm O) : run (O := O) Try.prog [(120, k120)] Try.f121 (.n .z (.n (.n .z (.n .z .z)) (.n (.d [] [0, 1, 2, 3, 4, 5, 6, 7] [0, 1, 3, 7, 0, 16, 63, 127]) .z))) = field_Mask_c k120 := by kernel_rfl
theorem field_Mask_sound : FSound RO Try.prog 121 field_Mask := sdf (field_Mask_run _) (gcons field_Right_ent field_Right_sound <| gnil) Try.func121 (by kernel_rfl)
def field_Apart_L1 (l0 : SA × Nat) (k121 : Sm O) : List AV × AH O -> Option ((List AV × AH O) ⊕ ((List AV × AH O) ⊕ (AV × AH O))) := (fun r1 =>
 (AV.asI .u64 (r1.1.getD 0 .u)).bind fun n2 =>
 (AV.asI .i64 (r1.1.getD 1 .u)).bind fun n3 =>
 (bif (decide (n3 < (l0.2 : Int))) then
 let h4 := r1.2.bump 1
 (bif ((decide ((0 : Int) <= n3)) && (decide (n3 < (l0.2 : Int)))) then
 (SA.ref l0.1).bind fun q5 =>
 ldI h4 q5.1 (q5.2 + (n3.toNat * 2)) fun n7 =>
 ldI h4 q5.1 ((q5.2 + (n3.toNat * 2)) + 1) fun n9 =>
 let h10 := h4.put r1.2.next (.cells true 170 [(.i .i64 0), (.i .i64 0)])
 (h10.st (.n r1.2.next) 0 [(.i .i64 n7), (.i .i64 n9)]).bind fun h11 =>
 ldI h11 (.n r1.2.next) 0 fun n13 =>
 ldI h11 (.n r1.2.next) 1 fun n15 =>
 (k121 [(.agg [(.i .i64 n13), (.i .i64 n15)])] h11).bind fun r16 =>
 (AV.asI .u64 r16.1).bind fun n17 =>
 ((bif (((n17 : Int) == 0) == false) then
 some ([(.b (((ibits .and .u64 n2 n17) : Int) != 0))], r16.2)
 else some ([(.b true)], r16.2)) : Option (List AV × AH O)).bind fun r18 =>
 (AV.asB (r18.1.getD 0 .u)).bind fun b19 =>
 (bif b19 then
 ((some ((.b false), r18.2) : Option (AV × AH O)).map fun r => Sum.inr (Sum.inr r))
 else some (Sum.inl ([(.i .u64 (ibits .or .u64 n2 n17)), (.i .i64 (IntKind.i64.wrap (n3 + 1)))], r18.2)))
 else none)
 else some (Sum.inr (Sum.inl ([], r1.2)))))
def field_Apart_c (k121 : Sm O) : Sm O := fun xs h =>
 bif Nat.beq xs.length 1 then
 gtS xs 0 fun l0 =>
 bindS (S := List AV × AH O) (R := (AV × AH O)) (loopF (S := List AV × AH O) (T := (List AV × AH O) ⊕ (AV × AH O)) (field_Apart_L1 l0 k121) ([(.i .u64 0), (.i .i64 0)], h)) fun r20 =>
 some ((.b true), r20.2)
 else none
def field_Apart : Sm O := field_Apart_c field_Mask
theorem field_Apart_ent : Entered Try.prog 112 := Try.call112
theorem field_Apart_run (k121 : Sm O) : run (O := O) Try.prog [(121, k121)] Try.f112 (.n .z (.n .z (.n (.n .z (.n (.lp true 0 [(3, .one (.i .u64)), (9, .one (.i .i64))] [] (.n .z (.n .z (.n (.n (.n .z (.n .z (.n (.n (.g [(2, 4, [(22, .one .b)])]) (.n .z .z)) .z))) .z) .z)))) .z)) .z))) = field_Apart_c k121 := by kernel_rfl
theorem field_Apart_sound : FSound RO Try.prog 112 field_Apart := sdf (field_Apart_run _) (gcons field_Mask_ent field_Mask_sound <| gnil) Try.func112 (by kernel_rfl)
def bits_Len64_c : Sm O := fun xs h =>
 bif Nat.beq xs.length 1 then
 gtU xs 0 fun n0 =>
 ((bif (decide (n0 >= 4294967296)) then
 some ([(.i .u64 (Int.fdiv n0 (2 ^ 32))), (.i .i64 32)], h)
 else some ([(.i .u64 n0), (.i .i64 0)], h)) : Option (List AV × AH O)).bind fun r1 =>
 (AV.asI .u64 (r1.1.getD 0 .u)).bind fun n2 =>
 (AV.asI .i64 (r1.1.getD 1 .u)).bind fun n3 =>
 ((bif (decide (n2 >= 65536)) then
 some ([(.i .u64 (Int.fdiv n2 (2 ^ 16))), (.i .i64 (IntKind.i64.wrap (n3 + 16)))], r1.2)
 else some ([(.i .u64 n2), (.i .i64 n3)], r1.2)) : Option (List AV × AH O)).bind fun r4 =>
 (AV.asI .u64 (r4.1.getD 0 .u)).bind fun n5 =>
 (AV.asI .i64 (r4.1.getD 1 .u)).bind fun n6 =>
 ((bif (decide (n5 >= 256)) then
 some ([(.i .u64 (Int.fdiv n5 (2 ^ 8))), (.i .i64 (IntKind.i64.wrap (n6 + 8)))], r4.2)
 else some ([(.i .u64 n5), (.i .i64 n6)], r4.2)) : Option (List AV × AH O)).bind fun r7 =>
 (AV.asI .u64 (r7.1.getD 0 .u)).bind fun n8 =>
 (AV.asI .i64 (r7.1.getD 1 .u)).bind fun n9 =>
 (bif (decide ((0 : Int) <= (IntKind.u8.wrap n8))) then
 (([0, 1, 2, 2, 3, 3, 3, 3, 4, 4, 4, 4, 4, 4, 4, 4, 5, 5, 5, 5, 5, 5, 5, 5, 5, 5, 5, 5, 5, 5, 5, 5, 6, 6, 6, 6, 6, 6, 6, 6, 6, 6, 6, 6, 6, 6, 6, 6, 6, 6, 6, 6, 6, 6, 6, 6, 6, 6, 6, 6, 6, 6, 6, 6, 7, 7, 7, 7, 7, 7, 7, 7, 7, 7, 7, 7, 7, 7, 7, 7, 7, 7, 7, 7, 7, 7, 7, 7, 7, 7, 7, 7, 7, 7, 7, 7, 7, 7, 7, 7, 7, 7, 7, 7, 7, 7, 7, 7, 7, 7, 7, 7, 7, 7, 7, 7, 7, 7, 7, 7, 7, 7, 7, 7, 7, 7, 7, 7, 8, 8, 8, 8, 8, 8, 8, 8, 8, 8, 8, 8, 8, 8, 8, 8, 8, 8, 8, 8, 8, 8, 8, 8, 8, 8, 8, 8, 8, 8, 8, 8, 8, 8, 8, 8, 8, 8, 8, 8, 8, 8, 8, 8, 8, 8, 8, 8, 8, 8, 8, 8, 8, 8, 8, 8, 8, 8, 8, 8, 8, 8, 8, 8, 8, 8, 8, 8, 8, 8, 8, 8, 8, 8, 8, 8, 8, 8, 8, 8, 8, 8, 8, 8, 8, 8, 8, 8, 8, 8, 8, 8, 8, 8, 8, 8, 8, 8, 8, 8, 8, 8, 8, 8, 8, 8, 8, 8, 8, 8, 8, 8, 8, 8, 8, 8, 8, 8, 8, 8, 8, 8, 8, 8, 8, 8, 8, 8] : List UInt8)[(IntKind.u8.wrap n8).toNat]?).bind fun y10 =>
 let v11 : Int := (IntKind.i64.wrap (n9 + (IntKind.i64.wrap (y10.toNat : Int))))
 some ((.i .i64 v11), r7.2)
 else none)
 else none
def bits_Len64 : Sm O := bits_Len64_c
theorem bits_Len64_ent : Entered Try.prog 126 := Try.call126
theorem bits_Len64_run : run (O := O) Try.prog [] Try.f126 (.n .z (.n (.n .z (.j false [(0, .one (.i .u64)), (2, .one (.i .i64))] .z .z)) (.n (.n .z (.j false [(0, .one (.i .u64)), (2, .one (.i .i64))] .z .z)) (.n (.n .z (.j false [(0, .one (.i .u64)), (2, .one (.i .i64))] .z .z)) .z)))) = bits_Len64_c  := by kernel_rfl
theorem bits_Len64_sound : FSound RO Try.prog 126 bits_Len64 := sdf bits_Len64_run (gnil) Try.func126 (by kernel_rfl)
def field_Put_c (k120 k126 k121 : Sm O) : Sm O := fun xs h =>
 bif Nat.beq xs.length 3 then
 gtU xs 0 fun n0 =>
 (AV.asAgg 2 (xs.getD 1 .u)).bind fun c1 =>
 gtI c1 0 fun n2 =>
 gtI c1 1 fun n3 =>
 gtU xs 2 fun n4 =>
 let h5 := h.bump 1
 let h6 := h5.put h.next (.cells true 170 [(.i .i64 n2), (.i .i64 n3)])
 ldI h6 (.n h.next) 0 fun n8 =>
 ldI h6 (.n h.next) 1 fun n10 =>
 (k120 [(.agg [(.i .i64 n8), (.i .i64 n10)])] h6).bind fun r11 =>
 (AV.asB r11.1).bind fun b12 =>
 (bif (!b12) then
 some ((.tup [(.i .u64 0), (.i .i64 1)]), r11.2)
 else ldI r11.2 (.n h.next) 1 fun n14 =>
 (k126 [(.i .u64 n4)] r11.2).bind fun r15 =>
 (AV.asI .i64 r15.1).bind fun n16 =>
 (chkE (r15.2.ld (.n h.next) 1) (some (.i .i64 n14))).bind fun _ =>
 (bif (decide (n16 > n14)) then
 some ((.tup [(.i .u64 0), (.i .i64 2)]), r15.2)
 else ldI r15.2 (.n h.next) 0 fun n18 =>
 ldI r15.2 (.n h.next) 1 fun n20 =>
 ldI r15.2 (.n h.next) 0 fun n22 =>
 (bif (decide (n22 < 0)) then
 none
 else (k121 [(.agg [(.i .i64 n18), (.i .i64 n20)])] r15.2).bind fun r23 =>
 (AV.asI .u64 r23.1).bind fun n24 =>
 (chkE (r23.2.ld (.n h.next) 0) (some (.i .i64 n22))).bind fun _ =>
 let v25 : Int := (ibits .or .u64 (ibits .andNot .u64 n0 n24) (IntKind.u64.wrap (n4 * 2 ^ min n22.toNat 64)))
 some ((.tup [(.i .u64 v25), (.i .i64 0)]), r23.2))))
 else none
def field_Put : Sm O := field_Put_c field_Right bits_Len64 field_Mask
theorem field_Put_ent : Entered Try.prog 113 := Try.call113
theorem field_Put_run (k120 k126 k121 : Sm O) : run (O := O) Try.prog [(120, k120), (126, k126), (121, k121)] Try.f113 (.n .z (.n (.n (.n .z (.n .z (.n (.d [] [0, 2, 3, 1, 4, 5] [0, 1, 0, 4, 15, 31]) (.n .z .z)))) .z) (.n (.d [] [0, 1, 4, 5, 6, 7, 2, 3, 8, 9, 10] [0, 0, 2, 7, 0, 0, 32, 112, 255, 511, 1023]) .z))) = field_Put_c k120 k126 k121 := by kernel_rfl
theorem field_Put_sound : FSound RO Try.prog 113 field_Put := sdf (field_Put_run _ _ _) (gcons field_Right_ent field_Right_sound <| gcons bits_Len64_ent bits_Len64_sound <| gcons field_Mask_ent field_Mask_sound <| gnil) Try.func113 (by kernel_rfl)
def field_Pack_L1 (l0 : SA × Nat) (l1 : SA × Nat) (k113 : Sm O) : List AV × AH O -> Option ((List AV × AH O) ⊕ ((List AV × AH O) ⊕ (AV × AH O))) := (fun r6 =>
 (AV.asI .u64 (r6.1.getD 0 .u)).bind fun n7 =>
 (AV.asI .i64 (r6.1.getD 1 .u)).bind fun n8 =>
 (bif (decide (n8 < (l0.2 : Int))) then
 let h9 := r6.2.bump 1
 (bif ((decide ((0 : Int) <= n8)) && (decide (n8 < (l0.2 : Int)))) then
 (SA.ref l0.1).bind fun q10 =>
 ldI h9 q10.1 (q10.2 + (n8.toNat * 2)) fun n12 =>
 ldI h9 q10.1 ((q10.2 + (n8.toNat * 2)) + 1) fun n14 =>
 let h15 := h9.put r6.2.next (.cells true 170 [(.i .i64 0), (.i .i64 0)])
 (h15.st (.n r6.2.next) 0 [(.i .i64 n12), (.i .i64 n14)]).bind fun h16 =>
 ldI h16 (.n r6.2.next) 0 fun n18 =>
 ldI h16 (.n r6.2.next) 1 fun n20 =>
 (bif ((decide ((0 : Int) <= n8)) && (decide (n8 < (l1.2 : Int)))) then
 (SA.ref l1.1).bind fun q21 =>
 ldU h16 q21.1 (q21.2 + (n8.toNat * 1)) fun n23 =>
 (k113 [(.i .u64 n7), (.agg [(.i .i64 n18), (.i .i64 n20)]), (.i .u64 n23)] h16).bind fun r24 =>
 (AV.asTup 2 r24.1).bind fun c25 =>
 gtU c25 0 fun n26 =>
 gtI c25 1 fun n27 =>
 (bif ((n27 : Int) != 0) then
 ((some ((.tup [(.i .u64 0), (.i .i64 n27)]), r24.2) : Option (AV × AH O)).map fun r => Sum.inr (Sum.inr r))
 else some (Sum.inl ([(.i .u64 n26), (.i .i64 (IntKind.i64.wrap (n8 + 1)))], r24.2)))
 else none)
 else none)
 else some (Sum.inr (Sum.inl ([(.i .u64 n7)], r6.2)))))
def field_Pack_c (k112 k113 : Sm O) : Sm O := fun xs h =>
 bif Nat.beq xs.length 2 then
 gtS xs 0 fun l0 =>
 gtS xs 1 fun l1 =>
 (k112 [(.sl l0.1 l0.2)] h).bind fun r2 =>
 (AV.asB r2.1).bind fun b3 =>
 ((bif ((!b3) == false) then
 some ([(.b (((l0.2 : Int) : Int) != (l1.2 : Int)))], r2.2)
 else some ([(.b true)], r2.2)) : Option (List AV × AH O)).bind fun r4 =>
 (AV.asB (r4.1.getD 0 .u)).bind fun b5 =>
 (bif b5 then
 some ((.tup [(.i .u64 0), (.i .i64 1)]), r4.2)
 else bindS (S := List AV × AH O) (R := (AV × AH O)) (loopF (S := List AV × AH O) (T := (List AV × AH O) ⊕ (AV × AH O)) (field_Pack_L1 l0 l1 k113) ([(.i .u64 0), (.i .i64 0)], r4.2)) fun r28 =>
 (AV.asI .u64 (r28.1.getD 0 .u)).bind fun n29 =>
 some ((.tup [(.i .u64 n29), (.i .i64 0)]), r28.2))
 else none
def field_Pack : Sm O := field_Pack_c field_Apart field_Put
theorem field_Pack_ent : Entered Try.prog 94 := Try.call94
theorem field_Pack_run (k112 k113 : Sm O) : run (O := O) Try.prog [(112, k112), (113, k113)] Try.f94 (.n .z (.n (.n (.g [(3, 5, [(20, .one .b)])]) (.n .z .z)) (.n .z (.n (.n .z (.n (.lp true 0 [(6, .one (.i .u64)), (23, .one (.i .i64))] [(6, .one (.i .u64))] (.n .z (.n .z (.n (.n (.n .z (.n (.d [] [0, 1, 2, 3, 4, 5, 6, 7, 8, 9, 10, 11] [0, 0, 0, 0, 12, 28, 63, 127, 255, 255, 511, 2047]) (.n (.n .z (.n .z .z)) .z))) .z) .z)))) .z)) .z)))) = field_Pack_c k112 k113 := by kernel_rfl
theorem field_Pack_sound : FSound RO Try.prog 94 field_Pack := sdf (field_Pack_run _ _) (gcons field_Apart_ent field_Apart_sound <| gcons field_Put_ent field_Put_sound <| gnil) Try.func94 (by kernel_rfl)
def header_Pack_c (k62 k95 k94 : Sm O) : Sm O := fun xs h =>
 bif Nat.beq xs.length 1 then
 (AV.asAgg 5 (xs.getD 0 .u)).bind fun c0 =>
 gtI c0 0 fun n1 =>
 gtI c0 1 fun n2 =>
 gtI c0 2 fun n3 =>
 gtI c0 3 fun n4 =>
 (AV.asB (c0.getD 4 .u)).bind fun b5 =>
 let h6 := h.bump 1
 let h7 := h6.put h.next (.cells true 53 [(.i .i64 n1), (.i .i64 n2), (.i .i64 n3), (.i .i64 n4), (.b b5)])
 ldI h7 (.n h.next) 0 fun n9 =>
 ldI h7 (.n h.next) 1 fun n11 =>
 ldI h7 (.n h.next) 2 fun n13 =>
 ldI h7 (.n h.next) 3 fun n15 =>
 (h7.ld (.n h.next) 4).bind fun w16 =>
 (AV.asB w16).bind fun b17 =>
 (k62 [(.agg [(.i .i64 n9), (.i .i64 n11), (.i .i64 n13), (.i .i64 n15), (.b b17)])] h7).bind fun r18 =>
 (AV.asI .i64 r18.1).bind fun n19 =>
 (bif ((n19 : Int) != 0) then
 some ((.tup [(.i .u64 0), (.i .i64 n19)]), r18.2)
 else (r18.2.ld (.n h.next) 4).bind fun w20 =>
 (AV.asB w20).bind fun b21 =>
 ((bif b21 then
 some ([(.i .u64 1)], r18.2)
 else some ([(.i .u64 0)], r18.2)) : Option (List AV × AH O)).bind fun r22 =>
 (AV.asI .u64 (r22.1.getD 0 .u)).bind fun n23 =>
 let h24 := r22.2.bump 1
 ldI h24 (.n h.next) 0 fun n26 =>
 ldI h24 (.n h.next) 1 fun n28 =>
 ldI h24 (.n h.next) 2 fun n30 =>
 ldI h24 (.n h.next) 3 fun n32 =>
 (k95 [] h24).bind fun r33 =>
 (AV.asSl r33.1).bind fun l34 =>
 (chkE (r33.2.ld (.n h.next) 0) (some (.i .i64 n26))).bind fun _ =>
 (chkE (r33.2.ld (.n h.next) 1) (some (.i .i64 n28))).bind fun _ =>
 (chkE (r33.2.ld (.n h.next) 2) (some (.i .i64 n30))).bind fun _ =>
 (chkE (r33.2.ld (.n h.next) 3) (some (.i .i64 n32))).bind fun _ =>
 let h35 := r33.2.put r22.2.next (.cells true 54 [(.i .u64 (IntKind.u64.wrap n26)), (.i .u64 (IntKind.u64.wrap n28)), (.i .u64 (IntKind.u64.wrap n30)), (.i .u64 (IntKind.u64.wrap n32)), (.i .u64 n23), (.i .u64 1)])
 (k94 [(.sl l34.1 l34.2), (.sl (.loc (.n r22.2.next) 0 1) 6)] h35).bind fun r36 =>
 (AV.asTup 2 r36.1).bind fun c37 =>
 gtU c37 0 fun n38 =>
 gtI c37 1 fun n39 =>
 some ((.tup [(.i .u64 n38), (.i .i64 n39)]), r36.2))
 else none
def header_Pack : Sm O := header_Pack_c header_Check header_fields field_Pack
theorem header_Pack_ent : Entered Try.prog 49 := Try.call49
theorem header_Pack_run (k62 k95 k94 : Sm O) : run (O := O) Try.prog [(62, k62), (95, k95), (94, k94)] Try.f49 (.n .z (.n (.n .z (.n .z (.n .z .z))) (.n .z (.n (.n .z (.j false [(5, .one (.i .u64))] .z .z)) (.n (.d [] [1, 2, 3, 4, 5, 6, 7, 8, 9, 10, 11, 12, 13, 14, 15, 0, 16, 17, 18, 19, 20, 21] [0, 0, 2, 6, 14, 0, 32, 96, 224, 0, 512, 1536, 0, 4096, 12288, 0, 65534, 131071, 262143, 262143, 1048575, 2097151]) .z))))) = header_Pack_c k62 k95 k94 := by kernel_rfl
theorem header_Pack_sound : FSound RO Try.prog 49 header_Pack := sdf (header_Pack_run _ _ _) (gcons header_Check_ent header_Check_sound <| gcons header_fields_ent header_fields_sound <| gcons field_Pack_ent field_Pack_sound <| gnil) Try.func49 (by kernel_rfl)
def image_words_L1 (l0 : SA × Nat) : List AV × AH O -> Option ((List AV × AH O) ⊕ (List AV × AH O)) := (fun r3 =>
 (AV.asSl (r3.1.getD 0 .u)).bind fun l4 =>
 (AV.asI .i64 (r3.1.getD 1 .u)).bind fun n5 =>
 (bif (decide (n5 < (l0.2 : Int))) then
 (bif ((decide ((0 : Int) <= n5)) && (decide (n5 < (l0.2 : Int)))) then
 (SA.ref l0.1).bind fun q6 =>
 ldI r3.2 q6.1 (q6.2 + (n5.toNat * 1)) fun n8 =>
 let h9 := r3.2.bump 2
 let h10 := h9.put r3.2.next (.cells true 54 [(.i .u64 (IntKind.u64.wrap n8))])
 (h10.rdSl (.loc (.n r3.2.next) 0 1) 1 1).bind fun new11 =>
 (bif (Nat.ble ((l4.2 + 1) * 9) 35184372088832) then
 (h10.appSl (r3.2.next + 1) 54 1 l4.1 l4.2 1 new11).bind fun r12 =>
 (AV.asSl r12.1).bind fun l13 =>
 some (Sum.inl ([(.sl l13.1 l13.2), (.i .i64 (IntKind.i64.wrap (n5 + 1)))], r12.2))
 else none)
 else none)
 else some (Sum.inr ([(.sl l4.1 l4.2)], r3.2))))
def image_words_c : Sm O := fun xs h =>
 bif Nat.beq xs.length 1 then
 gtS xs 0 fun l0 =>
 let h1 := h.bump 1
 let h2 := h1.put h.next (.cells true 54 [(.i .u64 (IntKind.u64.wrap (l0.2 : Int)))])
 (loopF (S := List AV × AH O) (T := List AV × AH O) (image_words_L1 l0) ([(.sl (.loc (.n h.next) 0 1) 1), (.i .i64 0)], h2)).bind fun r14 =>
 (AV.asSl (r14.1.getD 0 .u)).bind fun l15 =>
 some ((.sl l15.1 l15.2), r14.2)
 else none
def image_words : Sm O := frz (image_words_c)
theorem image_words_ent : Entered Try.prog 50 := Try.call50
theorem image_words_run : run (O := O) Try.prog [] Try.f50 (.n .z (.n .z (.n (.n .z (.n (.lp false 0 [(3, .one .sl), (12, .one (.i .i64))] [(3, .one .sl)] (.n .z (.n .z (.n (.n .z .z) .z)))) .z)) .z))) = image_words_c  := by kernel_rfl
theorem image_words_sound : FSound RO Try.prog 50 (image_words) :=
   have h : FSound RO Try.prog 50 (image_words_c) := (image_words_run) ▸ run_sound (gnil) mixed Try.func50 (by kernel_rfl) _
   h.frz
def varint_Put_L1  : List AV × AH O -> Option ((List AV × AH O) ⊕ (List AV × AH O)) := (fun r7 =>
 (AV.asI .u64 (r7.1.getD 0 .u)).bind fun n8 =>
 (AV.asSl (r7.1.getD 1 .u)).bind fun l9 =>
 (bif (decide (n8 >= 128)) then
 let h10 := r7.2.bump 2
 let h11 := h10.put r7.2.next (.cells true 5 [(.i .u8 (ibits .or .u8 (IntKind.u8.wrap n8) 128))])
 (h11.rdSl (.loc (.n r7.2.next) 0 1) 1 1).bind fun new12 =>
 (bif (Nat.ble ((l9.2 + 1) * 2) 35184372088832) then
 (h11.appSl (r7.2.next + 1) 5 1 l9.1 l9.2 1 new12).bind fun r13 =>
 (AV.asSl r13.1).bind fun l14 =>
 some (Sum.inl ([(.i .u64 (Int.fdiv n8 (2 ^ 7))), (.sl l14.1 l14.2)], r13.2))
 else none)
 else some (Sum.inr ([(.i .u64 n8), (.sl l9.1 l9.2)], r7.2))))
def varint_Put_c : Sm O := fun xs h =>
 bif Nat.beq xs.length 2 then
 gtS xs 0 fun l0 =>
 gtU xs 1 fun n1 =>
 let h2 := h.bump 2
 let h3 := h2.put h.next (.cells true 5 [])
 (h3.rdSl l0.1 l0.2 1).bind fun new4 =>
 (bif (Nat.ble ((0 + l0.2) * 2) 35184372088832) then
 (h3.appSl (h.next + 1) 5 1 (.loc (.n h.next) 0 1) 0 l0.2 new4).bind fun r5 =>
 (AV.asSl r5.1).bind fun l6 =>
 (loopF (S := List AV × AH O) (T := List AV × AH O) (varint_Put_L1) ([(.i .u64 n1), (.sl l6.1 l6.2)], r5.2)).bind fun r15 =>
 (AV.asI .u64 (r15.1.getD 0 .u)).bind fun n16 =>
 (AV.asSl (r15.1.getD 1 .u)).bind fun l17 =>
 let h18 := r15.2.bump 2
 let h19 := h18.put r15.2.next (.cells true 5 [(.i .u8 (IntKind.u8.wrap n16))])
 (h19.rdSl (.loc (.n r15.2.next) 0 1) 1 1).bind fun new20 =>
 (bif (Nat.ble ((l17.2 + 1) * 2) 35184372088832) then
 (h19.appSl (r15.2.next + 1) 5 1 l17.1 l17.2 1 new20).bind fun r21 =>
 (AV.asSl r21.1).bind fun l22 =>
 some ((.sl l22.1 l22.2), r21.2)
 else none)
 else none)
 else none
def varint_Put : Sm O := varint_Put_c
theorem varint_Put_ent : Entered Try.prog 96 := Try.call96
theorem varint_Put_run : run (O := O) Try.prog [] Try.f96 (.n .z (.n .z (.n (.n (.lp false 0 [(1, .one (.i .u64)), (5, .one .sl)] [(1, .one (.i .u64)), (5, .one .sl)] (.n (.n .z .z) (.n .z .z))) .z) .z))) = varint_Put_c  := by kernel_rfl
theorem varint_Put_sound : FSound RO Try.prog 96 varint_Put := sdf varint_Put_run (gnil) Try.func96 (by kernel_rfl)
def varint_All_L1 (l0 : SA × Nat) (k96 : Sm O) : List AV × AH O -> Option ((List AV × AH O) ⊕ (List AV × AH O)) := (fun r1 =>
 (AV.asSl (r1.1.getD 0 .u)).bind fun l2 =>
 (AV.asI .i64 (r1.1.getD 1 .u)).bind fun n3 =>
 (bif (decide (n3 < (l0.2 : Int))) then
 (bif ((decide ((0 : Int) <= n3)) && (decide (n3 < (l0.2 : Int)))) then
 (SA.ref l0.1).bind fun q4 =>
 ldU r1.2 q4.1 (q4.2 + (n3.toNat * 1)) fun n6 =>
 (k96 [(.sl l2.1 l2.2), (.i .u64 n6)] r1.2).bind fun r7 =>
 (AV.asSl r7.1).bind fun l8 =>
 some (Sum.inl ([(.sl l8.1 l8.2), (.i .i64 (IntKind.i64.wrap (n3 + 1)))], r7.2))
 else none)
 else some (Sum.inr ([(.sl l2.1 l2.2)], r1.2))))
def varint_All_c (k96 : Sm O) : Sm O := fun xs h =>
 bif Nat.beq xs.length 1 then
 gtS xs 0 fun l0 =>
 (loopF (S := List AV × AH O) (T := List AV × AH O) (varint_All_L1 l0 k96) ([(.sl .nil 0), (.i .i64 0)], h)).bind fun r9 =>
 (AV.asSl (r9.1.getD 0 .u)).bind fun l10 =>
 some ((.sl l10.1 l10.2), r9.2)
 else none
def varint_All : Sm O := frz (varint_All_c varint_Put)
theorem varint_All_ent : Entered Try.prog 52 := Try.call52
theorem varint_All_run (k96 : Sm O) : run (O := O) Try.prog [(96, k96)] Try.f52 (.n .z (.n .z (.n (.n .z (.n (.lp false 0 [(3, .one .sl), (8, .one (.i .i64))] [(3, .one .sl)] (.n .z (.n .z (.n (.n .z .z) .z)))) .z)) .z))) = varint_All_c k96 := by kernel_rfl
theorem varint_All_sound : FSound RO Try.prog 52 (varint_All) :=
   have h : FSound RO Try.prog 52 (varint_All_c varint_Put) := (varint_All_run varint_Put) ▸ run_sound (gcons varint_Put_ent (varint_Put_sound) <| gnil) mixed Try.func52 (by kernel_rfl) _
   h.frz
def crc_step_L1  : List AV × AH O -> Option ((List AV × AH O) ⊕ (List AV × AH O)) := (fun r3 =>
 (AV.asI .u64 (r3.1.getD 0 .u)).bind fun n4 =>
 (AV.asI .i64 (r3.1.getD 1 .u)).bind fun n5 =>
 (bif (decide (n5 < 8)) then
 let v6 : Int := (ibits .and .u64 4823603603198064275 (IntKind.u64.wrap (0 - (Int.fdiv n4 (2 ^ 63)))))
 let v7 : Int := (ibits .xor .u64 (IntKind.u64.wrap (n4 * 2 ^ 1)) v6)
 some (Sum.inl ([(.i .u64 v7), (.i .i64 (IntKind.i64.wrap (n5 + 1)))], r3.2))
 else some (Sum.inr ([(.i .u64 n4)], r3.2))))
def crc_step_c : Sm O := fun xs h =>
 bif Nat.beq xs.length 2 then
 gtU xs 0 fun n0 =>
 (AV.asI .u8 (xs.getD 1 .u)).bind fun n1 =>
 let v2 : Int := (IntKind.u64.wrap ((IntKind.u64.wrap n1) * 2 ^ 56))
 (loopF (S := List AV × AH O) (T := List AV × AH O) (crc_step_L1) ([(.i .u64 (ibits .xor .u64 n0 v2)), (.i .i64 0)], h)).bind fun r8 =>
 (AV.asI .u64 (r8.1.getD 0 .u)).bind fun n9 =>
 some ((.i .u64 n9), r8.2)
 else none
def crc_step : Sm O := crc_step_c
theorem crc_step_ent : Entered Try.prog 107 := Try.call107
theorem crc_step_run : run (O := O) Try.prog [] Try.f107 (.n .z (.n .z (.n (.n .z (.n (.lp false 0 [(0, .one (.i .u64)), (11, .one (.i .i64))] [(0, .one (.i .u64))] (.n .z (.n .z (.n (.n .z .z) .z)))) .z)) .z))) = crc_step_c  := by kernel_rfl
theorem crc_step_sound : FSound RO Try.prog 107 crc_step := sdf crc_step_run (gnil) Try.func107 (by kernel_rfl)
def crc_More_L1 (l1 : SA × Nat) (k107 : Sm O) : List AV × AH O -> Option ((List AV × AH O) ⊕ (List AV × AH O)) := (fun r2 =>
 (AV.asI .u64 (r2.1.getD 0 .u)).bind fun n3 =>
 (AV.asI .i64 (r2.1.getD 1 .u)).bind fun n4 =>
 (bif (decide (n4 < (l1.2 : Int))) then
 (bif ((decide ((0 : Int) <= n4)) && (decide (n4 < (l1.2 : Int)))) then
 (SA.ref l1.1).bind fun q5 =>
 (r2.2.ld q5.1 (q5.2 + (n4.toNat * 1))).bind fun w6 =>
 (AV.asI .u8 w6).bind fun n7 =>
 (k107 [(.i .u64 n3), (.i .u8 n7)] r2.2).bind fun r8 =>
 (AV.asI .u64 r8.1).bind fun n9 =>
 some (Sum.inl ([(.i .u64 n9), (.i .i64 (IntKind.i64.wrap (n4 + 1)))], r8.2))
 else none)
 else some (Sum.inr ([(.i .u64 n3)], r2.2))))
def crc_More_c (k107 : Sm O) : Sm O := fun xs h =>
 bif Nat.beq xs.length 2 then
 gtU xs 0 fun n0 =>
 gtS xs 1 fun l1 =>
 (loopF (S := List AV × AH O) (T := List AV × AH O) (crc_More_L1 l1 k107) ([(.i .u64 n0), (.i .i64 0)], h)).bind fun r10 =>
 (AV.asI .u64 (r10.1.getD 0 .u)).bind fun n11 =>
 some ((.i .u64 n11), r10.2)
 else none
def crc_More : Sm O := crc_More_c crc_step
theorem crc_More_ent : Entered Try.prog 81 := Try.call81
theorem crc_More_run (k107 : Sm O) : run (O := O) Try.prog [(107, k107)] Try.f81 (.n .z (.n (.n .z (.n (.lp false 0 [(0, .one (.i .u64)), (9, .one (.i .i64))] [(0, .one (.i .u64))] (.n .z (.n .z (.n (.n .z .z) .z)))) .z)) .z)) = crc_More_c k107 := by kernel_rfl
theorem crc_More_sound : FSound RO Try.prog 81 crc_More := sdf (crc_More_run _) (gcons crc_step_ent crc_step_sound <| gnil) Try.func81 (by kernel_rfl)
def crc_Sum_L1 (l0 : SA × Nat) (k81 : Sm O) : List AV × AH O -> Option ((List AV × AH O) ⊕ (List AV × AH O)) := (fun r1 =>
 (AV.asI .u64 (r1.1.getD 0 .u)).bind fun n2 =>
 (AV.asI .i64 (r1.1.getD 1 .u)).bind fun n3 =>
 (bif (decide (n3 < (l0.2 : Int))) then
 (bif ((decide ((0 : Int) <= n3)) && (decide (n3 < (l0.2 : Int)))) then
 (SA.ref l0.1).bind fun q4 =>
 ldS r1.2 q4.1 (q4.2 + (n3.toNat * 1)) fun l6 =>
 (k81 [(.i .u64 n2), (.sl l6.1 l6.2)] r1.2).bind fun r7 =>
 (AV.asI .u64 r7.1).bind fun n8 =>
 some (Sum.inl ([(.i .u64 n8), (.i .i64 (IntKind.i64.wrap (n3 + 1)))], r7.2))
 else none)
 else some (Sum.inr ([(.i .u64 n2)], r1.2))))
def crc_Sum_c (k81 : Sm O) : Sm O := fun xs h =>
 bif Nat.beq xs.length 1 then
 gtS xs 0 fun l0 =>
 (loopF (S := List AV × AH O) (T := List AV × AH O) (crc_Sum_L1 l0 k81) ([(.i .u64 0), (.i .i64 0)], h)).bind fun r9 =>
 (AV.asI .u64 (r9.1.getD 0 .u)).bind fun n10 =>
 some ((.i .u64 n10), r9.2)
 else none
def crc_Sum : Sm O := crc_Sum_c crc_More
theorem crc_Sum_ent : Entered Try.prog 82 := Try.call82
theorem crc_Sum_run (k81 : Sm O) : run (O := O) Try.prog [(81, k81)] Try.f82 (.n .z (.n .z (.n (.n .z (.n (.lp false 0 [(3, .one (.i .u64)), (8, .one (.i .i64))] [(3, .one (.i .u64))] (.n .z (.n .z (.n (.n .z .z) .z)))) .z)) .z))) = crc_Sum_c k81 := by kernel_rfl
theorem crc_Sum_sound : FSound RO Try.prog 82 crc_Sum := sdf (crc_Sum_run _) (gcons crc_More_ent crc_More_sound <| gnil) Try.func82 (by kernel_rfl)
def crc_Seal_L1 (n9 : Int) : List AV × AH O -> Option ((List AV × AH O) ⊕ (List AV × AH O)) := (fun r10 =>
 (AV.asSl (r10.1.getD 0 .u)).bind fun l11 =>
 (AV.asI .i64 (r10.1.getD 1 .u)).bind fun n12 =>
 (bif (decide (n12 < 8)) then
 let h13 := r10.2.bump 2
 let v14 : Int := (IntKind.i64.wrap (56 - (IntKind.i64.wrap (8 * n12))))
 (bif (decide (v14 < 0)) then
 none
 else let v15 : Int := (IntKind.u8.wrap (Int.fdiv n9 (2 ^ min v14.toNat 64)))
 let h16 := h13.put r10.2.next (.cells true 5 [(.i .u8 v15)])
 (h16.rdSl (.loc (.n r10.2.next) 0 1) 1 1).bind fun new17 =>
 (bif (Nat.ble ((l11.2 + 1) * 2) 35184372088832) then
 (h16.appSl (r10.2.next + 1) 5 1 l11.1 l11.2 1 new17).bind fun r18 =>
 (AV.asSl r18.1).bind fun l19 =>
 some (Sum.inl ([(.sl l19.1 l19.2), (.i .i64 (IntKind.i64.wrap (n12 + 1)))], r18.2))
 else none))
 else some (Sum.inr ([(.sl l11.1 l11.2)], r10.2))))
def crc_Seal_c (k82 : Sm O) : Sm O := fun xs h =>
 bif Nat.beq xs.length 1 then
 gtS xs 0 fun l0 =>
 let h1 := h.bump 2
 let h2 := h1.put h.next (.cells true 5 [])
 (h2.rdSl l0.1 l0.2 1).bind fun new3 =>
 (bif (Nat.ble ((0 + l0.2) * 2) 35184372088832) then
 (h2.appSl (h.next + 1) 5 1 (.loc (.n h.next) 0 1) 0 l0.2 new3).bind fun r4 =>
 (AV.asSl r4.1).bind fun l5 =>
 let h6 := r4.2.bump 1
 let h7 := h6.put r4.2.next (.cells true 22 [(.sl l0.1 l0.2)])
 (k82 [(.sl (.loc (.n r4.2.next) 0 1) 1)] h7).bind fun r8 =>
 (AV.asI .u64 r8.1).bind fun n9 =>
 (loopF (S := List AV × AH O) (T := List AV × AH O) (crc_Seal_L1 n9) ([(.sl l5.1 l5.2), (.i .i64 0)], r8.2)).bind fun r20 =>
 (AV.asSl (r20.1.getD 0 .u)).bind fun l21 =>
 some ((.sl l21.1 l21.2), r20.2)
 else none)
 else none
def crc_Seal : Sm O := frz (crc_Seal_c crc_Sum)
theorem crc_Seal_ent : Entered Try.prog 51 := Try.call51
theorem crc_Seal_run (k82 : Sm O) : run (O := O) Try.prog [(82, k82)] Try.f51 (.n .z (.n .z (.n .z (.n (.n .z (.n (.lp false 0 [(3, .one .sl), (12, .one (.i .i64))] [(3, .one .sl)] (.n .z (.n .z (.n (.n .z .z) .z)))) .z)) .z)))) = crc_Seal_c k82 := by kernel_rfl
theorem crc_Seal_sound : FSound RO Try.prog 51 (crc_Seal) :=
   have h : FSound RO Try.prog 51 (crc_Seal_c crc_Sum) := (crc_Seal_run crc_Sum) ▸ run_sound (gcons crc_Sum_ent (crc_Sum_sound) <| gnil) mixed Try.func51 (by kernel_rfl) _
   h.frz
def image_Put_L2 (l61 : SA × Nat) : List AV × AH O -> Option ((List AV × AH O) ⊕ (List AV × AH O)) := (fun r62 =>
 (AV.asSl (r62.1.getD 0 .u)).bind fun l63 =>
 (AV.asI .i64 (r62.1.getD 1 .u)).bind fun n64 =>
 (bif (decide (n64 < (l61.2 : Int))) then
 (bif ((decide ((0 : Int) <= n64)) && (decide (n64 < (l61.2 : Int)))) then
 (SA.ref l61.1).bind fun q65 =>
 ldI r62.2 q65.1 (q65.2 + (n64.toNat * 1)) fun n67 =>
 let h68 := r62.2.bump 2
 let h69 := h68.put r62.2.next (.cells true 54 [(.i .u64 (IntKind.u64.wrap n67))])
 (h69.rdSl (.loc (.n r62.2.next) 0 1) 1 1).bind fun new70 =>
 (bif (Nat.ble ((l63.2 + 1) * 9) 35184372088832) then
 (h69.appSl (r62.2.next + 1) 54 1 l63.1 l63.2 1 new70).bind fun r71 =>
 (AV.asSl r71.1).bind fun l72 =>
 some (Sum.inl ([(.sl l72.1 l72.2), (.i .i64 (IntKind.i64.wrap (n64 + 1)))], r71.2))
 else none)
 else none)
 else some (Sum.inr ([(.sl l63.1 l63.2)], r62.2))))
def image_Put_L1 (l19 : SA × Nat) (k49 : Sm O) : List AV × AH O -> Option ((List AV × AH O) ⊕ (List AV × AH O)) := (fun r20 =>
 (AV.asSl (r20.1.getD 0 .u)).bind fun l21 =>
 (AV.asI .i64 (r20.1.getD 1 .u)).bind fun n22 =>
 (bif (decide (n22 < (l19.2 : Int))) then
 let h23 := r20.2.bump 1
 (bif ((decide ((0 : Int) <= n22)) && (decide (n22 < (l19.2 : Int)))) then
 (SA.ref l19.1).bind fun q24 =>
 ldI h23 q24.1 (q24.2 + (n22.toNat * 7)) fun n26 =>
 ldI h23 q24.1 ((q24.2 + (n22.toNat * 7)) + 1) fun n28 =>
 ldI h23 q24.1 (((q24.2 + (n22.toNat * 7)) + 1) + 1) fun n30 =>
 ldI h23 q24.1 ((((q24.2 + (n22.toNat * 7)) + 1) + 1) + 1) fun n32 =>
 (h23.ld q24.1 (((((q24.2 + (n22.toNat * 7)) + 1) + 1) + 1) + 1)).bind fun w33 =>
 (AV.asB w33).bind fun b34 =>
 ldS h23 q24.1 ((((((q24.2 + (n22.toNat * 7)) + 1) + 1) + 1) + 1) + 1) fun l36 =>
 ldS h23 q24.1 (((((((q24.2 + (n22.toNat * 7)) + 1) + 1) + 1) + 1) + 1) + 1) fun l38 =>
 let h39 := h23.put r20.2.next (.cells true 89 [(.i .i64 0), (.i .i64 0), (.i .i64 0), (.i .i64 0), (.b false), (.sl .nil 0), (.sl .nil 0)])
 (h39.st (.n r20.2.next) 0 [(.i .i64 n26), (.i .i64 n28), (.i .i64 n30), (.i .i64 n32), (.b b34), (.sl l36.1 l36.2), (.sl l38.1 l38.2)]).bind fun h40 =>
 ldI h40 (.n r20.2.next) 0 fun n42 =>
 ldI h40 (.n r20.2.next) 1 fun n44 =>
 ldI h40 (.n r20.2.next) 2 fun n46 =>
 ldI h40 (.n r20.2.next) 3 fun n48 =>
 (h40.ld (.n r20.2.next) 4).bind fun w49 =>
 (AV.asB w49).bind fun b50 =>
 (k49 [(.agg [(.i .i64 n42), (.i .i64 n44), (.i .i64 n46), (.i .i64 n48), (.b b50)])] h40).bind fun r51 =>
 (AV.asTup 2 r51.1).bind fun c52 =>
 gtU c52 0 fun n53 =>
 gtI c52 1 fun n54 =>
 let h55 := r51.2.bump 2
 let h56 := h55.put r51.2.next (.cells true 54 [(.i .u64 n53)])
 (h56.rdSl (.loc (.n r51.2.next) 0 1) 1 1).bind fun new57 =>
 (bif (Nat.ble ((l21.2 + 1) * 9) 35184372088832) then
 (h56.appSl (r51.2.next + 1) 54 1 l21.1 l21.2 1 new57).bind fun r58 =>
 (AV.asSl r58.1).bind fun l59 =>
 ldS r58.2 (.n r20.2.next) 5 fun l61 =>
 (loopF (S := List AV × AH O) (T := List AV × AH O) (image_Put_L2 l61) ([(.sl l59.1 l59.2), (.i .i64 0)], r58.2)).bind fun r73 =>
 (AV.asSl (r73.1.getD 0 .u)).bind fun l74 =>
 let h75 := r73.2.bump 1
 ldS h75 (.n r20.2.next) 6 fun l77 =>
 (h75.rdSl l77.1 l77.2 1).bind fun new78 =>
 (bif (Nat.ble ((l74.2 + l77.2) * 9) 35184372088832) then
 (h75.appSl r73.2.next 54 1 l74.1 l74.2 l77.2 new78).bind fun r79 =>
 (AV.asSl r79.1).bind fun l80 =>
 some (Sum.inl ([(.sl l80.1 l80.2), (.i .i64 (IntKind.i64.wrap (n22 + 1)))], r79.2))
 else none)
 else none)
 else none)
 else some (Sum.inr ([(.sl l21.1 l21.2)], r20.2))))
def image_Put_c (k44 k49 k50 k52 k51 : Sm O) : Sm O := fun xs h =>
 bif Nat.beq xs.length 1 then
 (AV.asAgg 3 (xs.getD 0 .u)).bind fun c0 =>
 gtS c0 0 fun l1 =>
 gtS c0 1 fun l2 =>
 gtS c0 2 fun l3 =>
 let h4 := h.bump 1
 let h5 := h4.put h.next (.cells true 27 [(.sl l1.1 l1.2), (.sl l2.1 l2.2), (.sl l3.1 l3.2)])
 ldS h5 (.n h.next) 0 fun l7 =>
 ldS h5 (.n h.next) 1 fun l9 =>
 ldS h5 (.n h.next) 2 fun l11 =>
 (k44 [(.agg [(.sl l7.1 l7.2), (.sl l9.1 l9.2), (.sl l11.1 l11.2)])] h5).bind fun r12 =>
 (AV.asB r12.1).bind fun b13 =>
 (bif (!b13) then
 some ((.sl .nil 0), r12.2)
 else let h14 := r12.2.bump 1
 ldS h14 (.n h.next) 0 fun l16 =>
 let h17 := h14.put r12.2.next (.cells true 54 [(.i .u64 (IntKind.u64.wrap (l16.2 : Int)))])
 ldS h17 (.n h.next) 0 fun l19 =>
 (loopF (S := List AV × AH O) (T := List AV × AH O) (image_Put_L1 l19 k49) ([(.sl (.loc (.n r12.2.next) 0 1) 1), (.i .i64 0)], h17)).bind fun r81 =>
 (AV.asSl (r81.1.getD 0 .u)).bind fun l82 =>
 let h83 := r81.2.bump 1
 ldS h83 (.n h.next) 1 fun l85 =>
 (k50 [(.sl l85.1 l85.2)] h83).bind fun r86 =>
 (AV.asSl r86.1).bind fun l87 =>
 (r86.2.rdSl l87.1 l87.2 1).bind fun new88 =>
 (bif (Nat.ble ((l82.2 + l87.2) * 9) 35184372088832) then
 (r86.2.appSl r81.2.next 54 1 l82.1 l82.2 l87.2 new88).bind fun r89 =>
 (AV.asSl r89.1).bind fun l90 =>
 let h91 := r89.2.bump 1
 ldS h91 (.n h.next) 2 fun l93 =>
 (k50 [(.sl l93.1 l93.2)] h91).bind fun r94 =>
 (AV.asSl r94.1).bind fun l95 =>
 (r94.2.rdSl l95.1 l95.2 1).bind fun new96 =>
 (bif (Nat.ble ((l90.2 + l95.2) * 9) 35184372088832) then
 (r94.2.appSl r89.2.next 54 1 l90.1 l90.2 l95.2 new96).bind fun r97 =>
 (AV.asSl r97.1).bind fun l98 =>
 (k52 [(.sl l98.1 l98.2)] r97.2).bind fun r99 =>
 (AV.asSl r99.1).bind fun l100 =>
 (k51 [(.sl l100.1 l100.2)] r99.2).bind fun r101 =>
 (AV.asSl r101.1).bind fun l102 =>
 some ((.sl l102.1 l102.2), r101.2)
 else none)
 else none))
 else none
def image_Put : Sm O := frz (image_Put_c canon_Right header_Pack image_words varint_All crc_Seal)
theorem image_Put_ent : Entered Try.prog 13 := Try.call13
theorem image_Put_run (k44 k49 k50 k52 k51 : Sm O) : run (O := O) Try.prog [(44, k44), (49, k49), (50, k50), (52, k52), (51, k51)] Try.f13 (.n .z (.n (.n .z (.n .z .z)) (.n .z (.n (.n .z (.n (.lp false 0 [(3, .one .sl), (21, .one (.i .i64))] [(3, .one .sl)] (.n .z (.n .z (.n (.n (.n .z (.n .z (.n .z (.n (.n .z (.n (.lp false 2 [(3, .one .sl), (38, .one (.i .i64))] [(3, .one .sl)] (.n .z (.n .z (.n (.n .z .z) .z)))) .z)) .z)))) .z) .z)))) .z)) (.n .z .z))))) = image_Put_c k44 k49 k50 k52 k51 := by kernel_rfl
theorem image_Put_sound : FSound RO Try.prog 13 (image_Put) :=
   have h : FSound RO Try.prog 13 (image_Put_c canon_Right header_Pack image_words varint_All crc_Seal) := (image_Put_run canon_Right header_Pack image_words varint_All crc_Seal) ▸ run_sound (gcons canon_Right_ent (canon_Right_sound) <| gcons header_Pack_ent (header_Pack_sound) <| gcons image_words_ent (image_words_sound) <| gcons varint_All_ent (varint_All_sound) <| gcons crc_Seal_ent (crc_Seal_sound) <| gnil) mixed Try.func13 (by kernel_rfl) _
   h.frz
def crc_Open_c (k82 k81 : Sm O) : Sm O := fun xs h =>
 bif Nat.beq xs.length 1 then
 gtS xs 0 fun l0 =>
 let c1 : Bool := (decide ((IntKind.i64.wrap ((l0.2 : Int) - 8)) < 0))
 (bif c1 then
 some ((.tup [(.sl .nil 0), (.i .i64 6)]), h)
 else let h2 := h.bump 1
 (bif ((decide ((0 : Int) <= (IntKind.i64.wrap ((l0.2 : Int) - 8)))) && (decide ((IntKind.i64.wrap ((l0.2 : Int) - 8)) <= (l0.2 : Int)))) then
 (SA.adv l0.1 0 1).bind fun a3 =>
 (bif (((decide ((0 : Int) <= (IntKind.i64.wrap ((l0.2 : Int) - 8)))) && (decide ((IntKind.i64.wrap ((l0.2 : Int) - 8)) <= (l0.2 : Int)))) && (decide ((l0.2 : Int) <= (l0.2 : Int)))) then
 (SA.adv l0.1 (IntKind.i64.wrap ((l0.2 : Int) - 8)).toNat 1).bind fun a4 =>
 let h5 := h2.put h.next (.cells true 22 [(.sl a3 ((IntKind.i64.wrap ((l0.2 : Int) - 8)).toNat - 0))])
 (k82 [(.sl (.loc (.n h.next) 0 1) 1)] h5).bind fun r6 =>
 (AV.asI .u64 r6.1).bind fun n7 =>
 (k81 [(.i .u64 n7), (.sl a4 ((l0.2 : Int).toNat - (IntKind.i64.wrap ((l0.2 : Int) - 8)).toNat))] r6.2).bind fun r8 =>
 (AV.asI .u64 r8.1).bind fun n9 =>
 (bif ((n9 : Int) != 0) then
 some ((.tup [(.sl .nil 0), (.i .i64 60)]), r8.2)
 else let h10 := r8.2.bump 2
 let h11 := h10.put r8.2.next (.cells true 5 [])
 (bif ((decide ((0 : Int) <= (IntKind.i64.wrap ((l0.2 : Int) - 8)))) && (decide ((IntKind.i64.wrap ((l0.2 : Int) - 8)) <= (l0.2 : Int)))) then
 (SA.adv l0.1 0 1).bind fun a12 =>
 (h11.rdSl a12 ((IntKind.i64.wrap ((l0.2 : Int) - 8)).toNat - 0) 1).bind fun new13 =>
 (bif (Nat.ble ((0 + ((IntKind.i64.wrap ((l0.2 : Int) - 8)).toNat - 0)) * 2) 35184372088832) then
 (h11.appSl (r8.2.next + 1) 5 1 (.loc (.n r8.2.next) 0 1) 0 ((IntKind.i64.wrap ((l0.2 : Int) - 8)).toNat - 0) new13).bind fun r14 =>
 (AV.asSl r14.1).bind fun l15 =>
 some ((.tup [(.sl l15.1 l15.2), (.i .i64 0)]), r14.2)
 else none)
 else none))
 else none)
 else none))
 else none
def crc_Open : Sm O := frz (crc_Open_c crc_Sum crc_More)
theorem crc_Open_ent : Entered Try.prog 39 := Try.call39
theorem crc_Open_run (k82 k81 : Sm O) : run (O := O) Try.prog [(82, k82), (81, k81)] Try.f39 (.n .z (.n .z (.n (.n .z (.n .z .z)) (.n (.n (.d [] [0, 1, 2, 5, 6, 7, 3, 4, 8, 9] [0, 0, 3, 7, 15, 0, 0, 96, 255, 511]) (.n .z .z)) .z)))) = crc_Open_c k82 k81 := by kernel_rfl
theorem crc_Open_sound : FSound RO Try.prog 39 (crc_Open) :=
   have h : FSound RO Try.prog 39 (crc_Open_c crc_Sum crc_More) := (crc_Open_run crc_Sum crc_More) ▸ run_sound (gcons crc_Sum_ent (crc_Sum_sound) <| gcons crc_More_ent (crc_More_sound) <| gnil) mixed Try.func39 (by kernel_rfl) _
   h.frz
def varint_Get_L1 (l0 : SA × Nat) : List AV × AH O -> Option ((List AV × AH O) ⊕ ((List AV × AH O) ⊕ (AV × AH O))) := (fun r1 =>
 (AV.asI .u64 (r1.1.getD 0 .u)).bind fun n2 =>
 (AV.asI .i64 (r1.1.getD 1 .u)).bind fun n3 =>
 (bif (decide (n3 < (l0.2 : Int))) then
 (bif ((decide ((0 : Int) <= n3)) && (decide (n3 < (l0.2 : Int)))) then
 (SA.ref l0.1).bind fun q4 =>
 (r1.2.ld q4.1 (q4.2 + (n3.toNat * 1))).bind fun w5 =>
 (AV.asI .u8 w5).bind fun n6 =>
 ((bif (((n3 : Int) == 9) == true) then
 let c7 : Bool := (decide ((IntKind.u64.wrap (ibits .andNot .u8 n6 128)) > 1))
 some ([(.b c7)], r1.2)
 else some ([(.b false)], r1.2)) : Option (List AV × AH O)).bind fun r8 =>
 (AV.asB (r8.1.getD 0 .u)).bind fun b9 =>
 ((bif (b9 == false) then
 some ([(.b ((n3 : Int) == 10))], r8.2)
 else some ([(.b true)], r8.2)) : Option (List AV × AH O)).bind fun r10 =>
 (AV.asB (r10.1.getD 0 .u)).bind fun b11 =>
 (bif b11 then
 ((some ((.tup [(.i .u64 0), (.i .i64 0), (.i .i64 7)]), r10.2) : Option (AV × AH O)).map fun r => Sum.inr (Sum.inr r))
 else (bif (decide ((IntKind.i64.wrap (7 * n3)) < 0)) then
 none
 else let v12 : Int := (IntKind.u64.wrap ((IntKind.u64.wrap (ibits .andNot .u8 n6 128)) * 2 ^ min (IntKind.i64.wrap (7 * n3)).toNat 64))
 (bif (((ibits .and .u8 n6 128) : Int) != 0) then
 some (Sum.inl ([(.i .u64 (ibits .or .u64 n2 v12)), (.i .i64 (IntKind.i64.wrap (n3 + 1)))], r10.2))
 else ((bif ((decide (n3 > 0)) == true) then
 some ([(.b ((n6 : Int) == 0))], r10.2)
 else some ([(.b false)], r10.2)) : Option (List AV × AH O)).bind fun r13 =>
 (AV.asB (r13.1.getD 0 .u)).bind fun b14 =>
 (bif b14 then
 ((some ((.tup [(.i .u64 0), (.i .i64 0), (.i .i64 5)]), r13.2) : Option (AV × AH O)).map fun r => Sum.inr (Sum.inr r))
 else ((some ((.tup [(.i .u64 (ibits .or .u64 n2 v12)), (.i .i64 (IntKind.i64.wrap (n3 + 1))), (.i .i64 0)]), r13.2) : Option (AV × AH O)).map fun r => Sum.inr (Sum.inr r))))))
 else none)
 else some (Sum.inr (Sum.inl ([], r1.2)))))
def varint_Get_c : Sm O := fun xs h =>
 bif Nat.beq xs.length 1 then
 gtS xs 0 fun l0 =>
 bindS (S := List AV × AH O) (R := (AV × AH O)) (loopF (S := List AV × AH O) (T := (List AV × AH O) ⊕ (AV × AH O)) (varint_Get_L1 l0) ([(.i .u64 0), (.i .i64 0)], h)) fun r15 =>
 some ((.tup [(.i .u64 0), (.i .i64 0), (.i .i64 6)]), r15.2)
 else none
def varint_Get : Sm O := varint_Get_c
theorem varint_Get_ent : Entered Try.prog 83 := Try.call83
theorem varint_Get_run : run (O := O) Try.prog [] Try.f83 (.n .z (.n .z (.n (.n .z (.n (.lp true 0 [(5, .one (.i .u64)), (11, .one (.i .i64))] [] (.n .z (.n .z (.n (.n (.n .z (.n .z (.n (.n (.g [(2, 2, [(24, .one .b)]), (6, 2, [(28, .one .b)])]) (.n .z .z)) (.n .z (.n (.n .z .z) (.n (.n (.g [(2, 2, [(43, .one .b)])]) (.n .z .z)) .z)))))) .z) .z)))) .z)) .z))) = varint_Get_c  := by kernel_rfl
theorem varint_Get_sound : FSound RO Try.prog 83 varint_Get := sdf varint_Get_run (gnil) Try.func83 (by kernel_rfl)
def varint_Split_L1 (l0 : SA × Nat) (k83 : Sm O) : List AV × AH O -> Option ((List AV × AH O) ⊕ ((List AV × AH O) ⊕ (AV × AH O))) := (fun r1 =>
 (AV.asSl (r1.1.getD 0 .u)).bind fun l2 =>
 (AV.asI .i64 (r1.1.getD 1 .u)).bind fun n3 =>
 (bif (decide (n3 < (l0.2 : Int))) then
 (bif (((decide ((0 : Int) <= n3)) && (decide (n3 <= (l0.2 : Int)))) && (decide ((l0.2 : Int) <= (l0.2 : Int)))) then
 (SA.adv l0.1 n3.toNat 1).bind fun a4 =>
 (k83 [(.sl a4 ((l0.2 : Int).toNat - n3.toNat))] r1.2).bind fun r5 =>
 (AV.asTup 3 r5.1).bind fun c6 =>
 gtU c6 0 fun n7 =>
 gtI c6 1 fun n8 =>
 gtI c6 2 fun n9 =>
 (bif ((n9 : Int) != 0) then
 ((some ((.tup [(.sl .nil 0), (.i .i64 n9)]), r5.2) : Option (AV × AH O)).map fun r => Sum.inr (Sum.inr r))
 else let h10 := r5.2.bump 2
 let h11 := h10.put r5.2.next (.cells true 54 [(.i .u64 n7)])
 (h11.rdSl (.loc (.n r5.2.next) 0 1) 1 1).bind fun new12 =>
 (bif (Nat.ble ((l2.2 + 1) * 9) 35184372088832) then
 (h11.appSl (r5.2.next + 1) 54 1 l2.1 l2.2 1 new12).bind fun r13 =>
 (AV.asSl r13.1).bind fun l14 =>
 some (Sum.inl ([(.sl l14.1 l14.2), (.i .i64 (IntKind.i64.wrap (n3 + n8)))], r13.2))
 else none))
 else none)
 else some (Sum.inr (Sum.inl ([(.sl l2.1 l2.2)], r1.2)))))
def varint_Split_c (k83 : Sm O) : Sm O := fun xs h =>
 bif Nat.beq xs.length 1 then
 gtS xs 0 fun l0 =>
 bindS (S := List AV × AH O) (R := (AV × AH O)) (loopF (S := List AV × AH O) (T := (List AV × AH O) ⊕ (AV × AH O)) (varint_Split_L1 l0 k83) ([(.sl .nil 0), (.i .i64 0)], h)) fun r15 =>
 (AV.asSl (r15.1.getD 0 .u)).bind fun l16 =>
 some ((.tup [(.sl l16.1 l16.2), (.i .i64 0)]), r15.2)
 else none
def varint_Split : Sm O := frz (varint_Split_c varint_Get)
theorem varint_Split_ent : Entered Try.prog 40 := Try.call40
theorem varint_Split_run (k83 : Sm O) : run (O := O) Try.prog [(83, k83)] Try.f40 (.n .z (.n .z (.n (.n .z (.n (.lp true 0 [(4, .one .sl), (5, .one (.i .i64))] [(4, .one .sl)] (.n (.n .z .z) (.n (.n .z (.n (.n .z (.n .z .z)) .z)) .z))) .z)) .z))) = varint_Split_c k83 := by kernel_rfl
theorem varint_Split_sound : FSound RO Try.prog 40 (varint_Split) :=
   have h : FSound RO Try.prog 40 (varint_Split_c varint_Get) := (varint_Split_run varint_Get) ▸ run_sound (gcons varint_Get_ent (varint_Get_sound) <| gnil) mixed Try.func40 (by kernel_rfl) _
   h.frz
def image_reader__next_c : Sm O := fun xs h =>
 bif Nat.beq xs.length 1 then
 (AV.asP (xs.getD 0 .u)).bind fun p0 =>
 Option.bind p0 fun q1 =>
 ldS h q1.1 q1.2 fun l3 =>
 (bif (((l3.2 : Int) : Int) == 0) then
 Option.bind p0 fun q4 =>
 (h.st q4.1 (q4.2 + 1) [(.b true)]).bind fun h5 =>
 some ((.i .u64 0), h5)
 else Option.bind p0 fun q6 =>
 ldS h q6.1 q6.2 fun l8 =>
 (bif (decide ((0 : Int) < (l8.2 : Int))) then
 (SA.ref l8.1).bind fun q9 =>
 ldU h q9.1 q9.2 fun n11 =>
 Option.bind p0 fun q12 =>
 ldS h q12.1 q12.2 fun l14 =>
 (bif ((decide ((1 : Int) <= (l14.2 : Int))) && (decide ((l14.2 : Int) <= (l14.2 : Int)))) then
 (SA.adv l14.1 1 1).bind fun a15 =>
 Option.bind p0 fun q16 =>
 (h.st q16.1 q16.2 [(.sl a15 ((l14.2 : Int).toNat - 1))]).bind fun h17 =>
 some ((.i .u64 n11), h17)
 else none)
 else none))
 else none
def image_reader__next : Sm O := image_reader__next_c
theorem image_reader__next_ent : Entered Try.prog 84 := Try.call84
theorem image_reader__next_run : run (O := O) Try.prog [] Try.f84 (.n .z (.n (.n .z (.n (.n .z .z) .z)) (.n .z (.n .z .z)))) = image_reader__next_c  := by kernel_rfl
theorem image_reader__next_sound : FSound RO Try.prog 84 image_reader__next := sdf image_reader__next_run (gnil) Try.func84 (by kernel_rfl)
def image_reader__count_c (k84 : Sm O) : Sm O := fun xs h =>
 bif Nat.beq xs.length 1 then
 (AV.asP (xs.getD 0 .u)).bind fun p0 =>
 (k84 [(.p p0)] h).bind fun r1 =>
 (AV.asI .u64 r1.1).bind fun n2 =>
 Option.bind p0 fun q3 =>
 ldS r1.2 q3.1 q3.2 fun l5 =>
 (bif (decide (n2 > (IntKind.u64.wrap (l5.2 : Int)))) then
 Option.bind p0 fun q6 =>
 (r1.2.st q6.1 (q6.2 + 1) [(.b true)]).bind fun h7 =>
 some ((.i .i64 0), h7)
 else some ((.i .i64 (IntKind.i64.wrap n2)), r1.2))
 else none
def image_reader__count : Sm O := image_reader__count_c image_reader__next
theorem image_reader__count_ent : Entered Try.prog 41 := Try.call41
theorem image_reader__count_run (k84 : Sm O) : run (O := O) Try.prog [(84, k84)] Try.f41 (.n .z (.n .z (.n (.n .z (.n (.n .z .z) .z)) .z))) = image_reader__count_c k84 := by kernel_rfl
theorem image_reader__count_sound : FSound RO Try.prog 41 image_reader__count := sdf (image_reader__count_run _) (gcons image_reader__next_ent image_reader__next_sound <| gnil) Try.func41 (by kernel_rfl)
def field_Get_c (k120 k121 : Sm O) : Sm O := fun xs h =>
 bif Nat.beq xs.length 2 then
 gtU xs 0 fun n0 =>
 (AV.asAgg 2 (xs.getD 1 .u)).bind fun c1 =>
 gtI c1 0 fun n2 =>
 gtI c1 1 fun n3 =>
 let h4 := h.bump 1
 let h5 := h4.put h.next (.cells true 170 [(.i .i64 n2), (.i .i64 n3)])
 ldI h5 (.n h.next) 0 fun n7 =>
 ldI h5 (.n h.next) 1 fun n9 =>
 (k120 [(.agg [(.i .i64 n7), (.i .i64 n9)])] h5).bind fun r10 =>
 (AV.asB r10.1).bind fun b11 =>
 (bif (!b11) then
 some ((.i .u64 0), r10.2)
 else ldI r10.2 (.n h.next) 0 fun n13 =>
 ldI r10.2 (.n h.next) 1 fun n15 =>
 ldI r10.2 (.n h.next) 0 fun n17 =>
 (k121 [(.agg [(.i .i64 n13), (.i .i64 n15)])] r10.2).bind fun r18 =>
 (AV.asI .u64 r18.1).bind fun n19 =>
 (chkE (r18.2.ld (.n h.next) 0) (some (.i .i64 n17))).bind fun _ =>
 (bif (decide (n17 < 0)) then
 none
 else let v20 : Int := (Int.fdiv (ibits .and .u64 n0 n19) (2 ^ min n17.toNat 64))
 some ((.i .u64 v20), r18.2)))
 else none
def field_Get : Sm O := field_Get_c field_Right field_Mask
theorem field_Get_ent : Entered Try.prog 108 := Try.call108
theorem field_Get_run (k120 k121 : Sm O) : run (O := O) Try.prog [(120, k120), (121, k121)] Try.f108 (.n .z (.n (.n .z (.n .z .z)) (.n (.d [] [0, 1, 4, 5, 2, 3, 6, 7] [0, 0, 2, 7, 0, 16, 63, 127]) .z))) = field_Get_c k120 k121 := by kernel_rfl
theorem field_Get_sound : FSound RO Try.prog 108 field_Get := sdf (field_Get_run _ _) (gcons field_Right_ent field_Right_sound <| gcons field_Mask_ent field_Mask_sound <| gnil) Try.func108 (by kernel_rfl)
def header_Unpack_L1 (l4 : SA × Nat) (k108 : Sm O) (n0 : Int) : List AV × AH O -> Option ((List AV × AH O) ⊕ (List AV × AH O)) := (fun r5 =>
 (AV.asSl (r5.1.getD 0 .u)).bind fun l6 =>
 (AV.asI .i64 (r5.1.getD 1 .u)).bind fun n7 =>
 (bif (decide (n7 < (l4.2 : Int))) then
 let h8 := r5.2.bump 1
 (bif ((decide ((0 : Int) <= n7)) && (decide (n7 < (l4.2 : Int)))) then
 (SA.ref l4.1).bind fun q9 =>
 ldI h8 q9.1 (q9.2 + (n7.toNat * 2)) fun n11 =>
 ldI h8 q9.1 ((q9.2 + (n7.toNat * 2)) + 1) fun n13 =>
 let h14 := h8.put r5.2.next (.cells true 170 [(.i .i64 0), (.i .i64 0)])
 (h14.st (.n r5.2.next) 0 [(.i .i64 n11), (.i .i64 n13)]).bind fun h15 =>
 let h16 := h15.bump 2
 ldI h16 (.n r5.2.next) 0 fun n18 =>
 ldI h16 (.n r5.2.next) 1 fun n20 =>
 (k108 [(.i .u64 n0), (.agg [(.i .i64 n18), (.i .i64 n20)])] h16).bind fun r21 =>
 (AV.asI .u64 r21.1).bind fun n22 =>
 let h23 := r21.2.put h15.next (.cells true 3 [(.i .i64 (IntKind.i64.wrap n22))])
 (h23.rdSl (.loc (.n h15.next) 0 1) 1 1).bind fun new24 =>
 (bif (Nat.ble ((l6.2 + 1) * 9) 35184372088832) then
 (h23.appSl (h15.next + 1) 3 1 l6.1 l6.2 1 new24).bind fun r25 =>
 (AV.asSl r25.1).bind fun l26 =>
 some (Sum.inl ([(.sl l26.1 l26.2), (.i .i64 (IntKind.i64.wrap (n7 + 1)))], r25.2))
 else none)
 else none)
 else some (Sum.inr ([(.sl l6.1 l6.2)], r5.2))))
def header_Unpack_c (k95 k108 k49 : Sm O) : Sm O := fun xs h =>
 bif Nat.beq xs.length 1 then
 gtU xs 0 fun n0 =>
 let h1 := h.bump 1
 let h2 := h1.put h.next (.cells true 53 [(.i .i64 0), (.i .i64 0), (.i .i64 0), (.i .i64 0), (.b false)])
 (k95 [] h2).bind fun r3 =>
 (AV.asSl r3.1).bind fun l4 =>
 (loopF (S := List AV × AH O) (T := List AV × AH O) (header_Unpack_L1 l4 k108 n0) ([(.sl .nil 0), (.i .i64 0)], r3.2)).bind fun r27 =>
 (AV.asSl (r27.1.getD 0 .u)).bind fun l28 =>
 let h29 := r27.2.bump 1
 (bif (decide ((0 : Int) < (l28.2 : Int))) then
 (SA.ref l28.1).bind fun q30 =>
 ldI h29 q30.1 q30.2 fun n32 =>
 (bif (decide ((1 : Int) < (l28.2 : Int))) then
 (SA.ref l28.1).bind fun q33 =>
 ldI h29 q33.1 (q33.2 + 1) fun n35 =>
 (bif (decide ((2 : Int) < (l28.2 : Int))) then
 (SA.ref l28.1).bind fun q36 =>
 ldI h29 q36.1 (q36.2 + 2) fun n38 =>
 (bif (decide ((3 : Int) < (l28.2 : Int))) then
 (SA.ref l28.1).bind fun q39 =>
 ldI h29 q39.1 (q39.2 + 3) fun n41 =>
 (bif (decide ((4 : Int) < (l28.2 : Int))) then
 (SA.ref l28.1).bind fun q42 =>
 ldI h29 q42.1 (q42.2 + 4) fun n44 =>
 let h45 := h29.put r27.2.next (.cells true 53 [(.i .i64 0), (.i .i64 0), (.i .i64 0), (.i .i64 0), (.b false)])
 (h45.st (.n r27.2.next) 0 [(.i .i64 n32), (.i .i64 n35), (.i .i64 n38), (.i .i64 n41), (.b ((n44 : Int) == 1))]).bind fun h46 =>
 ldI h46 (.n r27.2.next) 0 fun n48 =>
 ldI h46 (.n r27.2.next) 1 fun n50 =>
 ldI h46 (.n r27.2.next) 2 fun n52 =>
 ldI h46 (.n r27.2.next) 3 fun n54 =>
 (h46.ld (.n r27.2.next) 4).bind fun w55 =>
 (AV.asB w55).bind fun b56 =>
 (k49 [(.agg [(.i .i64 n48), (.i .i64 n50), (.i .i64 n52), (.i .i64 n54), (.b b56)])] h46).bind fun r57 =>
 (AV.asTup 2 r57.1).bind fun c58 =>
 gtU c58 0 fun n59 =>
 gtI c58 1 fun n60 =>
 ((bif (((n60 : Int) != 0) == false) then
 some ([(.b ((n59 : Int) != n0))], r57.2)
 else some ([(.b true)], r57.2)) : Option (List AV × AH O)).bind fun r61 =>
 (AV.asB (r61.1.getD 0 .u)).bind fun b62 =>
 (bif b62 then
 (r61.2.st (.n h.next) 0 [(.i .i64 0), (.i .i64 0), (.i .i64 0), (.i .i64 0), (.b false)]).bind fun h63 =>
 ldI h63 (.n h.next) 0 fun n65 =>
 ldI h63 (.n h.next) 1 fun n67 =>
 ldI h63 (.n h.next) 2 fun n69 =>
 ldI h63 (.n h.next) 3 fun n71 =>
 (h63.ld (.n h.next) 4).bind fun w72 =>
 (AV.asB w72).bind fun b73 =>
 some ((.tup [(.agg [(.i .i64 n65), (.i .i64 n67), (.i .i64 n69), (.i .i64 n71), (.b b73)]), (.i .i64 5)]), h63)
 else ldI r61.2 (.n r27.2.next) 0 fun n75 =>
 ldI r61.2 (.n r27.2.next) 1 fun n77 =>
 ldI r61.2 (.n r27.2.next) 2 fun n79 =>
 ldI r61.2 (.n r27.2.next) 3 fun n81 =>
 (r61.2.ld (.n r27.2.next) 4).bind fun w82 =>
 (AV.asB w82).bind fun b83 =>
 (r61.2.st (.n h.next) 0 [(.i .i64 n75), (.i .i64 n77), (.i .i64 n79), (.i .i64 n81), (.b b83)]).bind fun h84 =>
 ldI h84 (.n h.next) 0 fun n86 =>
 ldI h84 (.n h.next) 1 fun n88 =>
 ldI h84 (.n h.next) 2 fun n90 =>
 ldI h84 (.n h.next) 3 fun n92 =>
 (h84.ld (.n h.next) 4).bind fun w93 =>
 (AV.asB w93).bind fun b94 =>
 some ((.tup [(.agg [(.i .i64 n86), (.i .i64 n88), (.i .i64 n90), (.i .i64 n92), (.b b94)]), (.i .i64 0)]), h84))
 else none)
 else none)
 else none)
 else none)
 else none)
 else none
def header_Unpack : Sm O := header_Unpack_c header_fields field_Get header_Pack
theorem header_Unpack_ent : Entered Try.prog 85 := Try.call85
theorem header_Unpack_run (k95 k108 k49 : Sm O) : run (O := O) Try.prog [(95, k95), (108, k108), (49, k49)] Try.f85 (.n .z (.n .z (.n (.n .z (.n (.lp false 0 [(4, .one .sl), (12, .one (.i .i64))] [(4, .one .sl)] (.n .z (.n .z (.n (.n .z .z) .z)))) .z)) (.n (.d [] [0, 1, 2, 3, 4, 5, 6, 7, 8, 9, 10, 11, 12, 13, 14, 15, 16, 17, 18, 19] [0, 1, 3, 0, 8, 24, 63, 0, 128, 384, 0, 1024, 3072, 0, 8192, 24576, 57344, 131071, 0, 524287]) (.n (.n .z (.n (.g [(2, 3, [(53, .one .b)])]) (.n .z .z))) .z))))) = header_Unpack_c k95 k108 k49 := by kernel_rfl
theorem header_Unpack_sound : FSound RO Try.prog 85 header_Unpack := sdf (header_Unpack_run _ _ _) (gcons header_fields_ent header_fields_sound <| gcons field_Get_ent field_Get_sound <| gcons header_Pack_ent header_Pack_sound <| gnil) Try.func85 (by kernel_rfl)
def image_reader__number_c (k84 : Sm O) : Sm O := fun xs h =>
 bif Nat.beq xs.length 1 then
 (AV.asP (xs.getD 0 .u)).bind fun p0 =>
 (k84 [(.p p0)] h).bind fun r1 =>
 (AV.asI .u64 r1.1).bind fun n2 =>
 (bif (decide (n2 > 4194304)) then
 Option.bind p0 fun q3 =>
 (r1.2.st q3.1 (q3.2 + 1) [(.b true)]).bind fun h4 =>
 some ((.i .i64 0), h4)
 else some ((.i .i64 (IntKind.i64.wrap n2)), r1.2))
 else none
def image_reader__number : Sm O := image_reader__number_c image_reader__next
theorem image_reader__number_ent : Entered Try.prog 86 := Try.call86
theorem image_reader__number_run (k84 : Sm O) : run (O := O) Try.prog [(84, k84)] Try.f86 (.n .z (.n .z (.n (.n .z (.n (.n .z .z) .z)) .z))) = image_reader__number_c k84 := by kernel_rfl
theorem image_reader__number_sound : FSound RO Try.prog 86 image_reader__number := sdf (image_reader__number_run _) (gcons image_reader__next_ent image_reader__next_sound <| gnil) Try.func86 (by kernel_rfl)
def image_reader__node_L2 (h2 : AH O) (p0 : Option (Bid × Nat)) (r19 : List AV × AH O) (k84 : Sm O) : List AV × AH O -> Option ((List AV × AH O) ⊕ (List AV × AH O)) := (fun r53 =>
 (AV.asI .i64 (r53.1.getD 0 .u)).bind fun n54 =>
 ldI r53.2 (.n h2.next) 1 fun n56 =>
 ((bif ((decide (n54 < n56)) == true) then
 Option.bind p0 fun q57 =>
 (r53.2.ld q57.1 (q57.2 + 1)).bind fun w58 =>
 (AV.asB w58).bind fun b59 =>
 some ([(.b (!b59))], r53.2)
 else some ([(.b false)], r53.2)) : Option (List AV × AH O)).bind fun r60 =>
 (AV.asB (r60.1.getD 0 .u)).bind fun b61 =>
 (bif b61 then
 let h62 := r60.2.bump 2
 ldS h62 (.n r19.2.next) 6 fun l64 =>
 (k84 [(.p p0)] h62).bind fun r65 =>
 (AV.asI .u64 r65.1).bind fun n66 =>
 (chkE (r65.2.ld (.n r19.2.next) 6) (some (.sl l64.1 l64.2))).bind fun _ =>
 let h67 := r65.2.put r60.2.next (.cells true 54 [(.i .u64 n66)])
 (h67.rdSl (.loc (.n r60.2.next) 0 1) 1 1).bind fun new68 =>
 (bif (Nat.ble ((l64.2 + 1) * 9) 35184372088832) then
 (h67.appSl (r60.2.next + 1) 54 1 l64.1 l64.2 1 new68).bind fun r69 =>
 (AV.asSl r69.1).bind fun l70 =>
 (r69.2.st (.n r19.2.next) 6 [(.sl l70.1 l70.2)]).bind fun h71 =>
 some (Sum.inl ([(.i .i64 (IntKind.i64.wrap (n54 + 1)))], h71))
 else none)
 else some (Sum.inr ([], r60.2))))
def image_reader__node_L1 (h2 : AH O) (p0 : Option (Bid × Nat)) (r19 : List AV × AH O) (k86 : Sm O) : List AV × AH O -> Option ((List AV × AH O) ⊕ (List AV × AH O)) := (fun r33 =>
 (AV.asI .i64 (r33.1.getD 0 .u)).bind fun n34 =>
 ldI r33.2 (.n h2.next) 0 fun n36 =>
 ((bif ((decide (n34 < n36)) == true) then
 Option.bind p0 fun q37 =>
 (r33.2.ld q37.1 (q37.2 + 1)).bind fun w38 =>
 (AV.asB w38).bind fun b39 =>
 some ([(.b (!b39))], r33.2)
 else some ([(.b false)], r33.2)) : Option (List AV × AH O)).bind fun r40 =>
 (AV.asB (r40.1.getD 0 .u)).bind fun b41 =>
 (bif b41 then
 let h42 := r40.2.bump 2
 ldS h42 (.n r19.2.next) 5 fun l44 =>
 (k86 [(.p p0)] h42).bind fun r45 =>
 (AV.asI .i64 r45.1).bind fun n46 =>
 (chkE (r45.2.ld (.n r19.2.next) 5) (some (.sl l44.1 l44.2))).bind fun _ =>
 let h47 := r45.2.put r40.2.next (.cells true 3 [(.i .i64 n46)])
 (h47.rdSl (.loc (.n r40.2.next) 0 1) 1 1).bind fun new48 =>
 (bif (Nat.ble ((l44.2 + 1) * 9) 35184372088832) then
 (h47.appSl (r40.2.next + 1) 3 1 l44.1 l44.2 1 new48).bind fun r49 =>
 (AV.asSl r49.1).bind fun l50 =>
 (r49.2.st (.n r19.2.next) 5 [(.sl l50.1 l50.2)]).bind fun h51 =>
 some (Sum.inl ([(.i .i64 (IntKind.i64.wrap (n34 + 1)))], h51))
 else none)
 else some (Sum.inr ([], r40.2))))
def image_reader__node_c (k84 k85 k86 : Sm O) : Sm O := fun xs h =>
 bif Nat.beq xs.length 1 then
 (AV.asP (xs.getD 0 .u)).bind fun p0 =>
 let h1 := h.bump 1
 let h2 := h1.put h.next (.cells true 89 [(.i .i64 0), (.i .i64 0), (.i .i64 0), (.i .i64 0), (.b false), (.sl .nil 0), (.sl .nil 0)])
 let h3 := h2.bump 1
 (k84 [(.p p0)] h3).bind fun r4 =>
 (AV.asI .u64 r4.1).bind fun n5 =>
 (k85 [(.i .u64 n5)] r4.2).bind fun r6 =>
 (AV.asTup 2 r6.1).bind fun c7 =>
 (AV.asAgg 5 (c7.getD 0 .u)).bind fun c8 =>
 gtI c8 0 fun n9 =>
 gtI c8 1 fun n10 =>
 gtI c8 2 fun n11 =>
 gtI c8 3 fun n12 =>
 (AV.asB (c8.getD 4 .u)).bind fun b13 =>
 gtI c7 1 fun n14 =>
 let h15 := r6.2.put h2.next (.cells true 53 [(.i .i64 0), (.i .i64 0), (.i .i64 0), (.i .i64 0), (.b false)])
 (h15.st (.n h2.next) 0 [(.i .i64 n9), (.i .i64 n10), (.i .i64 n11), (.i .i64 n12), (.b b13)]).bind fun h16 =>
 ((bif ((n14 : Int) != 0) then
 Option.bind p0 fun q17 =>
 (h16.st q17.1 (q17.2 + 1) [(.b true)]).bind fun h18 =>
 some ([], h18)
 else some ([], h16)) : Option (List AV × AH O)).bind fun r19 =>
 let h20 := r19.2.bump 1
 ldI h20 (.n h2.next) 0 fun n22 =>
 ldI h20 (.n h2.next) 1 fun n24 =>
 ldI h20 (.n h2.next) 2 fun n26 =>
 ldI h20 (.n h2.next) 3 fun n28 =>
 (h20.ld (.n h2.next) 4).bind fun w29 =>
 (AV.asB w29).bind fun b30 =>
 let h31 := h20.put r19.2.next (.cells true 89 [(.i .i64 0), (.i .i64 0), (.i .i64 0), (.i .i64 0), (.b false), (.sl .nil 0), (.sl .nil 0)])
 (h31.st (.n r19.2.next) 0 [(.i .i64 n22), (.i .i64 n24), (.i .i64 n26), (.i .i64 n28), (.b b30), (.sl .nil 0), (.sl .nil 0)]).bind fun h32 =>
 (loopF (S := List AV × AH O) (T := List AV × AH O) (image_reader__node_L1 h2 p0 r19 k86) ([(.i .i64 0)], h32)).bind fun r52 =>
 (loopF (S := List AV × AH O) (T := List AV × AH O) (image_reader__node_L2 h2 p0 r19 k84) ([(.i .i64 0)], r52.2)).bind fun r72 =>
 ldI r72.2 (.n r19.2.next) 0 fun n74 =>
 ldI r72.2 (.n r19.2.next) 1 fun n76 =>
 ldI r72.2 (.n r19.2.next) 2 fun n78 =>
 ldI r72.2 (.n r19.2.next) 3 fun n80 =>
 (r72.2.ld (.n r19.2.next) 4).bind fun w81 =>
 (AV.asB w81).bind fun b82 =>
 ldS r72.2 (.n r19.2.next) 5 fun l84 =>
 ldS r72.2 (.n r19.2.next) 6 fun l86 =>
 (r72.2.st (.n h.next) 0 [(.i .i64 n74), (.i .i64 n76), (.i .i64 n78), (.i .i64 n80), (.b b82), (.sl l84.1 l84.2), (.sl l86.1 l86.2)]).bind fun h87 =>
 ldI h87 (.n h.next) 0 fun n89 =>
 ldI h87 (.n h.next) 1 fun n91 =>
 ldI h87 (.n h.next) 2 fun n93 =>
 ldI h87 (.n h.next) 3 fun n95 =>
 (h87.ld (.n h.next) 4).bind fun w96 =>
 (AV.asB w96).bind fun b97 =>
 ldS h87 (.n h.next) 5 fun l99 =>
 ldS h87 (.n h.next) 6 fun l101 =>
 some ((.agg [(.i .i64 n89), (.i .i64 n91), (.i .i64 n93), (.i .i64 n95), (.b b97), (.sl l99.1 l99.2), (.sl l101.1 l101.2)]), h87)
 else none
def image_reader__node : Sm O := frz (image_reader__node_c image_reader__next header_Unpack image_reader__number)
theorem image_reader__node_ent : Entered Try.prog 42 := Try.call42
theorem image_reader__node_run (k84 k85 k86 : Sm O) : run (O := O) Try.prog [(84, k84), (85, k85), (86, k86)] Try.f42 (.n .z (.n .z (.n (.n .z (.j false [] .z .z)) (.n .z (.n (.n .z (.n (.lp false 0 [(6, .one (.i .i64))] [] (.n (.n (.g [(5, 5, [(32, .one .b)])]) .z) (.n (.n (.d [] [0, 1, 2, 3, 4, 5, 6, 7] [0, 1, 0, 4, 12, 31, 63, 127]) .z) .z))) .z)) (.n (.n .z (.n (.lp false 2 [(7, .one (.i .i64))] [] (.n (.n (.g [(5, 5, [(53, .one .b)])]) .z) (.n (.n (.d [] [0, 1, 2, 3, 4, 5, 6, 7] [0, 1, 0, 4, 12, 31, 63, 127]) .z) .z))) .z)) .z)))))) = image_reader__node_c k84 k85 k86 := by kernel_rfl
theorem image_reader__node_sound : FSound RO Try.prog 42 (image_reader__node) :=
   have h : FSound RO Try.prog 42 (image_reader__node_c image_reader__next header_Unpack image_reader__number) := (image_reader__node_run image_reader__next header_Unpack image_reader__number) ▸ run_sound (gcons image_reader__next_ent (image_reader__next_sound) <| gcons header_Unpack_ent (header_Unpack_sound) <| gcons image_reader__number_ent (image_reader__number_sound) <| gnil) mixed Try.func42 (by kernel_rfl) _
   h.frz
def image_reader__list_L1 (n2 : Int) (k86 : Sm O) (p0 : Option (Bid × Nat)) : List AV × AH O -> Option ((List AV × AH O) ⊕ (List AV × AH O)) := (fun r3 =>
 (AV.asSl (r3.1.getD 0 .u)).bind fun l4 =>
 (AV.asI .i64 (r3.1.getD 1 .u)).bind fun n5 =>
 (bif (decide (n5 < n2)) then
 let h6 := r3.2.bump 2
 (k86 [(.p p0)] h6).bind fun r7 =>
 (AV.asI .i64 r7.1).bind fun n8 =>
 let h9 := r7.2.put r3.2.next (.cells true 3 [(.i .i64 n8)])
 (h9.rdSl (.loc (.n r3.2.next) 0 1) 1 1).bind fun new10 =>
 (bif (Nat.ble ((l4.2 + 1) * 9) 35184372088832) then
 (h9.appSl (r3.2.next + 1) 3 1 l4.1 l4.2 1 new10).bind fun r11 =>
 (AV.asSl r11.1).bind fun l12 =>
 some (Sum.inl ([(.sl l12.1 l12.2), (.i .i64 (IntKind.i64.wrap (n5 + 1)))], r11.2))
 else none)
 else some (Sum.inr ([(.sl l4.1 l4.2)], r3.2))))
def image_reader__list_c (k41 k86 : Sm O) : Sm O := fun xs h =>
 bif Nat.beq xs.length 1 then
 (AV.asP (xs.getD 0 .u)).bind fun p0 =>
 (k41 [(.p p0)] h).bind fun r1 =>
 (AV.asI .i64 r1.1).bind fun n2 =>
 (loopF (S := List AV × AH O) (T := List AV × AH O) (image_reader__list_L1 n2 k86 p0) ([(.sl .nil 0), (.i .i64 0)], r1.2)).bind fun r13 =>
 (AV.asSl (r13.1.getD 0 .u)).bind fun l14 =>
 some ((.sl l14.1 l14.2), r13.2)
 else none
def image_reader__list : Sm O := frz (image_reader__list_c image_reader__count image_reader__number)
theorem image_reader__list_ent : Entered Try.prog 43 := Try.call43
theorem image_reader__list_run (k41 k86 : Sm O) : run (O := O) Try.prog [(41, k41), (86, k86)] Try.f43 (.n .z (.n .z (.n (.n .z (.n (.lp false 0 [(3, .one .sl), (6, .one (.i .i64))] [(3, .one .sl)] (.n .z (.n .z (.n .z .z)))) .z)) .z))) = image_reader__list_c k41 k86 := by kernel_rfl
theorem image_reader__list_sound : FSound RO Try.prog 43 (image_reader__list) :=
   have h : FSound RO Try.prog 43 (image_reader__list_c image_reader__count image_reader__number) := (image_reader__list_run image_reader__count image_reader__number) ▸ run_sound (gcons image_reader__count_ent (image_reader__count_sound) <| gcons image_reader__number_ent (image_reader__number_sound) <| gnil) mixed Try.func43 (by kernel_rfl) _
   h.frz
def image_Get_L1 (n30 : Int) (r14 : AV × AH O) (h26 : AH O) (k42 : Sm O) : List AV × AH O -> Option ((List AV × AH O) ⊕ (List AV × AH O)) := (fun r31 =>
 (AV.asI .i64 (r31.1.getD 0 .u)).bind fun n32 =>
 ((bif ((decide (n32 < n30)) == true) then
 (r31.2.ld (.n r14.2.next) 1).bind fun w33 =>
 (AV.asB w33).bind fun b34 =>
 some ([(.b (!b34))], r31.2)
 else some ([(.b false)], r31.2)) : Option (List AV × AH O)).bind fun r35 =>
 (AV.asB (r35.1.getD 0 .u)).bind fun b36 =>
 (bif b36 then
 let h37 := r35.2.bump 2
 ldS h37 (.n h26.next) 0 fun l39 =>
 (k42 [(.p (some ((.n r14.2.next), 0)))] h37).bind fun r40 =>
 (AV.asAgg 7 r40.1).bind fun c41 =>
 gtI c41 0 fun n42 =>
 gtI c41 1 fun n43 =>
 gtI c41 2 fun n44 =>
 gtI c41 3 fun n45 =>
 (AV.asB (c41.getD 4 .u)).bind fun b46 =>
 gtS c41 5 fun l47 =>
 gtS c41 6 fun l48 =>
 (chkE (r40.2.ld (.n h26.next) 0) (some (.sl l39.1 l39.2))).bind fun _ =>
 let h49 := r40.2.put r35.2.next (.cells true 89 [(.i .i64 n42), (.i .i64 n43), (.i .i64 n44), (.i .i64 n45), (.b b46), (.sl l47.1 l47.2), (.sl l48.1 l48.2)])
 (h49.rdSl (.loc (.n r35.2.next) 0 7) 1 7).bind fun new50 =>
 (bif (Nat.ble ((l39.2 + 1) * 89) 35184372088832) then
 (h49.appSl (r35.2.next + 1) 89 7 l39.1 l39.2 1 new50).bind fun r51 =>
 (AV.asSl r51.1).bind fun l52 =>
 (r51.2.st (.n h26.next) 0 [(.sl l52.1 l52.2)]).bind fun h53 =>
 some (Sum.inl ([(.i .i64 (IntKind.i64.wrap (n32 + 1)))], h53))
 else none)
 else some (Sum.inr ([], r35.2))))
def image_Get_c (k39 k40 k41 k42 k43 k44 : Sm O) : Sm O := fun xs h =>
 bif Nat.beq xs.length 1 then
 gtS xs 0 fun l0 =>
 let h1 := h.bump 1
 let h2 := h1.put h.next (.cells true 27 [(.sl .nil 0), (.sl .nil 0), (.sl .nil 0)])
 (k39 [(.sl l0.1 l0.2)] h2).bind fun r3 =>
 (AV.asTup 2 r3.1).bind fun c4 =>
 gtS c4 0 fun l5 =>
 gtI c4 1 fun n6 =>
 (bif ((n6 : Int) != 0) then
 (r3.2.st (.n h.next) 0 [(.sl .nil 0), (.sl .nil 0), (.sl .nil 0)]).bind fun h7 =>
 ldS h7 (.n h.next) 0 fun l9 =>
 ldS h7 (.n h.next) 1 fun l11 =>
 ldS h7 (.n h.next) 2 fun l13 =>
 some ((.tup [(.agg [(.sl l9.1 l9.2), (.sl l11.1 l11.2), (.sl l13.1 l13.2)]), (.i .i64 n6)]), h7)
 else (k40 [(.sl l5.1 l5.2)] r3.2).bind fun r14 =>
 (AV.asTup 2 r14.1).bind fun c15 =>
 gtS c15 0 fun l16 =>
 gtI c15 1 fun n17 =>
 (bif ((n17 : Int) != 0) then
 (r14.2.st (.n h.next) 0 [(.sl .nil 0), (.sl .nil 0), (.sl .nil 0)]).bind fun h18 =>
 ldS h18 (.n h.next) 0 fun l20 =>
 ldS h18 (.n h.next) 1 fun l22 =>
 ldS h18 (.n h.next) 2 fun l24 =>
 some ((.tup [(.agg [(.sl l20.1 l20.2), (.sl l22.1 l22.2), (.sl l24.1 l24.2)]), (.i .i64 n17)]), h18)
 else let h25 := r14.2.bump 1
 let h26 := h25.put r14.2.next (.cells true 87 [(.sl l16.1 l16.2), (.b false)])
 let h27 := h26.bump 1
 let h28 := h27.put h26.next (.cells true 27 [(.sl .nil 0), (.sl .nil 0), (.sl .nil 0)])
 (k41 [(.p (some ((.n r14.2.next), 0)))] h28).bind fun r29 =>
 (AV.asI .i64 r29.1).bind fun n30 =>
 (loopF (S := List AV × AH O) (T := List AV × AH O) (image_Get_L1 n30 r14 h26 k42) ([(.i .i64 0)], r29.2)).bind fun r54 =>
 (k43 [(.p (some ((.n r14.2.next), 0)))] r54.2).bind fun r55 =>
 (AV.asSl r55.1).bind fun l56 =>
 (r55.2.st (.n h26.next) 1 [(.sl l56.1 l56.2)]).bind fun h57 =>
 (k43 [(.p (some ((.n r14.2.next), 0)))] h57).bind fun r58 =>
 (AV.asSl r58.1).bind fun l59 =>
 (r58.2.st (.n h26.next) 2 [(.sl l59.1 l59.2)]).bind fun h60 =>
 (h60.ld (.n r14.2.next) 1).bind fun w61 =>
 (AV.asB w61).bind fun b62 =>
 ((bif (b62 == false) then
 ldS h60 (.n r14.2.next) 0 fun l64 =>
 some ([(.b (decide ((l64.2 : Int) > 0)))], h60)
 else some ([(.b true)], h60)) : Option (List AV × AH O)).bind fun r65 =>
 (AV.asB (r65.1.getD 0 .u)).bind fun b66 =>
 ((bif (b66 == false) then
 ldS r65.2 (.n h26.next) 0 fun l68 =>
 ldS r65.2 (.n h26.next) 1 fun l70 =>
 ldS r65.2 (.n h26.next) 2 fun l72 =>
 (k44 [(.agg [(.sl l68.1 l68.2), (.sl l70.1 l70.2), (.sl l72.1 l72.2)])] r65.2).bind fun r73 =>
 (AV.asB r73.1).bind fun b74 =>
 some ([(.b (!b74))], r73.2)
 else some ([(.b true)], r65.2)) : Option (List AV × AH O)).bind fun r75 =>
 (AV.asB (r75.1.getD 0 .u)).bind fun b76 =>
 (bif b76 then
 (r75.2.st (.n h.next) 0 [(.sl .nil 0), (.sl .nil 0), (.sl .nil 0)]).bind fun h77 =>
 ldS h77 (.n h.next) 0 fun l79 =>
 ldS h77 (.n h.next) 1 fun l81 =>
 ldS h77 (.n h.next) 2 fun l83 =>
 some ((.tup [(.agg [(.sl l79.1 l79.2), (.sl l81.1 l81.2), (.sl l83.1 l83.2)]), (.i .i64 5)]), h77)
 else ldS r75.2 (.n h26.next) 0 fun l85 =>
 ldS r75.2 (.n h26.next) 1 fun l87 =>
 ldS r75.2 (.n h26.next) 2 fun l89 =>
 (r75.2.st (.n h.next) 0 [(.sl l85.1 l85.2), (.sl l87.1 l87.2), (.sl l89.1 l89.2)]).bind fun h90 =>
 ldS h90 (.n h.next) 0 fun l92 =>
 ldS h90 (.n h.next) 1 fun l94 =>
 ldS h90 (.n h.next) 2 fun l96 =>
 some ((.tup [(.agg [(.sl l92.1 l92.2), (.sl l94.1 l94.2), (.sl l96.1 l96.2)]), (.i .i64 0)]), h90))))
 else none
def image_Get : Sm O := frz (image_Get_c crc_Open varint_Split image_reader__count image_reader__node image_reader__list canon_Right)
theorem image_Get_ent : Entered Try.prog 10 := Try.call10
theorem image_Get_run (k39 k40 k41 k42 k43 k44 : Sm O) : run (O := O) Try.prog [(39, k39), (40, k40), (41, k41), (42, k42), (43, k43), (44, k44)] Try.f10 (.n .z (.n .z (.n (.n .z (.n .z .z)) (.n .z (.n (.n .z (.n .z .z)) (.n .z (.n .z (.n .z (.n (.n .z (.n (.lp false 0 [(10, .one (.i .i64))] [] (.n (.n (.g [(3, 5, [(43, .one .b)])]) .z) (.n (.n (.d [] [0, 1, 2, 3, 4, 5, 6, 7] [0, 1, 0, 4, 12, 31, 63, 127]) .z) .z))) .z)) (.n .z (.n .z (.n (.n (.g [(4, 6, [(70, .one .b)]), (12, 3, [(75, .one .b)])]) (.n .z .z)) .z)))))))))))) = image_Get_c k39 k40 k41 k42 k43 k44 := by kernel_rfl
theorem image_Get_sound : FSound RO Try.prog 10 (image_Get) :=
   have h : FSound RO Try.prog 10 (image_Get_c crc_Open varint_Split image_reader__count image_reader__node image_reader__list canon_Right) := (image_Get_run crc_Open varint_Split image_reader__count image_reader__node image_reader__list canon_Right) ▸ run_sound (gcons crc_Open_ent (crc_Open_sound) <| gcons varint_Split_ent (varint_Split_sound) <| gcons image_reader__count_ent (image_reader__count_sound) <| gcons image_reader__node_ent (image_reader__node_sound) <| gcons image_reader__list_ent (image_reader__list_sound) <| gcons canon_Right_ent (canon_Right_sound) <| gnil) mixed Try.func10 (by kernel_rfl) _
   h.frz
def haymowref02_Same_L1 (l0 : SA × Nat) (l1 : SA × Nat) : List AV × AH O -> Option ((List AV × AH O) ⊕ ((List AV × AH O) ⊕ (AV × AH O))) := (fun r2 =>
 (AV.asI .i64 (r2.1.getD 0 .u)).bind fun n3 =>
 (bif (decide (n3 < (l0.2 : Int))) then
 (bif ((decide ((0 : Int) <= n3)) && (decide (n3 < (l0.2 : Int)))) then
 (SA.ref l0.1).bind fun q4 =>
 ldI r2.2 q4.1 (q4.2 + (n3.toNat * 1)) fun n6 =>
 (bif ((decide ((0 : Int) <= n3)) && (decide (n3 < (l1.2 : Int)))) then
 (SA.ref l1.1).bind fun q7 =>
 ldI r2.2 q7.1 (q7.2 + (n3.toNat * 1)) fun n9 =>
 (bif ((n6 : Int) != n9) then
 ((some ((.b false), r2.2) : Option (AV × AH O)).map fun r => Sum.inr (Sum.inr r))
 else some (Sum.inl ([(.i .i64 (IntKind.i64.wrap (n3 + 1)))], r2.2)))
 else none)
 else none)
 else some (Sum.inr (Sum.inl ([], r2.2)))))
def haymowref02_Same_c : Sm O := fun xs h =>
 bif Nat.beq xs.length 2 then
 gtS xs 0 fun l0 =>
 gtS xs 1 fun l1 =>
 (bif (((l0.2 : Int) : Int) != (l1.2 : Int)) then
 some ((.b false), h)
 else bindS (S := List AV × AH O) (R := (AV × AH O)) (loopF (S := List AV × AH O) (T := (List AV × AH O) ⊕ (AV × AH O)) (haymowref02_Same_L1 l0 l1) ([(.i .i64 0)], h)) fun r10 =>
 some ((.b true), r10.2))
 else none
def haymowref02_Same : Sm O := haymowref02_Same_c
theorem haymowref02_Same_ent : Entered Try.prog 30 := Try.call30
theorem haymowref02_Same_run : run (O := O) Try.prog [] Try.f30 (.n .z (.n (.n .z (.n .z .z)) (.n (.n .z (.n (.lp true 0 [(5, .one (.i .i64))] [] (.n (.n .z .z) (.n (.n (.n (.d [] [0, 1, 2, 3, 4, 5, 6, 7, 8] [0, 0, 3, 7, 0, 0, 48, 112, 255]) (.n .z .z)) .z) .z))) .z)) .z))) = haymowref02_Same_c  := by kernel_rfl
theorem haymowref02_Same_sound : FSound RO Try.prog 30 haymowref02_Same := sdf haymowref02_Same_run (gnil) Try.func30 (by kernel_rfl)
def haymowref05_Same_L1 (l0 : SA × Nat) (l1 : SA × Nat) : List AV × AH O -> Option ((List AV × AH O) ⊕ ((List AV × AH O) ⊕ (AV × AH O))) := (fun r2 =>
 (AV.asI .i64 (r2.1.getD 0 .u)).bind fun n3 =>
 (bif (decide (n3 < (l0.2 : Int))) then
 (bif ((decide ((0 : Int) <= n3)) && (decide (n3 < (l0.2 : Int)))) then
 (SA.ref l0.1).bind fun q4 =>
 ldU r2.2 q4.1 (q4.2 + (n3.toNat * 1)) fun n6 =>
 (bif ((decide ((0 : Int) <= n3)) && (decide (n3 < (l1.2 : Int)))) then
 (SA.ref l1.1).bind fun q7 =>
 ldU r2.2 q7.1 (q7.2 + (n3.toNat * 1)) fun n9 =>
 (bif ((n6 : Int) != n9) then
 ((some ((.b false), r2.2) : Option (AV × AH O)).map fun r => Sum.inr (Sum.inr r))
 else some (Sum.inl ([(.i .i64 (IntKind.i64.wrap (n3 + 1)))], r2.2)))
 else none)
 else none)
 else some (Sum.inr (Sum.inl ([], r2.2)))))
def haymowref05_Same_c : Sm O := fun xs h =>
 bif Nat.beq xs.length 2 then
 gtS xs 0 fun l0 =>
 gtS xs 1 fun l1 =>
 (bif (((l0.2 : Int) : Int) != (l1.2 : Int)) then
 some ((.b false), h)
 else bindS (S := List AV × AH O) (R := (AV × AH O)) (loopF (S := List AV × AH O) (T := (List AV × AH O) ⊕ (AV × AH O)) (haymowref05_Same_L1 l0 l1) ([(.i .i64 0)], h)) fun r10 =>
 some ((.b true), r10.2))
 else none
def haymowref05_Same : Sm O := haymowref05_Same_c
theorem haymowref05_Same_ent : Entered Try.prog 48 := Try.call48
theorem haymowref05_Same_run : run (O := O) Try.prog [] Try.f48 (.n .z (.n (.n .z (.n .z .z)) (.n (.n .z (.n (.lp true 0 [(5, .one (.i .i64))] [] (.n (.n .z .z) (.n (.n (.n (.d [] [0, 1, 2, 3, 4, 5, 6, 7, 8] [0, 0, 3, 7, 0, 0, 48, 112, 255]) (.n .z .z)) .z) .z))) .z)) .z))) = haymowref05_Same_c  := by kernel_rfl
theorem haymowref05_Same_sound : FSound RO Try.prog 48 haymowref05_Same := sdf haymowref05_Same_run (gnil) Try.func48 (by kernel_rfl)
def law40_Is_L1 (h : AH O) (k30 : Sm O) (k48 : Sm O) : List AV × AH O -> Option ((List AV × AH O) ⊕ ((List AV × AH O) ⊕ (AV × AH O))) := (fun r31 =>
 (AV.asI .i64 (r31.1.getD 0 .u)).bind fun n32 =>
 ldS r31.2 (.n (h.next + 1)) 0 fun l34 =>
 (bif (decide (n32 < (l34.2 : Int))) then
 ldS r31.2 (.n h.next) 0 fun l36 =>
 (bif ((decide ((0 : Int) <= n32)) && (decide (n32 < (l36.2 : Int)))) then
 (SA.ref l36.1).bind fun q37 =>
 ldI r31.2 q37.1 (q37.2 + (n32.toNat * 7)) fun n39 =>
 ldI r31.2 q37.1 ((q37.2 + (n32.toNat * 7)) + 1) fun n41 =>
 ldI r31.2 q37.1 (((q37.2 + (n32.toNat * 7)) + 1) + 1) fun n43 =>
 ldI r31.2 q37.1 ((((q37.2 + (n32.toNat * 7)) + 1) + 1) + 1) fun n45 =>
 (r31.2.ld q37.1 (((((q37.2 + (n32.toNat * 7)) + 1) + 1) + 1) + 1)).bind fun w46 =>
 (AV.asB w46).bind fun b47 =>
 ldS r31.2 (.n (h.next + 1)) 0 fun l49 =>
 (bif ((decide ((0 : Int) <= n32)) && (decide (n32 < (l49.2 : Int)))) then
 (SA.ref l49.1).bind fun q50 =>
 ldI r31.2 q50.1 (q50.2 + (n32.toNat * 7)) fun n52 =>
 ldI r31.2 q50.1 ((q50.2 + (n32.toNat * 7)) + 1) fun n54 =>
 ldI r31.2 q50.1 (((q50.2 + (n32.toNat * 7)) + 1) + 1) fun n56 =>
 ldI r31.2 q50.1 ((((q50.2 + (n32.toNat * 7)) + 1) + 1) + 1) fun n58 =>
 (r31.2.ld q50.1 (((((q50.2 + (n32.toNat * 7)) + 1) + 1) + 1) + 1)).bind fun w59 =>
 (AV.asB w59).bind fun b60 =>
 ((bif ((!((((n39 : Int) == n52) && (((n41 : Int) == n54) && true)) && (((n43 : Int) == n56) && (((n45 : Int) == n58) && ((b47 == b60) && true))))) == false) then
 ldS r31.2 (.n h.next) 0 fun l62 =>
 (bif ((decide ((0 : Int) <= n32)) && (decide (n32 < (l62.2 : Int)))) then
 (SA.ref l62.1).bind fun q63 =>
 ldS r31.2 q63.1 ((q63.2 + (n32.toNat * 7)) + 5) fun l65 =>
 ldS r31.2 (.n (h.next + 1)) 0 fun l67 =>
 (bif ((decide ((0 : Int) <= n32)) && (decide (n32 < (l67.2 : Int)))) then
 (SA.ref l67.1).bind fun q68 =>
 ldS r31.2 q68.1 ((q68.2 + (n32.toNat * 7)) + 5) fun l70 =>
 (k30 [(.sl l65.1 l65.2), (.sl l70.1 l70.2)] r31.2).bind fun r71 =>
 (AV.asB r71.1).bind fun b72 =>
 some ([(.b (!b72))], r71.2)
 else none)
 else none)
 else some ([(.b true)], r31.2)) : Option (List AV × AH O)).bind fun r73 =>
 (AV.asB (r73.1.getD 0 .u)).bind fun b74 =>
 ((bif (b74 == false) then
 ldS r73.2 (.n h.next) 0 fun l76 =>
 (bif ((decide ((0 : Int) <= n32)) && (decide (n32 < (l76.2 : Int)))) then
 (SA.ref l76.1).bind fun q77 =>
 ldS r73.2 q77.1 ((q77.2 + (n32.toNat * 7)) + 6) fun l79 =>
 ldS r73.2 (.n (h.next + 1)) 0 fun l81 =>
 (bif ((decide ((0 : Int) <= n32)) && (decide (n32 < (l81.2 : Int)))) then
 (SA.ref l81.1).bind fun q82 =>
 ldS r73.2 q82.1 ((q82.2 + (n32.toNat * 7)) + 6) fun l84 =>
 (k48 [(.sl l79.1 l79.2), (.sl l84.1 l84.2)] r73.2).bind fun r85 =>
 (AV.asB r85.1).bind fun b86 =>
 some ([(.b (!b86))], r85.2)
 else none)
 else none)
 else some ([(.b true)], r73.2)) : Option (List AV × AH O)).bind fun r87 =>
 (AV.asB (r87.1.getD 0 .u)).bind fun b88 =>
 (bif b88 then
 ((some ((.b false), r87.2) : Option (AV × AH O)).map fun r => Sum.inr (Sum.inr r))
 else some (Sum.inl ([(.i .i64 (IntKind.i64.wrap (n32 + 1)))], r87.2)))
 else none)
 else none)
 else some (Sum.inr (Sum.inl ([], r31.2)))))
def law40_Is_c (k30 k48 : Sm O) : Sm O := fun xs h =>
 bif Nat.beq xs.length 2 then
 (AV.asAgg 3 (xs.getD 0 .u)).bind fun c0 =>
 gtS c0 0 fun l1 =>
 gtS c0 1 fun l2 =>
 gtS c0 2 fun l3 =>
 (AV.asAgg 3 (xs.getD 1 .u)).bind fun c4 =>
 gtS c4 0 fun l5 =>
 gtS c4 1 fun l6 =>
 gtS c4 2 fun l7 =>
 let h8 := h.bump 2
 let h9 := h8.put h.next (.cells true 27 [(.sl l1.1 l1.2), (.sl l2.1 l2.2), (.sl l3.1 l3.2)])
 let h10 := h9.put (h.next + 1) (.cells true 33 [(.sl l5.1 l5.2), (.sl l6.1 l6.2), (.sl l7.1 l7.2)])
 ldS h10 (.n h.next) 0 fun l12 =>
 ldS h10 (.n (h.next + 1)) 0 fun l14 =>
 ((bif ((((l12.2 : Int) : Int) != (l14.2 : Int)) == false) then
 ldS h10 (.n h.next) 1 fun l16 =>
 ldS h10 (.n (h.next + 1)) 1 fun l18 =>
 (k30 [(.sl l16.1 l16.2), (.sl l18.1 l18.2)] h10).bind fun r19 =>
 (AV.asB r19.1).bind fun b20 =>
 some ([(.b (!b20))], r19.2)
 else some ([(.b true)], h10)) : Option (List AV × AH O)).bind fun r21 =>
 (AV.asB (r21.1.getD 0 .u)).bind fun b22 =>
 ((bif (b22 == false) then
 ldS r21.2 (.n h.next) 2 fun l24 =>
 ldS r21.2 (.n (h.next + 1)) 2 fun l26 =>
 (k30 [(.sl l24.1 l24.2), (.sl l26.1 l26.2)] r21.2).bind fun r27 =>
 (AV.asB r27.1).bind fun b28 =>
 some ([(.b (!b28))], r27.2)
 else some ([(.b true)], r21.2)) : Option (List AV × AH O)).bind fun r29 =>
 (AV.asB (r29.1.getD 0 .u)).bind fun b30 =>
 (bif b30 then
 some ((.b false), r29.2)
 else bindS (S := List AV × AH O) (R := (AV × AH O)) (loopF (S := List AV × AH O) (T := (List AV × AH O) ⊕ (AV × AH O)) (law40_Is_L1 h k30 k48) ([(.i .i64 0)], r29.2)) fun r89 =>
 some ((.b true), r89.2))
 else none
def law40_Is : Sm O := law40_Is_c haymowref02_Same haymowref05_Same
theorem law40_Is_ent : Entered Try.prog 12 := Try.call12
theorem law40_Is_run (k30 k48 : Sm O) : run (O := O) Try.prog [(30, k30), (48, k48)] Try.f12 (.n .z (.n (.n (.g [(7, 6, [(20, .one .b)]), (15, 6, [(28, .one .b)])]) (.n .z .z)) (.n (.n .z (.n (.lp true 0 [(5, .one (.i .i64))] [] (.n (.n .z .z) (.n (.n (.n (.d [(13, 14, [(64, .one .b)]), (29, 14, [(80, .one .b)])] [0, 1, 2, 3, 4, 5, 6, 7, 8, 9, 10, 11, 12, 13, 14, 15, 16, 17, 18, 19, 20, 21, 22, 23, 24, 25, 26, 27, 28, 29, 30, 31, 32, 33, 34, 35, 36, 37, 38, 39, 40, 41, 42, 43, 44] [0, 1, 0, 7, 15, 31, 0, 64, 0, 448, 960, 1984, 4095, 8191, 16383, 32767, 16383, 131071, 262143, 524287, 16383, 1064959, 16383, 7356415, 15745023, 32522239, 67108863, 134217727, 268435455, 536870911, 1073741823, 2147483647, 1073741823, 8589934591, 17179869183, 34359738367, 1073741823, 69793218559, 1073741823, 482110078975, 1031865892863, 2131377520639, 4398046511103, 8796093022207, 17592186044415]) (.n .z .z)) .z) .z))) .z)) .z))) = law40_Is_c k30 k48 := by kernel_rfl
theorem law40_Is_sound : FSound RO Try.prog 12 law40_Is := sdf (law40_Is_run _ _) (gcons haymowref02_Same_ent haymowref02_Same_sound <| gcons haymowref05_Same_ent haymowref05_Same_sound <| gnil) Try.func12 (by kernel_rfl)
def law41_awake_c (k13 k10 k12 : Sm O) : Sm O := fun xs h =>
 bif Nat.beq xs.length 0 then
 (k13 [(.agg [(.sl .nil 0), (.sl .nil 0), (.sl .nil 0)])] h).bind fun r0 =>
 (AV.asSl r0.1).bind fun l1 =>
 let h2 := r0.2.bump 1
 (k10 [(.sl l1.1 l1.2)] h2).bind fun r3 =>
 (AV.asTup 2 r3.1).bind fun c4 =>
 (AV.asAgg 3 (c4.getD 0 .u)).bind fun c5 =>
 gtS c5 0 fun l6 =>
 gtS c5 1 fun l7 =>
 gtS c5 2 fun l8 =>
 gtI c4 1 fun n9 =>
 let h10 := r3.2.put r0.2.next (.cells true 27 [(.sl .nil 0), (.sl .nil 0), (.sl .nil 0)])
 (h10.st (.n r0.2.next) 0 [(.sl l6.1 l6.2), (.sl l7.1 l7.2), (.sl l8.1 l8.2)]).bind fun h11 =>
 (h11.rdSl l1.1 l1.2 1).bind fun c12 =>
 (asBytes c12).bind fun s13 =>
 let c14 : Bool := (s13 == ([0, 0, 0, 0, 0, 0, 0, 0, 0, 0, 0] : List UInt8))
 ((bif (c14 == true) then
 some ([(.b ((n9 : Int) == 0))], h11)
 else some ([(.b false)], h11)) : Option (List AV × AH O)).bind fun r15 =>
 (AV.asB (r15.1.getD 0 .u)).bind fun b16 =>
 ((bif (b16 == true) then
 ldS r15.2 (.n r0.2.next) 0 fun l18 =>
 ldS r15.2 (.n r0.2.next) 1 fun l20 =>
 ldS r15.2 (.n r0.2.next) 2 fun l22 =>
 (k12 [(.agg [(.sl l18.1 l18.2), (.sl l20.1 l20.2), (.sl l22.1 l22.2)]), (.agg [(.sl .nil 0), (.sl .nil 0), (.sl .nil 0)])] r15.2).bind fun r23 =>
 (AV.asB r23.1).bind fun b24 =>
 some ([(.b b24)], r23.2)
 else some ([(.b false)], r15.2)) : Option (List AV × AH O)).bind fun r25 =>
 (AV.asB (r25.1.getD 0 .u)).bind fun b26 =>
 some ((.b b26), r25.2)
 else none
def law41_awake : Sm O := law41_awake_c image_Put image_Get law40_Is
theorem law41_awake_ent : Entered Try.prog 9 := Try.call9
theorem law41_awake_run (k13 k10 k12 : Sm O) : run (O := O) Try.prog [(13, k13), (10, k10), (12, k12)] Try.f9 (.n .z (.n .z (.n .z (.n (.g [(3, 2, [(17, .one .b)]), (7, 3, [(22, .one .b)])]) .z)))) = law41_awake_c k13 k10 k12 := by kernel_rfl
theorem law41_awake_sound : FSound RO Try.prog 9 law41_awake := sdf (law41_awake_run _ _ _) (gcons image_Put_ent image_Put_sound <| gcons image_Get_ent image_Get_sound <| gcons law40_Is_ent law40_Is_sound <| gnil) Try.func9 (by kernel_rfl)
def haymowref06_Bits_L2 (n3 : Int) (l0 : SA × Nat) : List AV × AH O -> Option ((List AV × AH O) ⊕ (List AV × AH O)) := (fun r4 =>
 (AV.asSl (r4.1.getD 0 .u)).bind fun l5 =>
 (AV.asI .i64 (r4.1.getD 1 .u)).bind fun n6 =>
 (bif (decide (n6 >= 0)) then
 let h7 := r4.2.bump 2
 (bif ((decide ((0 : Int) <= n3)) && (decide (n3 < (l0.2 : Int)))) then
 (SA.ref l0.1).bind fun q8 =>
 (h7.ld q8.1 (q8.2 + (n3.toNat * 1))).bind fun w9 =>
 (AV.asI .u8 w9).bind fun n10 =>
 (bif (decide ((IntKind.u64.wrap n6) < 0)) then
 none
 else let v11 : Int := (Int.fdiv n10 (2 ^ min (IntKind.u64.wrap n6).toNat 8))
 let h12 := h7.put r4.2.next (.cells true 4 [(.b (((Int.tmod v11 2) : Int) == 1))])
 (h12.rdSl (.loc (.n r4.2.next) 0 1) 1 1).bind fun new13 =>
 (bif (Nat.ble ((l5.2 + 1) * 2) 35184372088832) then
 (h12.appSl (r4.2.next + 1) 4 1 l5.1 l5.2 1 new13).bind fun r14 =>
 (AV.asSl r14.1).bind fun l15 =>
 some (Sum.inl ([(.sl l15.1 l15.2), (.i .i64 (IntKind.i64.wrap (n6 - 1)))], r14.2))
 else none))
 else none)
 else some (Sum.inr ([(.sl l5.1 l5.2)], r4.2))))
def haymowref06_Bits_L1 (l0 : SA × Nat) : List AV × AH O -> Option ((List AV × AH O) ⊕ (List AV × AH O)) := (fun r1 =>
 (AV.asSl (r1.1.getD 0 .u)).bind fun l2 =>
 (AV.asI .i64 (r1.1.getD 1 .u)).bind fun n3 =>
 (bif (decide (n3 < (l0.2 : Int))) then
 (loopF (S := List AV × AH O) (T := List AV × AH O) (haymowref06_Bits_L2 n3 l0) ([(.sl l2.1 l2.2), (.i .i64 7)], r1.2)).bind fun r16 =>
 (AV.asSl (r16.1.getD 0 .u)).bind fun l17 =>
 some (Sum.inl ([(.sl l17.1 l17.2), (.i .i64 (IntKind.i64.wrap (n3 + 1)))], r16.2))
 else some (Sum.inr ([(.sl l2.1 l2.2)], r1.2))))
def haymowref06_Bits_c : Sm O := fun xs h =>
 bif Nat.beq xs.length 1 then
 gtS xs 0 fun l0 =>
 (loopF (S := List AV × AH O) (T := List AV × AH O) (haymowref06_Bits_L1 l0) ([(.sl .nil 0), (.i .i64 0)], h)).bind fun r18 =>
 (AV.asSl (r18.1.getD 0 .u)).bind fun l19 =>
 some ((.sl l19.1 l19.2), r18.2)
 else none
def haymowref06_Bits : Sm O := haymowref06_Bits_c
theorem haymowref06_Bits_ent : Entered Try.prog 123 := Try.call123
theorem haymowref06_Bits_run : run (O := O) Try.prog [] Try.f123 (.n .z (.n .z (.n (.n .z (.n (.lp false 0 [(3, .one .sl), (4, .one (.i .i64))] [(3, .one .sl)] (.n (.n .z .z) (.n (.n (.n .z (.n (.lp false 2 [(3, .one .sl), (5, .one (.i .i64))] [(3, .one .sl)] (.n (.n .z .z) (.n .z .z))) .z)) .z) .z))) .z)) .z))) = haymowref06_Bits_c  := by kernel_rfl
theorem haymowref06_Bits_sound : FSound RO Try.prog 123 haymowref06_Bits := sdf haymowref06_Bits_run (gnil) Try.func123 (by kernel_rfl)
def haymowref06_List_L1 (h : AH O) : List AV × AH O -> Option ((List AV × AH O) ⊕ (List AV × AH O)) := (fun r3 =>
 (AV.asI .u64 (r3.1.getD 0 .u)).bind fun n4 =>
 (AV.asI .i64 (r3.1.getD 1 .u)).bind fun n5 =>
 (bif (decide (n5 >= 0)) then
 (bif ((decide ((0 : Int) <= n5)) && (decide (n5 < 64))) then
 (r3.2.st (.n h.next) (0 + (n5.toNat * 1)) [(.b (((Int.tmod n4 2) : Int) == 1))]).bind fun h6 =>
 some (Sum.inl ([(.i .u64 (IntKind.u64.wrap (Int.tdiv n4 2))), (.i .i64 (IntKind.i64.wrap (n5 - 1)))], h6))
 else none)
 else some (Sum.inr ([], r3.2))))
def haymowref06_List_c : Sm O := fun xs h =>
 bif Nat.beq xs.length 1 then
 gtU xs 0 fun n0 =>
 let h1 := h.bump 1
 let h2 := h1.put h.next (.cells true 4 ((List.replicate 64 [(.b false)]).flatten))
 (loopF (S := List AV × AH O) (T := List AV × AH O) (haymowref06_List_L1 h) ([(.i .u64 n0), (.i .i64 63)], h2)).bind fun r7 =>
 some ((.sl (.loc (.n h.next) 0 1) 64), r7.2)
 else none
def haymowref06_List : Sm O := haymowref06_List_c
theorem haymowref06_List_ent : Entered Try.prog 124 := Try.call124
theorem haymowref06_List_run : run (O := O) Try.prog [] Try.f124 (.n .z (.n .z (.n (.n .z (.n (.lp false 0 [(0, .one (.i .u64)), (4, .one (.i .i64))] [] (.n (.n .z .z) (.n (.n .z .z) .z))) .z)) .z))) = haymowref06_List_c  := by kernel_rfl
theorem haymowref06_List_sound : FSound RO Try.prog 124 haymowref06_List := sdf haymowref06_List_run (gnil) Try.func124 (by kernel_rfl)
def haymowref06_Word_L1 (l0 : SA × Nat) : List AV × AH O -> Option ((List AV × AH O) ⊕ (List AV × AH O)) := (fun r1 =>
 (AV.asI .u64 (r1.1.getD 0 .u)).bind fun n2 =>
 (AV.asI .i64 (r1.1.getD 1 .u)).bind fun n3 =>
 (bif (decide (n3 < 64)) then
 (bif ((decide ((0 : Int) <= n3)) && (decide (n3 < (l0.2 : Int)))) then
 (SA.ref l0.1).bind fun q4 =>
 (r1.2.ld q4.1 (q4.2 + (n3.toNat * 1))).bind fun w5 =>
 (AV.asB w5).bind fun b6 =>
 ((bif b6 then
 let v7 : Int := (IntKind.u64.wrap ((IntKind.u64.wrap (n2 * 2)) + 1))
 some ([(.i .u64 v7)], r1.2)
 else some ([(.i .u64 (IntKind.u64.wrap (n2 * 2)))], r1.2)) : Option (List AV × AH O)).bind fun r8 =>
 (AV.asI .u64 (r8.1.getD 0 .u)).bind fun n9 =>
 some (Sum.inl ([(.i .u64 n9), (.i .i64 (IntKind.i64.wrap (n3 + 1)))], r8.2))
 else none)
 else some (Sum.inr ([(.i .u64 n2)], r1.2))))
def haymowref06_Word_c : Sm O := fun xs h =>
 bif Nat.beq xs.length 1 then
 gtS xs 0 fun l0 =>
 (loopF (S := List AV × AH O) (T := List AV × AH O) (haymowref06_Word_L1 l0) ([(.i .u64 0), (.i .i64 0)], h)).bind fun r10 =>
 (AV.asI .u64 (r10.1.getD 0 .u)).bind fun n11 =>
 some ((.i .u64 n11), r10.2)
 else none
def haymowref06_Word : Sm O := haymowref06_Word_c
theorem haymowref06_Word_ent : Entered Try.prog 125 := Try.call125
theorem haymowref06_Word_run : run (O := O) Try.prog [] Try.f125 (.n .z (.n .z (.n (.n .z (.n (.lp false 0 [(3, .one (.i .u64)), (4, .one (.i .i64))] [(3, .one (.i .u64))] (.n (.n .z .z) (.n (.n (.n .z (.n .z (.j false [(3, .one (.i .u64))] .z .z))) .z) .z))) .z)) .z))) = haymowref06_Word_c  := by kernel_rfl
theorem haymowref06_Word_sound : FSound RO Try.prog 125 haymowref06_Word := sdf haymowref06_Word_run (gnil) Try.func125 (by kernel_rfl)
def haymowref06_More_L3 (n23 : Int) (l6 : SA × Nat) (l10 : SA × Nat) : List AV × AH O -> Option ((List AV × AH O) ⊕ (List AV × AH O)) := (fun r28 =>
 (AV.asI .i64 (r28.1.getD 0 .u)).bind fun n29 =>
 (bif (decide (n29 < 64)) then
 let v30 : Int := (IntKind.i64.wrap ((IntKind.i64.wrap (n23 + 1)) + n29))
 let v31 : Int := (IntKind.i64.wrap ((IntKind.i64.wrap (n23 + 1)) + n29))
 (bif ((decide ((0 : Int) <= v31)) && (decide (v31 < (l6.2 : Int)))) then
 (SA.ref l6.1).bind fun q32 =>
 (r28.2.ld q32.1 (q32.2 + (v31.toNat * 1))).bind fun w33 =>
 (AV.asB w33).bind fun b34 =>
 (bif ((decide ((0 : Int) <= n29)) && (decide (n29 < (l10.2 : Int)))) then
 (SA.ref l10.1).bind fun q35 =>
 (r28.2.ld q35.1 (q35.2 + (n29.toNat * 1))).bind fun w36 =>
 (AV.asB w36).bind fun b37 =>
 (bif ((decide ((0 : Int) <= v30)) && (decide (v30 < (l6.2 : Int)))) then
 (SA.ref l6.1).bind fun q38 =>
 (r28.2.st q38.1 (q38.2 + (v30.toNat * 1)) [(.b (!(b34 == b37)))]).bind fun h39 =>
 some (Sum.inl ([(.i .i64 (IntKind.i64.wrap (n29 + 1)))], h39))
 else none)
 else none)
 else none)
 else some (Sum.inr ([], r28.2))))
def haymowref06_More_L2 (l6 : SA × Nat) (l10 : SA × Nat) : List AV × AH O -> Option ((List AV × AH O) ⊕ (List AV × AH O)) := (fun r22 =>
 (AV.asI .i64 (r22.1.getD 0 .u)).bind fun n23 =>
 let c24 : Bool := (decide (n23 < (IntKind.i64.wrap ((l6.2 : Int) - 64))))
 (bif c24 then
 (bif ((decide ((0 : Int) <= n23)) && (decide (n23 < (l6.2 : Int)))) then
 (SA.ref l6.1).bind fun q25 =>
 (r22.2.ld q25.1 (q25.2 + (n23.toNat * 1))).bind fun w26 =>
 (AV.asB w26).bind fun b27 =>
 ((bif b27 then
 (loopF (S := List AV × AH O) (T := List AV × AH O) (haymowref06_More_L3 n23 l6 l10) ([(.i .i64 0)], r22.2)).bind fun r40 =>
 some ([], r40.2)
 else some ([], r22.2)) : Option (List AV × AH O)).bind fun r41 =>
 some (Sum.inl ([(.i .i64 (IntKind.i64.wrap (n23 + 1)))], r41.2))
 else none)
 else some (Sum.inr ([], r22.2))))
def haymowref06_More_L1 (l6 : SA × Nat) (l8 : SA × Nat) : List AV × AH O -> Option ((List AV × AH O) ⊕ (List AV × AH O)) := (fun r11 =>
 (AV.asI .i64 (r11.1.getD 0 .u)).bind fun n12 =>
 (bif (decide (n12 < 64)) then
 (bif ((decide ((0 : Int) <= n12)) && (decide (n12 < (l6.2 : Int)))) then
 (SA.ref l6.1).bind fun q13 =>
 (r11.2.ld q13.1 (q13.2 + (n12.toNat * 1))).bind fun w14 =>
 (AV.asB w14).bind fun b15 =>
 (bif ((decide ((0 : Int) <= n12)) && (decide (n12 < (l8.2 : Int)))) then
 (SA.ref l8.1).bind fun q16 =>
 (r11.2.ld q16.1 (q16.2 + (n12.toNat * 1))).bind fun w17 =>
 (AV.asB w17).bind fun b18 =>
 (bif ((decide ((0 : Int) <= n12)) && (decide (n12 < (l6.2 : Int)))) then
 (SA.ref l6.1).bind fun q19 =>
 (r11.2.st q19.1 (q19.2 + (n12.toNat * 1)) [(.b (!(b15 == b18)))]).bind fun h20 =>
 some (Sum.inl ([(.i .i64 (IntKind.i64.wrap (n12 + 1)))], h20))
 else none)
 else none)
 else none)
 else some (Sum.inr ([], r11.2))))
def haymowref06_More_c (k123 k124 k125 : Sm O) : Sm O := fun xs h =>
 bif Nat.beq xs.length 2 then
 gtU xs 0 fun n0 =>
 gtS xs 1 fun l1 =>
 let h2 := h.bump 1
 (k123 [(.sl l1.1 l1.2)] h2).bind fun r3 =>
 (AV.asSl r3.1).bind fun l4 =>
 (bif (Nat.ble ((l4.2 + 64) * 2) 35184372088832) then
 (r3.2.appSl h.next 4 1 l4.1 l4.2 64 ((List.replicate 64 [(.b false)]).flatten)).bind fun r5 =>
 (AV.asSl r5.1).bind fun l6 =>
 (k124 [(.i .u64 n0)] r5.2).bind fun r7 =>
 (AV.asSl r7.1).bind fun l8 =>
 (k124 [(.i .u64 4823603603198064275)] r7.2).bind fun r9 =>
 (AV.asSl r9.1).bind fun l10 =>
 (loopF (S := List AV × AH O) (T := List AV × AH O) (haymowref06_More_L1 l6 l8) ([(.i .i64 0)], r9.2)).bind fun r21 =>
 (loopF (S := List AV × AH O) (T := List AV × AH O) (haymowref06_More_L2 l6 l10) ([(.i .i64 0)], r21.2)).bind fun r42 =>
 (bif (((decide ((0 : Int) <= (IntKind.i64.wrap ((l6.2 : Int) - 64)))) && (decide ((IntKind.i64.wrap ((l6.2 : Int) - 64)) <= (l6.2 : Int)))) && (decide ((l6.2 : Int) <= (l6.2 : Int)))) then
 (SA.adv l6.1 (IntKind.i64.wrap ((l6.2 : Int) - 64)).toNat 1).bind fun a43 =>
 (k125 [(.sl a43 ((l6.2 : Int).toNat - (IntKind.i64.wrap ((l6.2 : Int) - 64)).toNat))] r42.2).bind fun r44 =>
 (AV.asI .u64 r44.1).bind fun n45 =>
 some ((.i .u64 n45), r44.2)
 else none)
 else none)
 else none
def haymowref06_More : Sm O := haymowref06_More_c haymowref06_Bits haymowref06_List haymowref06_Word
theorem haymowref06_More_ent : Entered Try.prog 111 := Try.call111
theorem haymowref06_More_run (k123 k124 k125 : Sm O) : run (O := O) Try.prog [(123, k123), (124, k124), (125, k125)] Try.f111 (.n .z (.n .z (.n .z (.n (.n .z (.n (.lp false 0 [(8, .one (.i .i64))] [] (.n (.n .z .z) (.n (.n (.d [] [0, 1, 2, 3, 4, 5, 6, 7, 8, 9, 10, 11, 12] [0, 0, 0, 0, 12, 28, 0, 0, 192, 448, 1020, 2047, 4095]) .z) .z))) .z)) (.n .z (.n (.n .z (.n (.lp false 2 [(10, .one (.i .i64))] [] (.n (.n .z .z) (.n (.n (.n .z (.j false [] (.n .z (.n (.lp false 4 [(11, .one (.i .i64))] [] (.n (.n .z .z) (.n (.n (.d [] [0, 1, 2, 3, 4, 5, 6, 7, 8, 9, 10, 11, 12, 13, 14, 15, 16, 17, 18] [0, 0, 2, 0, 14, 0, 0, 64, 0, 448, 992, 2016, 0, 0, 12288, 28672, 65504, 131071, 262143]) .z) .z))) .z)) .z)) .z) .z))) .z)) .z)))))) = haymowref06_More_c k123 k124 k125 := by kernel_rfl
theorem haymowref06_More_sound : FSound RO Try.prog 111 haymowref06_More := sdf (haymowref06_More_run _ _ _) (gcons haymowref06_Bits_ent haymowref06_Bits_sound <| gcons haymowref06_List_ent haymowref06_List_sound <| gcons haymowref06_Word_ent haymowref06_Word_sound <| gnil) Try.func111 (by kernel_rfl)
def haymowref06_Sum_c (k111 : Sm O) : Sm O := fun xs h =>
 bif Nat.beq xs.length 1 then
 gtS xs 0 fun l0 =>
 (k111 [(.i .u64 0), (.sl l0.1 l0.2)] h).bind fun r1 =>
 (AV.asI .u64 r1.1).bind fun n2 =>
 some ((.i .u64 n2), r1.2)
 else none
def haymowref06_Sum : Sm O := haymowref06_Sum_c haymowref06_More
theorem haymowref06_Sum_ent : Entered Try.prog 89 := Try.call89
theorem haymowref06_Sum_run (k111 : Sm O) : run (O := O) Try.prog [(111, k111)] Try.f89 (.n .z .z) = haymowref06_Sum_c k111 := by kernel_rfl
theorem haymowref06_Sum_sound : FSound RO Try.prog 89 haymowref06_Sum := sdf (haymowref06_Sum_run _) (gcons haymowref06_More_ent haymowref06_More_sound <| gnil) Try.func89 (by kernel_rfl)
def haymowref06_Seal_L1 (n7 : Int) : List AV × AH O -> Option ((List AV × AH O) ⊕ (List AV × AH O)) := (fun r8 =>
 (AV.asSl (r8.1.getD 0 .u)).bind fun l9 =>
 (AV.asI .i64 (r8.1.getD 1 .u)).bind fun n10 =>
 (bif (decide (n10 >= 0)) then
 let h11 := r8.2.bump 2
 (bif (decide ((IntKind.u64.wrap (IntKind.i64.wrap (8 * n10))) < 0)) then
 none
 else let v12 : Int := (Int.fdiv n7 (2 ^ min (IntKind.u64.wrap (IntKind.i64.wrap (8 * n10))).toNat 64))
 let h13 := h11.put r8.2.next (.cells true 5 [(.i .u8 (IntKind.u8.wrap v12))])
 (h13.rdSl (.loc (.n r8.2.next) 0 1) 1 1).bind fun new14 =>
 (bif (Nat.ble ((l9.2 + 1) * 2) 35184372088832) then
 (h13.appSl (r8.2.next + 1) 5 1 l9.1 l9.2 1 new14).bind fun r15 =>
 (AV.asSl r15.1).bind fun l16 =>
 some (Sum.inl ([(.sl l16.1 l16.2), (.i .i64 (IntKind.i64.wrap (n10 - 1)))], r15.2))
 else none))
 else some (Sum.inr ([(.sl l9.1 l9.2)], r8.2))))
def haymowref06_Seal_c (k89 : Sm O) : Sm O := fun xs h =>
 bif Nat.beq xs.length 1 then
 gtS xs 0 fun l0 =>
 let h1 := h.bump 2
 let h2 := h1.put h.next (.cells true 5 [])
 (h2.rdSl l0.1 l0.2 1).bind fun new3 =>
 (bif (Nat.ble ((0 + l0.2) * 2) 35184372088832) then
 (h2.appSl (h.next + 1) 5 1 (.loc (.n h.next) 0 1) 0 l0.2 new3).bind fun r4 =>
 (AV.asSl r4.1).bind fun l5 =>
 (k89 [(.sl l0.1 l0.2)] r4.2).bind fun r6 =>
 (AV.asI .u64 r6.1).bind fun n7 =>
 (loopF (S := List AV × AH O) (T := List AV × AH O) (haymowref06_Seal_L1 n7) ([(.sl l5.1 l5.2), (.i .i64 7)], r6.2)).bind fun r17 =>
 (AV.asSl (r17.1.getD 0 .u)).bind fun l18 =>
 some ((.sl l18.1 l18.2), r17.2)
 else none)
 else none
def haymowref06_Seal : Sm O := frz (haymowref06_Seal_c haymowref06_Sum)
theorem haymowref06_Seal_ent : Entered Try.prog 45 := Try.call45
theorem haymowref06_Seal_run (k89 : Sm O) : run (O := O) Try.prog [(89, k89)] Try.f45 (.n .z (.n .z (.n .z (.n (.n .z (.n (.lp false 0 [(3, .one .sl), (5, .one (.i .i64))] [(3, .one .sl)] (.n (.n .z .z) (.n .z .z))) .z)) .z)))) = haymowref06_Seal_c k89 := by kernel_rfl
theorem haymowref06_Seal_sound : FSound RO Try.prog 45 (haymowref06_Seal) :=
   have h : FSound RO Try.prog 45 (haymowref06_Seal_c haymowref06_Sum) := (haymowref06_Seal_run haymowref06_Sum) ▸ run_sound (gcons haymowref06_Sum_ent (haymowref06_Sum_sound) <| gnil) mixed Try.func45 (by kernel_rfl) _
   h.frz
def haymowref12_Pack_c : Sm O := fun xs h =>
 bif Nat.beq xs.length 1 then
 (AV.asAgg 5 (xs.getD 0 .u)).bind fun c0 =>
 gtI c0 0 fun n1 =>
 gtI c0 1 fun n2 =>
 gtI c0 2 fun n3 =>
 gtI c0 3 fun n4 =>
 (AV.asB (c0.getD 4 .u)).bind fun b5 =>
 let h6 := h.bump 1
 let h7 := h6.put h.next (.cells true 53 [(.i .i64 n1), (.i .i64 n2), (.i .i64 n3), (.i .i64 n4), (.b b5)])
 (h7.ld (.n h.next) 4).bind fun w8 =>
 (AV.asB w8).bind fun b9 =>
 ((bif b9 then
 let v10 : Int := (IntKind.u64.wrap (4611686018427387904 + 4294967296))
 some ([(.i .u64 v10)], h7)
 else some ([(.i .u64 4611686018427387904)], h7)) : Option (List AV × AH O)).bind fun r11 =>
 (AV.asI .u64 (r11.1.getD 0 .u)).bind fun n12 =>
 ldI r11.2 (.n h.next) 3 fun n14 =>
 let v15 : Int := (IntKind.u64.wrap ((IntKind.u64.wrap n14) * 536870912))
 ldI r11.2 (.n h.next) 2 fun n17 =>
 let v18 : Int := (IntKind.u64.wrap ((IntKind.u64.wrap n17) * 16777216))
 let v19 : Int := (IntKind.u64.wrap ((IntKind.u64.wrap (n12 + v15)) + v18))
 ldI r11.2 (.n h.next) 1 fun n21 =>
 let v22 : Int := (IntKind.u64.wrap ((IntKind.u64.wrap n21) * 4096))
 ldI r11.2 (.n h.next) 0 fun n24 =>
 let v25 : Int := (IntKind.u64.wrap ((IntKind.u64.wrap (v19 + v22)) + (IntKind.u64.wrap n24)))
 some ((.i .u64 v25), r11.2)
 else none
def haymowref12_Pack : Sm O := haymowref12_Pack_c
theorem haymowref12_Pack_ent : Entered Try.prog 99 := Try.call99
theorem haymowref12_Pack_run : run (O := O) Try.prog [] Try.f99 (.n .z (.n .z (.n (.n .z (.j false [(3, .one (.i .u64))] .z .z)) .z))) = haymowref12_Pack_c  := by kernel_rfl
theorem haymowref12_Pack_sound : FSound RO Try.prog 99 haymowref12_Pack := sdf haymowref12_Pack_run (gnil) Try.func99 (by kernel_rfl)
def haymowref12_Check_c : Sm O := fun xs h =>
 bif Nat.beq xs.length 1 then
 (AV.asAgg 5 (xs.getD 0 .u)).bind fun c0 =>
 gtI c0 0 fun n1 =>
 gtI c0 1 fun n2 =>
 gtI c0 2 fun n3 =>
 gtI c0 3 fun n4 =>
 (AV.asB (c0.getD 4 .u)).bind fun b5 =>
 let h6 := h.bump 1
 let h7 := h6.put h.next (.cells true 53 [(.i .i64 n1), (.i .i64 n2), (.i .i64 n3), (.i .i64 n4), (.b b5)])
 ldI h7 (.n h.next) 0 fun n9 =>
 ldI h7 (.n h.next) 1 fun n11 =>
 ((bif ((decide (n9 < 0)) == false) then
 some ([(.b (decide (n9 > 4095)))], h7)
 else some ([(.b true)], h7)) : Option (List AV × AH O)).bind fun r12 =>
 (AV.asB (r12.1.getD 0 .u)).bind fun b13 =>
 ((bif (b13 == false) then
 some ([(.b (decide (n11 < 0)))], r12.2)
 else some ([(.b true)], r12.2)) : Option (List AV × AH O)).bind fun r14 =>
 (AV.asB (r14.1.getD 0 .u)).bind fun b15 =>
 ((bif (b15 == false) then
 some ([(.b (decide (n11 > 4095)))], r14.2)
 else some ([(.b true)], r14.2)) : Option (List AV × AH O)).bind fun r16 =>
 (AV.asB (r16.1.getD 0 .u)).bind fun b17 =>
 (bif b17 then
 some ((.i .i64 20), r16.2)
 else ldI r16.2 (.n h.next) 2 fun n19 =>
 ((bif ((decide (n19 < 0)) == false) then
 ldI r16.2 (.n h.next) 2 fun n21 =>
 some ([(.b (decide (n21 > 31)))], r16.2)
 else some ([(.b true)], r16.2)) : Option (List AV × AH O)).bind fun r22 =>
 (AV.asB (r22.1.getD 0 .u)).bind fun b23 =>
 (bif b23 then
 some ((.i .i64 21), r22.2)
 else ldI r22.2 (.n h.next) 3 fun n25 =>
 ((bif ((decide (n25 < 0)) == false) then
 ldI r22.2 (.n h.next) 3 fun n27 =>
 some ([(.b (decide (n27 > 7)))], r22.2)
 else some ([(.b true)], r22.2)) : Option (List AV × AH O)).bind fun r28 =>
 (AV.asB (r28.1.getD 0 .u)).bind fun b29 =>
 (bif b29 then
 some ((.i .i64 2), r28.2)
 else some ((.i .i64 0), r28.2))))
 else none
def haymowref12_Check : Sm O := haymowref12_Check_c
theorem haymowref12_Check_ent : Entered Try.prog 56 := Try.call56
theorem haymowref12_Check_run : run (O := O) Try.prog [] Try.f56 (.n .z (.n (.d [] [0, 1, 2, 3, 4, 5, 6, 7] [0, 1, 3, 0, 8, 24, 7, 127]) (.n (.n (.g [(2, 2, [(16, .one .b)]), (6, 2, [(20, .one .b)]), (10, 2, [(24, .one .b)])]) (.n .z .z)) (.n (.n (.g [(3, 3, [(32, .one .b)])]) (.n .z .z)) (.n (.n (.g [(3, 3, [(40, .one .b)])]) (.n .z .z)) .z))))) = haymowref12_Check_c  := by kernel_rfl
theorem haymowref12_Check_sound : FSound RO Try.prog 56 haymowref12_Check := sdf haymowref12_Check_run (gnil) Try.func56 (by kernel_rfl)
def haymowref40_Right_L4 (h : AH O) : List AV × AH O -> Option ((List AV × AH O) ⊕ ((List AV × AH O) ⊕ (AV × AH O))) := (fun r124 =>
 (AV.asI .i64 (r124.1.getD 0 .u)).bind fun n125 =>
 ldS r124.2 (.n h.next) 2 fun l127 =>
 (bif (decide (n125 < (l127.2 : Int))) then
 ldS r124.2 (.n h.next) 2 fun l129 =>
 (bif ((decide ((0 : Int) <= n125)) && (decide (n125 < (l129.2 : Int)))) then
 (SA.ref l129.1).bind fun q130 =>
 ldI r124.2 q130.1 (q130.2 + (n125.toNat * 1)) fun n132 =>
 ((bif ((decide (n132 < 0)) == false) then
 ldS r124.2 (.n h.next) 2 fun l134 =>
 (bif ((decide ((0 : Int) <= n125)) && (decide (n125 < (l134.2 : Int)))) then
 (SA.ref l134.1).bind fun q135 =>
 ldI r124.2 q135.1 (q135.2 + (n125.toNat * 1)) fun n137 =>
 ldS r124.2 (.n h.next) 0 fun l139 =>
 some ([(.b (decide (n137 > (l139.2 : Int))))], r124.2)
 else none)
 else some ([(.b true)], r124.2)) : Option (List AV × AH O)).bind fun r140 =>
 (AV.asB (r140.1.getD 0 .u)).bind fun b141 =>
 (bif b141 then
 ((some ((.b false), r140.2) : Option (AV × AH O)).map fun r => Sum.inr (Sum.inr r))
 else some (Sum.inl ([(.i .i64 (IntKind.i64.wrap (n125 + 1)))], r140.2)))
 else none)
 else some (Sum.inr (Sum.inl ([], r124.2)))))
def haymowref40_Right_L3 (r39 : List AV × AH O) (h : AH O) : List AV × AH O -> Option ((List AV × AH O) ⊕ ((List AV × AH O) ⊕ ((List AV × AH O) ⊕ ((List AV × AH O) ⊕ (AV × AH O))))) := (fun r90 =>
 (AV.asI .i64 (r90.1.getD 0 .u)).bind fun n91 =>
 (AV.asI .i64 (r90.1.getD 1 .u)).bind fun n92 =>
 ldS r90.2 (.n r39.2.next) 5 fun l94 =>
 (bif (decide (n92 < (l94.2 : Int))) then
 ldS r90.2 (.n r39.2.next) 5 fun l96 =>
 (bif ((decide ((0 : Int) <= n92)) && (decide (n92 < (l96.2 : Int)))) then
 (SA.ref l96.1).bind fun q97 =>
 ldI r90.2 q97.1 (q97.2 + (n92.toNat * 1)) fun n99 =>
 ((bif ((decide (n99 < 0)) == false) then
 ldS r90.2 (.n r39.2.next) 5 fun l101 =>
 (bif ((decide ((0 : Int) <= n92)) && (decide (n92 < (l101.2 : Int)))) then
 (SA.ref l101.1).bind fun q102 =>
 ldI r90.2 q102.1 (q102.2 + (n92.toNat * 1)) fun n104 =>
 ldS r90.2 (.n h.next) 0 fun l106 =>
 some ([(.b (decide (n104 > (l106.2 : Int))))], r90.2)
 else none)
 else some ([(.b true)], r90.2)) : Option (List AV × AH O)).bind fun r107 =>
 (AV.asB (r107.1.getD 0 .u)).bind fun b108 =>
 ((bif (b108 == false) then
 ldS r107.2 (.n r39.2.next) 5 fun l110 =>
 (bif ((decide ((0 : Int) <= n92)) && (decide (n92 < (l110.2 : Int)))) then
 (SA.ref l110.1).bind fun q111 =>
 ldI r107.2 q111.1 (q111.2 + (n92.toNat * 1)) fun n113 =>
 some ([(.b (decide (n113 > (IntKind.i64.wrap (n91 + 1)))))], r107.2)
 else none)
 else some ([(.b true)], r107.2)) : Option (List AV × AH O)).bind fun r114 =>
 (AV.asB (r114.1.getD 0 .u)).bind fun b115 =>
 (bif b115 then
 ((((some ((.b false), r114.2) : Option (AV × AH O)).map fun r => Sum.inr (Sum.inr r)) : Option ((List AV × AH O) ⊕ ((List AV × AH O) ⊕ (AV × AH O)))).map fun r => Sum.inr (Sum.inr r))
 else ldS r114.2 (.n r39.2.next) 5 fun l117 =>
 (bif ((decide ((0 : Int) <= n92)) && (decide (n92 < (l117.2 : Int)))) then
 (SA.ref l117.1).bind fun q118 =>
 ldI r114.2 q118.1 (q118.2 + (n92.toNat * 1)) fun n120 =>
 some (Sum.inl ([(.i .i64 (if n120 > n91 then n120 else n91)), (.i .i64 (IntKind.i64.wrap (n92 + 1)))], r114.2))
 else none))
 else none)
 else some (Sum.inr (Sum.inl ([(.i .i64 n91)], r90.2)))))
def haymowref40_Right_L2 (h : AH O) (k56 : Sm O) : List AV × AH O -> Option ((List AV × AH O) ⊕ ((List AV × AH O) ⊕ (AV × AH O))) := (fun r39 =>
 (AV.asI .i64 (r39.1.getD 0 .u)).bind fun n40 =>
 (AV.asI .i64 (r39.1.getD 1 .u)).bind fun n41 =>
 ldS r39.2 (.n h.next) 0 fun l43 =>
 (bif (decide (n41 < (l43.2 : Int))) then
 let h44 := r39.2.bump 1
 ldS h44 (.n h.next) 0 fun l46 =>
 (bif ((decide ((0 : Int) <= n41)) && (decide (n41 < (l46.2 : Int)))) then
 (SA.ref l46.1).bind fun q47 =>
 ldI h44 q47.1 (q47.2 + (n41.toNat * 7)) fun n49 =>
 ldI h44 q47.1 ((q47.2 + (n41.toNat * 7)) + 1) fun n51 =>
 ldI h44 q47.1 (((q47.2 + (n41.toNat * 7)) + 1) + 1) fun n53 =>
 ldI h44 q47.1 ((((q47.2 + (n41.toNat * 7)) + 1) + 1) + 1) fun n55 =>
 (h44.ld q47.1 (((((q47.2 + (n41.toNat * 7)) + 1) + 1) + 1) + 1)).bind fun w56 =>
 (AV.asB w56).bind fun b57 =>
 ldS h44 q47.1 ((((((q47.2 + (n41.toNat * 7)) + 1) + 1) + 1) + 1) + 1) fun l59 =>
 ldS h44 q47.1 (((((((q47.2 + (n41.toNat * 7)) + 1) + 1) + 1) + 1) + 1) + 1) fun l61 =>
 let h62 := h44.put r39.2.next (.cells true 97 [(.i .i64 0), (.i .i64 0), (.i .i64 0), (.i .i64 0), (.b false), (.sl .nil 0), (.sl .nil 0)])
 (h62.st (.n r39.2.next) 0 [(.i .i64 n49), (.i .i64 n51), (.i .i64 n53), (.i .i64 n55), (.b b57), (.sl l59.1 l59.2), (.sl l61.1 l61.2)]).bind fun h63 =>
 ((bif ((decide (n40 <= n41)) == false) then
 ldI h63 (.n r39.2.next) 0 fun n65 =>
 ldI h63 (.n r39.2.next) 1 fun n67 =>
 ldI h63 (.n r39.2.next) 2 fun n69 =>
 ldI h63 (.n r39.2.next) 3 fun n71 =>
 (h63.ld (.n r39.2.next) 4).bind fun w72 =>
 (AV.asB w72).bind fun b73 =>
 (k56 [(.agg [(.i .i64 n65), (.i .i64 n67), (.i .i64 n69), (.i .i64 n71), (.b b73)])] h63).bind fun r74 =>
 (AV.asI .i64 r74.1).bind fun n75 =>
 some ([(.b ((n75 : Int) != 0))], r74.2)
 else some ([(.b true)], h63)) : Option (List AV × AH O)).bind fun r76 =>
 (AV.asB (r76.1.getD 0 .u)).bind fun b77 =>
 ((bif (b77 == false) then
 ldS r76.2 (.n r39.2.next) 5 fun l79 =>
 ldI r76.2 (.n r39.2.next) 0 fun n81 =>
 some ([(.b (((l79.2 : Int) : Int) != n81))], r76.2)
 else some ([(.b true)], r76.2)) : Option (List AV × AH O)).bind fun r82 =>
 (AV.asB (r82.1.getD 0 .u)).bind fun b83 =>
 ((bif (b83 == false) then
 ldS r82.2 (.n r39.2.next) 6 fun l85 =>
 ldI r82.2 (.n r39.2.next) 1 fun n87 =>
 some ([(.b (((l85.2 : Int) : Int) != n87))], r82.2)
 else some ([(.b true)], r82.2)) : Option (List AV × AH O)).bind fun r88 =>
 (AV.asB (r88.1.getD 0 .u)).bind fun b89 =>
 (bif b89 then
 ((some ((.b false), r88.2) : Option (AV × AH O)).map fun r => Sum.inr (Sum.inr r))
 else bindS (S := List AV × AH O) (R := ((List AV × AH O) ⊕ ((List AV × AH O) ⊕ (AV × AH O)))) (loopF (S := List AV × AH O) (T := (List AV × AH O) ⊕ ((List AV × AH O) ⊕ ((List AV × AH O) ⊕ (AV × AH O)))) (haymowref40_Right_L3 r39 h) ([(.i .i64 n40), (.i .i64 0)], r88.2)) fun r121 =>
 (AV.asI .i64 (r121.1.getD 0 .u)).bind fun n122 =>
 some (Sum.inl ([(.i .i64 n122), (.i .i64 (IntKind.i64.wrap (n41 + 1)))], r121.2)))
 else none)
 else some (Sum.inr (Sum.inl ([], r39.2)))))
def haymowref40_Right_L1 (h : AH O) : List AV × AH O -> Option ((List AV × AH O) ⊕ ((List AV × AH O) ⊕ (AV × AH O))) := (fun r6 =>
 (AV.asI .i64 (r6.1.getD 0 .u)).bind fun n7 =>
 (AV.asI .i64 (r6.1.getD 1 .u)).bind fun n8 =>
 ldS r6.2 (.n h.next) 1 fun l10 =>
 (bif (decide (n8 < (l10.2 : Int))) then
 ldS r6.2 (.n h.next) 1 fun l12 =>
 (bif ((decide ((0 : Int) <= n8)) && (decide (n8 < (l12.2 : Int)))) then
 (SA.ref l12.1).bind fun q13 =>
 ldI r6.2 q13.1 (q13.2 + (n8.toNat * 1)) fun n15 =>
 ((bif ((decide (n15 < 1)) == false) then
 ldS r6.2 (.n h.next) 1 fun l17 =>
 (bif ((decide ((0 : Int) <= n8)) && (decide (n8 < (l17.2 : Int)))) then
 (SA.ref l17.1).bind fun q18 =>
 ldI r6.2 q18.1 (q18.2 + (n8.toNat * 1)) fun n20 =>
 ldS r6.2 (.n h.next) 0 fun l22 =>
 some ([(.b (decide (n20 > (l22.2 : Int))))], r6.2)
 else none)
 else some ([(.b true)], r6.2)) : Option (List AV × AH O)).bind fun r23 =>
 (AV.asB (r23.1.getD 0 .u)).bind fun b24 =>
 ((bif (b24 == false) then
 ldS r23.2 (.n h.next) 1 fun l26 =>
 (bif ((decide ((0 : Int) <= n8)) && (decide (n8 < (l26.2 : Int)))) then
 (SA.ref l26.1).bind fun q27 =>
 ldI r23.2 q27.1 (q27.2 + (n8.toNat * 1)) fun n29 =>
 some ([(.b (decide (n29 > (IntKind.i64.wrap (n7 + 1)))))], r23.2)
 else none)
 else some ([(.b true)], r23.2)) : Option (List AV × AH O)).bind fun r30 =>
 (AV.asB (r30.1.getD 0 .u)).bind fun b31 =>
 (bif b31 then
 ((some ((.b false), r30.2) : Option (AV × AH O)).map fun r => Sum.inr (Sum.inr r))
 else ldS r30.2 (.n h.next) 1 fun l33 =>
 (bif ((decide ((0 : Int) <= n8)) && (decide (n8 < (l33.2 : Int)))) then
 (SA.ref l33.1).bind fun q34 =>
 ldI r30.2 q34.1 (q34.2 + (n8.toNat * 1)) fun n36 =>
 some (Sum.inl ([(.i .i64 (if n36 > n7 then n36 else n7)), (.i .i64 (IntKind.i64.wrap (n8 + 1)))], r30.2))
 else none))
 else none)
 else some (Sum.inr (Sum.inl ([(.i .i64 n7)], r6.2)))))
def haymowref40_Right_c (k56 : Sm O) : Sm O := fun xs h =>
 bif Nat.beq xs.length 1 then
 (AV.asAgg 3 (xs.getD 0 .u)).bind fun c0 =>
 gtS c0 0 fun l1 =>
 gtS c0 1 fun l2 =>
 gtS c0 2 fun l3 =>
 let h4 := h.bump 1
 let h5 := h4.put h.next (.cells true 33 [(.sl l1.1 l1.2), (.sl l2.1 l2.2), (.sl l3.1 l3.2)])
 bindS (S := List AV × AH O) (R := (AV × AH O)) (loopF (S := List AV × AH O) (T := (List AV × AH O) ⊕ (AV × AH O)) (haymowref40_Right_L1 h) ([(.i .i64 0), (.i .i64 0)], h5)) fun r37 =>
 (AV.asI .i64 (r37.1.getD 0 .u)).bind fun n38 =>
 bindS (S := List AV × AH O) (R := (AV × AH O)) (loopF (S := List AV × AH O) (T := (List AV × AH O) ⊕ (AV × AH O)) (haymowref40_Right_L2 h k56) ([(.i .i64 n38), (.i .i64 0)], r37.2)) fun r123 =>
 bindS (S := List AV × AH O) (R := (AV × AH O)) (loopF (S := List AV × AH O) (T := (List AV × AH O) ⊕ (AV × AH O)) (haymowref40_Right_L4 h) ([(.i .i64 0)], r123.2)) fun r142 =>
 some ((.b true), r142.2)
 else none
def haymowref40_Right : Sm O := haymowref40_Right_c haymowref12_Check
theorem haymowref40_Right_ent : Entered Try.prog 18 := Try.call18
theorem haymowref40_Right_run (k56 : Sm O) : run (O := O) Try.prog [(56, k56)] Try.f18 (.n .z (.n .z (.n (.n .z (.n (.lp true 0 [(3, .one (.i .i64)), (4, .one (.i .i64))] [(3, .one (.i .i64))] (.n (.n .z .z) (.n (.n (.n (.n (.d [(6, 9, [(32, .one .b)]), (17, 8, [(42, .one .b)])] [0, 1, 2, 3, 4, 5, 6, 7, 8, 9, 10, 11, 12, 13, 14, 15, 16, 17, 18, 19, 20, 21, 22, 23, 24, 25, 26] [0, 1, 0, 7, 15, 31, 63, 127, 255, 127, 1023, 2047, 127, 4223, 12415, 32767, 65535, 131071, 262143, 524287, 262143, 2097151, 4194303, 262143, 8650751, 33554431, 67108863]) (.n .z .z)) .z) .z) .z))) .z)) (.n (.n .z (.n (.lp true 2 [(3, .one (.i .i64)), (5, .one (.i .i64))] [] (.n (.n .z .z) (.n (.n (.n .z (.n (.n (.g [(3, 4, [(70, .one .b)]), (9, 8, [(80, .one .b)]), (19, 8, [(90, .one .b)])]) (.n .z .z)) (.n .z (.n (.lp true 4 [(3, .one (.i .i64)), (7, .one (.i .i64))] [(3, .one (.i .i64))] (.n (.n .z .z) (.n (.n (.n (.n (.d [(6, 9, [(114, .one .b)]), (17, 8, [(124, .one .b)])] [0, 1, 2, 3, 4, 5, 6, 7, 8, 9, 10, 11, 12, 13, 14, 15, 16, 17, 18, 19, 20, 21, 22, 23, 24, 25, 26] [0, 1, 0, 7, 15, 31, 63, 127, 255, 127, 1023, 2047, 127, 4223, 12415, 32767, 65535, 131071, 262143, 524287, 262143, 2097151, 4194303, 262143, 8650751, 33554431, 67108863]) (.n .z .z)) .z) .z) .z))) .z)))) .z) .z))) .z)) (.n (.n .z (.n (.lp true 6 [(8, .one (.i .i64))] [] (.n (.n .z .z) (.n (.n (.n (.d [(6, 9, [(155, .one .b)])] [0, 1, 2, 3, 4, 5, 6, 7, 8, 9, 10, 11, 12, 13, 14, 15, 16] [0, 1, 0, 7, 15, 31, 63, 127, 255, 127, 1023, 2047, 127, 4223, 12415, 32767, 65535]) (.n .z .z)) .z) .z))) .z)) .z))))) = haymowref40_Right_c k56 := by kernel_rfl
theorem haymowref40_Right_sound : FSound RO Try.prog 18 haymowref40_Right := sdf (haymowref40_Right_run _) (gcons haymowref12_Check_ent haymowref12_Check_sound <| gnil) Try.func18 (by kernel_rfl)
def law41_few_L1 (h : AH O) : List AV × AH O -> Option ((List AV × AH O) ⊕ ((List AV × AH O) ⊕ (AV × AH O))) := (fun r6 =>
 (AV.asI .i64 (r6.1.getD 0 .u)).bind fun n7 =>
 ldS r6.2 (.n h.next) 0 fun l9 =>
 ((bif ((decide (n7 < (l9.2 : Int))) == true) then
 some ([(.b (decide (n7 < 20)))], r6.2)
 else some ([(.b false)], r6.2)) : Option (List AV × AH O)).bind fun r10 =>
 (AV.asB (r10.1.getD 0 .u)).bind fun b11 =>
 (bif b11 then
 ldS r10.2 (.n h.next) 0 fun l13 =>
 (bif ((decide ((0 : Int) <= n7)) && (decide (n7 < (l13.2 : Int)))) then
 (SA.ref l13.1).bind fun q14 =>
 ldS r10.2 q14.1 ((q14.2 + (n7.toNat * 7)) + 5) fun l16 =>
 ((bif ((decide ((l16.2 : Int) > 20)) == false) then
 ldS r10.2 (.n h.next) 0 fun l18 =>
 (bif ((decide ((0 : Int) <= n7)) && (decide (n7 < (l18.2 : Int)))) then
 (SA.ref l18.1).bind fun q19 =>
 ldS r10.2 q19.1 ((q19.2 + (n7.toNat * 7)) + 6) fun l21 =>
 some ([(.b (decide ((l21.2 : Int) > 20)))], r10.2)
 else none)
 else some ([(.b true)], r10.2)) : Option (List AV × AH O)).bind fun r22 =>
 (AV.asB (r22.1.getD 0 .u)).bind fun b23 =>
 (bif b23 then
 ((some ((.b false), r22.2) : Option (AV × AH O)).map fun r => Sum.inr (Sum.inr r))
 else some (Sum.inl ([(.i .i64 (IntKind.i64.wrap (n7 + 1)))], r22.2)))
 else none)
 else some (Sum.inr (Sum.inl ([], r10.2)))))
def law41_few_c : Sm O := fun xs h =>
 bif Nat.beq xs.length 1 then
 (AV.asAgg 3 (xs.getD 0 .u)).bind fun c0 =>
 gtS c0 0 fun l1 =>
 gtS c0 1 fun l2 =>
 gtS c0 2 fun l3 =>
 let h4 := h.bump 1
 let h5 := h4.put h.next (.cells true 27 [(.sl l1.1 l1.2), (.sl l2.1 l2.2), (.sl l3.1 l3.2)])
 bindS (S := List AV × AH O) (R := (AV × AH O)) (loopF (S := List AV × AH O) (T := (List AV × AH O) ⊕ (AV × AH O)) (law41_few_L1 h) ([(.i .i64 0)], h5)) fun r24 =>
 ldS r24.2 (.n h.next) 0 fun l26 =>
 ((bif ((decide ((l26.2 : Int) <= 20)) == true) then
 ldS r24.2 (.n h.next) 1 fun l28 =>
 some ([(.b (decide ((l28.2 : Int) <= 300)))], r24.2)
 else some ([(.b false)], r24.2)) : Option (List AV × AH O)).bind fun r29 =>
 (AV.asB (r29.1.getD 0 .u)).bind fun b30 =>
 ((bif (b30 == true) then
 ldS r29.2 (.n h.next) 2 fun l32 =>
 some ([(.b (decide ((l32.2 : Int) <= 20)))], r29.2)
 else some ([(.b false)], r29.2)) : Option (List AV × AH O)).bind fun r33 =>
 (AV.asB (r33.1.getD 0 .u)).bind fun b34 =>
 some ((.b b34), r33.2)
 else none
def law41_few : Sm O := law41_few_c
theorem law41_few_ent : Entered Try.prog 14 := Try.call14
theorem law41_few_run : run (O := O) Try.prog [] Try.f14 (.n .z (.n (.n .z (.n (.lp true 0 [(3, .one (.i .i64))] [] (.n (.n (.g [(5, 2, [(12, .one .b)])]) .z) (.n (.n (.n (.g [(8, 8, [(32, .one .b)])]) (.n .z .z)) .z) .z))) .z)) (.n (.g [(4, 4, [(42, .one .b)]), (10, 4, [(48, .one .b)])]) .z))) = law41_few_c  := by kernel_rfl
theorem law41_few_sound : FSound RO Try.prog 14 law41_few := sdf law41_few_run (gnil) Try.func14 (by kernel_rfl)
def law40_Ref_L1 (h : AH O) (h6 : AH O) : List AV × AH O -> Option ((List AV × AH O) ⊕ (List AV × AH O)) := (fun r14 =>
 (AV.asI .i64 (r14.1.getD 0 .u)).bind fun n15 =>
 ldS r14.2 (.n h.next) 0 fun l17 =>
 (bif (decide (n15 < (l17.2 : Int))) then
 let h18 := r14.2.bump 2
 ldS h18 (.n h6.next) 0 fun l20 =>
 ldS h18 (.n h.next) 0 fun l22 =>
 (bif ((decide ((0 : Int) <= n15)) && (decide (n15 < (l22.2 : Int)))) then
 (SA.ref l22.1).bind fun q23 =>
 ldI h18 q23.1 (q23.2 + (n15.toNat * 7)) fun n25 =>
 ldI h18 q23.1 ((q23.2 + (n15.toNat * 7)) + 1) fun n27 =>
 ldI h18 q23.1 (((q23.2 + (n15.toNat * 7)) + 1) + 1) fun n29 =>
 ldI h18 q23.1 ((((q23.2 + (n15.toNat * 7)) + 1) + 1) + 1) fun n31 =>
 (h18.ld q23.1 (((((q23.2 + (n15.toNat * 7)) + 1) + 1) + 1) + 1)).bind fun w32 =>
 (AV.asB w32).bind fun b33 =>
 ldS h18 (.n h.next) 0 fun l35 =>
 (bif ((decide ((0 : Int) <= n15)) && (decide (n15 < (l35.2 : Int)))) then
 (SA.ref l35.1).bind fun q36 =>
 ldS h18 q36.1 ((q36.2 + (n15.toNat * 7)) + 5) fun l38 =>
 ldS h18 (.n h.next) 0 fun l40 =>
 (bif ((decide ((0 : Int) <= n15)) && (decide (n15 < (l40.2 : Int)))) then
 (SA.ref l40.1).bind fun q41 =>
 ldS h18 q41.1 ((q41.2 + (n15.toNat * 7)) + 6) fun l43 =>
 let h44 := h18.put r14.2.next (.cells true 97 [(.i .i64 n25), (.i .i64 n27), (.i .i64 n29), (.i .i64 n31), (.b b33), (.sl l38.1 l38.2), (.sl l43.1 l43.2)])
 (h44.rdSl (.loc (.n r14.2.next) 0 7) 1 7).bind fun new45 =>
 (bif (Nat.ble ((l20.2 + 1) * 89) 35184372088832) then
 (h44.appSl (r14.2.next + 1) 97 7 l20.1 l20.2 1 new45).bind fun r46 =>
 (AV.asSl r46.1).bind fun l47 =>
 (r46.2.st (.n h6.next) 0 [(.sl l47.1 l47.2)]).bind fun h48 =>
 some (Sum.inl ([(.i .i64 (IntKind.i64.wrap (n15 + 1)))], h48))
 else none)
 else none)
 else none)
 else none)
 else some (Sum.inr ([], r14.2))))
def law40_Ref_c : Sm O := fun xs h =>
 bif Nat.beq xs.length 1 then
 (AV.asAgg 3 (xs.getD 0 .u)).bind fun c0 =>
 gtS c0 0 fun l1 =>
 gtS c0 1 fun l2 =>
 gtS c0 2 fun l3 =>
 let h4 := h.bump 2
 let h5 := h4.put h.next (.cells true 27 [(.sl l1.1 l1.2), (.sl l2.1 l2.2), (.sl l3.1 l3.2)])
 let h6 := h5.put (h.next + 1) (.cells true 33 [(.sl .nil 0), (.sl .nil 0), (.sl .nil 0)])
 let h7 := h6.bump 1
 ldS h7 (.n h.next) 1 fun l9 =>
 ldS h7 (.n h.next) 2 fun l11 =>
 let h12 := h7.put h6.next (.cells true 33 [(.sl .nil 0), (.sl .nil 0), (.sl .nil 0)])
 (h12.st (.n h6.next) 0 [(.sl .nil 0), (.sl l9.1 l9.2), (.sl l11.1 l11.2)]).bind fun h13 =>
 (loopF (S := List AV × AH O) (T := List AV × AH O) (law40_Ref_L1 h h6) ([(.i .i64 0)], h13)).bind fun r49 =>
 ldS r49.2 (.n h6.next) 0 fun l51 =>
 ldS r49.2 (.n h6.next) 1 fun l53 =>
 ldS r49.2 (.n h6.next) 2 fun l55 =>
 (r49.2.st (.n (h.next + 1)) 0 [(.sl l51.1 l51.2), (.sl l53.1 l53.2), (.sl l55.1 l55.2)]).bind fun h56 =>
 ldS h56 (.n (h.next + 1)) 0 fun l58 =>
 ldS h56 (.n (h.next + 1)) 1 fun l60 =>
 ldS h56 (.n (h.next + 1)) 2 fun l62 =>
 some ((.agg [(.sl l58.1 l58.2), (.sl l60.1 l60.2), (.sl l62.1 l62.2)]), h56)
 else none
def law40_Ref : Sm O := frz (law40_Ref_c)
theorem law40_Ref_ent : Entered Try.prog 15 := Try.call15
theorem law40_Ref_run : run (O := O) Try.prog [] Try.f15 (.n .z (.n .z (.n (.n .z (.n (.lp false 0 [(4, .one (.i .i64))] [] (.n (.n .z .z) (.n (.n (.d [] [0, 1, 2, 3, 4, 5, 6, 7, 8, 9, 10, 11, 12, 13, 14, 15, 16, 17, 18, 19, 20, 21, 22, 23, 24] [0, 1, 0, 4, 0, 28, 60, 124, 0, 256, 0, 1792, 3840, 7936, 0, 16384, 0, 114688, 245760, 507904, 1048572, 2097148, 4194303, 8388607, 16777215]) .z) .z))) .z)) .z))) = law40_Ref_c  := by kernel_rfl
theorem law40_Ref_sound : FSound RO Try.prog 15 (law40_Ref) :=
   have h : FSound RO Try.prog 15 (law40_Ref_c) := (law40_Ref_run) ▸ run_sound (gnil) mixed Try.func15 (by kernel_rfl) _
   h.frz
def shape_Right_c (k62 : Sm O) : Sm O := fun xs h =>
 bif Nat.beq xs.length 1 then
 (AV.asAgg 2 (xs.getD 0 .u)).bind fun c0 =>
 gtI c0 0 fun n1 =>
 gtI c0 1 fun n2 =>
 let h3 := h.bump 1
 let h4 := h3.put h.next (.cells true 51 [(.i .i64 n1), (.i .i64 n2)])
 ldI h4 (.n h.next) 0 fun n6 =>
 ldI h4 (.n h.next) 1 fun n8 =>
 (k62 [(.agg [(.i .i64 n6), (.i .i64 n8), (.i .i64 0), (.i .i64 0), (.b false)])] h4).bind fun r9 =>
 (AV.asI .i64 r9.1).bind fun n10 =>
 some ((.b ((n10 : Int) == 0)), r9.2)
 else none
def shape_Right : Sm O := shape_Right_c header_Check
theorem shape_Right_ent : Entered Try.prog 127 := Try.call127
theorem shape_Right_run (k62 : Sm O) : run (O := O) Try.prog [(62, k62)] Try.f127 (.n .z .z) = shape_Right_c k62 := by kernel_rfl
theorem shape_Right_sound : FSound RO Try.prog 127 shape_Right := sdf (shape_Right_run _) (gcons header_Check_ent header_Check_sound <| gnil) Try.func127 (by kernel_rfl)
def header_Words_c : Sm O := fun xs h =>
 bif Nat.beq xs.length 1 then
 (AV.asAgg 5 (xs.getD 0 .u)).bind fun c0 =>
 gtI c0 0 fun n1 =>
 gtI c0 1 fun n2 =>
 gtI c0 2 fun n3 =>
 gtI c0 3 fun n4 =>
 (AV.asB (c0.getD 4 .u)).bind fun b5 =>
 let h6 := h.bump 1
 let h7 := h6.put h.next (.cells true 53 [(.i .i64 n1), (.i .i64 n2), (.i .i64 n3), (.i .i64 n4), (.b b5)])
 ldI h7 (.n h.next) 0 fun n9 =>
 ldI h7 (.n h.next) 1 fun n11 =>
 let v12 : Int := (IntKind.i64.wrap ((IntKind.i64.wrap (1 + n9)) + n11))
 some ((.i .i64 v12), h7)
 else none
def header_Words : Sm O := header_Words_c
theorem header_Words_ent : Entered Try.prog 128 := Try.call128
theorem header_Words_run : run (O := O) Try.prog [] Try.f128 (.n .z .z) = header_Words_c  := by kernel_rfl
theorem header_Words_sound : FSound RO Try.prog 128 header_Words := sdf header_Words_run (gnil) Try.func128 (by kernel_rfl)
def shape_Words_c (k127 k128 : Sm O) : Sm O := fun xs h =>
 bif Nat.beq xs.length 1 then
 (AV.asAgg 2 (xs.getD 0 .u)).bind fun c0 =>
 gtI c0 0 fun n1 =>
 gtI c0 1 fun n2 =>
 let h3 := h.bump 1
 let h4 := h3.put h.next (.cells true 51 [(.i .i64 n1), (.i .i64 n2)])
 ldI h4 (.n h.next) 0 fun n6 =>
 ldI h4 (.n h.next) 1 fun n8 =>
 (k127 [(.agg [(.i .i64 n6), (.i .i64 n8)])] h4).bind fun r9 =>
 (AV.asB r9.1).bind fun b10 =>
 (bif (!b10) then
 some ((.i .i64 0), r9.2)
 else ldI r9.2 (.n h.next) 0 fun n12 =>
 ldI r9.2 (.n h.next) 1 fun n14 =>
 (k128 [(.agg [(.i .i64 n12), (.i .i64 n14), (.i .i64 0), (.i .i64 0), (.b false)])] r9.2).bind fun r15 =>
 (AV.asI .i64 r15.1).bind fun n16 =>
 some ((.i .i64 n16), r15.2))
 else none
def shape_Words : Sm O := shape_Words_c shape_Right header_Words
theorem shape_Words_ent : Entered Try.prog 114 := Try.call114
theorem shape_Words_run (k127 k128 : Sm O) : run (O := O) Try.prog [(127, k127), (128, k128)] Try.f114 (.n .z (.n (.n .z (.n .z .z)) .z)) = shape_Words_c k127 k128 := by kernel_rfl
theorem shape_Words_sound : FSound RO Try.prog 114 shape_Words := sdf (shape_Words_run _ _) (gcons shape_Right_ent shape_Right_sound <| gcons header_Words_ent header_Words_sound <| gnil) Try.func114 (by kernel_rfl)
def shape_Large_c (k114 : Sm O) : Sm O := fun xs h =>
 bif Nat.beq xs.length 2 then
 (AV.asAgg 2 (xs.getD 0 .u)).bind fun c0 =>
 gtI c0 0 fun n1 =>
 gtI c0 1 fun n2 =>
 gtI xs 1 fun n3 =>
 let h4 := h.bump 1
 let h5 := h4.put h.next (.cells true 51 [(.i .i64 n1), (.i .i64 n2)])
 ldI h5 (.n h.next) 0 fun n7 =>
 ldI h5 (.n h.next) 1 fun n9 =>
 (k114 [(.agg [(.i .i64 n7), (.i .i64 n9)])] h5).bind fun r10 =>
 (AV.asI .i64 r10.1).bind fun n11 =>
 some ((.b (decide (n11 > n3))), r10.2)
 else none
def shape_Large : Sm O := shape_Large_c shape_Words
theorem shape_Large_ent : Entered Try.prog 115 := Try.call115
theorem shape_Large_run (k114 : Sm O) : run (O := O) Try.prog [(114, k114)] Try.f115 (.n .z .z) = shape_Large_c k114 := by kernel_rfl
theorem shape_Large_sound : FSound RO Try.prog 115 shape_Large := sdf (shape_Large_run _) (gcons shape_Words_ent shape_Words_sound <| gnil) Try.func115 (by kernel_rfl)
def shape_Charge_c (k114 k115 : Sm O) : Sm O := fun xs h =>
 bif Nat.beq xs.length 2 then
 (AV.asAgg 2 (xs.getD 0 .u)).bind fun c0 =>
 gtI c0 0 fun n1 =>
 gtI c0 1 fun n2 =>
 gtI xs 1 fun n3 =>
 let h4 := h.bump 1
 let h5 := h4.put h.next (.cells true 51 [(.i .i64 n1), (.i .i64 n2)])
 ldI h5 (.n h.next) 0 fun n7 =>
 ldI h5 (.n h.next) 1 fun n9 =>
 (k114 [(.agg [(.i .i64 n7), (.i .i64 n9)])] h5).bind fun r10 =>
 (AV.asI .i64 r10.1).bind fun n11 =>
 ((bif ((decide (n11 > 0)) == true) then
 ldI r10.2 (.n h.next) 0 fun n13 =>
 ldI r10.2 (.n h.next) 1 fun n15 =>
 (k115 [(.agg [(.i .i64 n13), (.i .i64 n15)]), (.i .i64 n3)] r10.2).bind fun r16 =>
 (AV.asB r16.1).bind fun b17 =>
 some ([(.b b17)], r16.2)
 else some ([(.b false)], r10.2)) : Option (List AV × AH O)).bind fun r18 =>
 (AV.asB (r18.1.getD 0 .u)).bind fun b19 =>
 (bif b19 then
 some ((.i .i64 (IntKind.i64.wrap (n11 + 6))), r18.2)
 else some ((.i .i64 n11), r18.2))
 else none
def shape_Charge : Sm O := shape_Charge_c shape_Words shape_Large
theorem shape_Charge_ent : Entered Try.prog 97 := Try.call97
theorem shape_Charge_run (k114 k115 : Sm O) : run (O := O) Try.prog [(114, k114), (115, k115)] Try.f97 (.n .z (.n .z (.n (.n (.g [(2, 3, [(14, .one .b)])]) (.n .z .z)) .z))) = shape_Charge_c k114 k115 := by kernel_rfl
theorem shape_Charge_sound : FSound RO Try.prog 97 shape_Charge := sdf (shape_Charge_run _ _) (gcons shape_Words_ent shape_Words_sound <| gcons shape_Large_ent shape_Large_sound <| gnil) Try.func97 (by kernel_rfl)
def canon_Words_L1 (l8 : SA × Nat) (k97 : Sm O) (n4 : Int) : List AV × AH O -> Option ((List AV × AH O) ⊕ (List AV × AH O)) := (fun r9 =>
 (AV.asI .i64 (r9.1.getD 0 .u)).bind fun n10 =>
 (AV.asI .i64 (r9.1.getD 1 .u)).bind fun n11 =>
 (bif (decide (n11 < (l8.2 : Int))) then
 let h12 := r9.2.bump 1
 (bif ((decide ((0 : Int) <= n11)) && (decide (n11 < (l8.2 : Int)))) then
 (SA.ref l8.1).bind fun q13 =>
 ldI h12 q13.1 (q13.2 + (n11.toNat * 7)) fun n15 =>
 ldI h12 q13.1 ((q13.2 + (n11.toNat * 7)) + 1) fun n17 =>
 ldI h12 q13.1 (((q13.2 + (n11.toNat * 7)) + 1) + 1) fun n19 =>
 ldI h12 q13.1 ((((q13.2 + (n11.toNat * 7)) + 1) + 1) + 1) fun n21 =>
 (h12.ld q13.1 (((((q13.2 + (n11.toNat * 7)) + 1) + 1) + 1) + 1)).bind fun w22 =>
 (AV.asB w22).bind fun b23 =>
 ldS h12 q13.1 ((((((q13.2 + (n11.toNat * 7)) + 1) + 1) + 1) + 1) + 1) fun l25 =>
 ldS h12 q13.1 (((((((q13.2 + (n11.toNat * 7)) + 1) + 1) + 1) + 1) + 1) + 1) fun l27 =>
 let h28 := h12.put r9.2.next (.cells true 89 [(.i .i64 0), (.i .i64 0), (.i .i64 0), (.i .i64 0), (.b false), (.sl .nil 0), (.sl .nil 0)])
 (h28.st (.n r9.2.next) 0 [(.i .i64 n15), (.i .i64 n17), (.i .i64 n19), (.i .i64 n21), (.b b23), (.sl l25.1 l25.2), (.sl l27.1 l27.2)]).bind fun h29 =>
 ldI h29 (.n r9.2.next) 0 fun n31 =>
 ldI h29 (.n r9.2.next) 1 fun n33 =>
 (k97 [(.agg [(.i .i64 n31), (.i .i64 n33)]), (.i .i64 n4)] h29).bind fun r34 =>
 (AV.asI .i64 r34.1).bind fun n35 =>
 some (Sum.inl ([(.i .i64 (IntKind.i64.wrap (n10 + n35))), (.i .i64 (IntKind.i64.wrap (n11 + 1)))], r34.2))
 else none)
 else some (Sum.inr ([(.i .i64 n10)], r9.2))))
def canon_Words_c (k97 : Sm O) : Sm O := fun xs h =>
 bif Nat.beq xs.length 2 then
 (AV.asAgg 3 (xs.getD 0 .u)).bind fun c0 =>
 gtS c0 0 fun l1 =>
 gtS c0 1 fun l2 =>
 gtS c0 2 fun l3 =>
 gtI xs 1 fun n4 =>
 let h5 := h.bump 1
 let h6 := h5.put h.next (.cells true 27 [(.sl l1.1 l1.2), (.sl l2.1 l2.2), (.sl l3.1 l3.2)])
 ldS h6 (.n h.next) 0 fun l8 =>
 (loopF (S := List AV × AH O) (T := List AV × AH O) (canon_Words_L1 l8 k97 n4) ([(.i .i64 0), (.i .i64 0)], h6)).bind fun r36 =>
 (AV.asI .i64 (r36.1.getD 0 .u)).bind fun n37 =>
 some ((.i .i64 n37), r36.2)
 else none
def canon_Words : Sm O := canon_Words_c shape_Charge
theorem canon_Words_ent : Entered Try.prog 53 := Try.call53
theorem canon_Words_run (k97 : Sm O) : run (O := O) Try.prog [(97, k97)] Try.f53 (.n .z (.n .z (.n (.n .z (.n (.lp false 0 [(5, .one (.i .i64)), (11, .one (.i .i64))] [(5, .one (.i .i64))] (.n .z (.n .z (.n (.n .z .z) .z)))) .z)) .z))) = canon_Words_c k97 := by kernel_rfl
theorem canon_Words_sound : FSound RO Try.prog 53 canon_Words := sdf (canon_Words_run _) (gcons shape_Charge_ent shape_Charge_sound <| gnil) Try.func53 (by kernel_rfl)
def shape_Frame_c : Sm O := fun xs h =>
 bif Nat.beq xs.length 1 then
 gtI xs 0 fun n0 =>
 ((bif ((decide (n0 < 0)) == false) then
 some ([(.b (decide (n0 > 256)))], h)
 else some ([(.b true)], h)) : Option (List AV × AH O)).bind fun r1 =>
 (AV.asB (r1.1.getD 0 .u)).bind fun b2 =>
 (bif b2 then
 some ((.i .i64 0), r1.2)
 else some ((.i .i64 (IntKind.i64.wrap (2 + n0))), r1.2))
 else none
def shape_Frame : Sm O := shape_Frame_c
theorem shape_Frame_ent : Entered Try.prog 54 := Try.call54
theorem shape_Frame_run : run (O := O) Try.prog [] Try.f54 (.n .z (.n (.n (.g [(2, 2, [(8, .one .b)])]) (.n .z .z)) .z)) = shape_Frame_c  := by kernel_rfl
theorem shape_Frame_sound : FSound RO Try.prog 54 shape_Frame := sdf shape_Frame_run (gnil) Try.func54 (by kernel_rfl)
def image_Needs_L1 (l20 : SA × Nat) : List AV × AH O -> Option ((List AV × AH O) ⊕ (List AV × AH O)) := (fun r21 =>
 (AV.asI .i64 (r21.1.getD 0 .u)).bind fun n22 =>
 (AV.asI .i64 (r21.1.getD 1 .u)).bind fun n23 =>
 (bif (decide (n23 < (l20.2 : Int))) then
 (bif ((decide ((0 : Int) <= n23)) && (decide (n23 < (l20.2 : Int)))) then
 (SA.ref l20.1).bind fun q24 =>
 ldI r21.2 q24.1 (q24.2 + (n23.toNat * 1)) fun n26 =>
 ((bif ((n26 : Int) != 0) then
 some ([(.i .i64 (IntKind.i64.wrap (n22 + 4)))], r21.2)
 else some ([(.i .i64 n22)], r21.2)) : Option (List AV × AH O)).bind fun r27 =>
 (AV.asI .i64 (r27.1.getD 0 .u)).bind fun n28 =>
 some (Sum.inl ([(.i .i64 n28), (.i .i64 (IntKind.i64.wrap (n23 + 1)))], r27.2))
 else none)
 else some (Sum.inr ([(.i .i64 n22)], r21.2))))
def image_Needs_c (k53 k54 : Sm O) : Sm O := fun xs h =>
 bif Nat.beq xs.length 2 then
 (AV.asAgg 3 (xs.getD 0 .u)).bind fun c0 =>
 gtS c0 0 fun l1 =>
 gtS c0 1 fun l2 =>
 gtS c0 2 fun l3 =>
 gtI xs 1 fun n4 =>
 let h5 := h.bump 1
 let h6 := h5.put h.next (.cells true 27 [(.sl l1.1 l1.2), (.sl l2.1 l2.2), (.sl l3.1 l3.2)])
 ldS h6 (.n h.next) 0 fun l8 =>
 ldS h6 (.n h.next) 1 fun l10 =>
 ldS h6 (.n h.next) 2 fun l12 =>
 ldS h6 (.n h.next) 1 fun l14 =>
 (k53 [(.agg [(.sl l8.1 l8.2), (.sl l10.1 l10.2), (.sl l12.1 l12.2)]), (.i .i64 n4)] h6).bind fun r15 =>
 (AV.asI .i64 r15.1).bind fun n16 =>
 (chkE (r15.2.ld (.n h.next) 1) (some (.sl l14.1 l14.2))).bind fun _ =>
 (k54 [(.i .i64 (IntKind.i64.wrap ((l14.2 : Int) + 2)))] r15.2).bind fun r17 =>
 (AV.asI .i64 r17.1).bind fun n18 =>
 ldS r17.2 (.n h.next) 2 fun l20 =>
 (loopF (S := List AV × AH O) (T := List AV × AH O) (image_Needs_L1 l20) ([(.i .i64 (IntKind.i64.wrap (n16 + n18))), (.i .i64 0)], r17.2)).bind fun r29 =>
 (AV.asI .i64 (r29.1.getD 0 .u)).bind fun n30 =>
 some ((.i .i64 n30), r29.2)
 else none
def image_Needs : Sm O := image_Needs_c canon_Words shape_Frame
theorem image_Needs_ent : Entered Try.prog 16 := Try.call16
theorem image_Needs_run (k53 k54 : Sm O) : run (O := O) Try.prog [(53, k53), (54, k54)] Try.f16 (.n .z (.n (.d [] [0, 1, 3, 4, 5, 6, 2, 7, 8, 9] [0, 0, 3, 0, 8, 24, 56, 127, 255, 511]) (.n (.n .z (.n (.lp false 0 [(5, .one (.i .i64)), (20, .one (.i .i64))] [(5, .one (.i .i64))] (.n .z (.n .z (.n (.n (.n .z (.n .z (.j false [(5, .one (.i .i64))] .z .z))) .z) .z)))) .z)) .z))) = image_Needs_c k53 k54 := by kernel_rfl
theorem image_Needs_sound : FSound RO Try.prog 16 image_Needs := sdf (image_Needs_run _ _) (gcons canon_Words_ent canon_Words_sound <| gcons shape_Frame_ent shape_Frame_sound <| gnil) Try.func16 (by kernel_rfl)
def haymowref13_Right_c : Sm O := fun xs h =>
 bif Nat.beq xs.length 1 then
 (AV.asAgg 2 (xs.getD 0 .u)).bind fun c0 =>
 gtI c0 0 fun n1 =>
 gtI c0 1 fun n2 =>
 let h3 := h.bump 1
 let h4 := h3.put h.next (.cells true 51 [(.i .i64 n1), (.i .i64 n2)])
 ldI h4 (.n h.next) 0 fun n6 =>
 ((bif ((decide (n6 >= 0)) == true) then
 ldI h4 (.n h.next) 0 fun n8 =>
 some ([(.b (decide (n8 < 4096)))], h4)
 else some ([(.b false)], h4)) : Option (List AV × AH O)).bind fun r9 =>
 (AV.asB (r9.1.getD 0 .u)).bind fun b10 =>
 ((bif (b10 == true) then
 ldI r9.2 (.n h.next) 1 fun n12 =>
 some ([(.b (decide (n12 >= 0)))], r9.2)
 else some ([(.b false)], r9.2)) : Option (List AV × AH O)).bind fun r13 =>
 (AV.asB (r13.1.getD 0 .u)).bind fun b14 =>
 ((bif (b14 == true) then
 ldI r13.2 (.n h.next) 1 fun n16 =>
 some ([(.b (decide (n16 < 4096)))], r13.2)
 else some ([(.b false)], r13.2)) : Option (List AV × AH O)).bind fun r17 =>
 (AV.asB (r17.1.getD 0 .u)).bind fun b18 =>
 some ((.b b18), r17.2)
 else none
def haymowref13_Right : Sm O := haymowref13_Right_c
theorem haymowref13_Right_ent : Entered Try.prog 129 := Try.call129
theorem haymowref13_Right_run : run (O := O) Try.prog [] Try.f129 (.n .z (.n (.g [(3, 3, [(10, .one .b)]), (8, 3, [(15, .one .b)]), (13, 3, [(20, .one .b)])]) .z)) = haymowref13_Right_c  := by kernel_rfl
theorem haymowref13_Right_sound : FSound RO Try.prog 129 haymowref13_Right := sdf haymowref13_Right_run (gnil) Try.func129 (by kernel_rfl)
def haymowref13_Words_c (k129 : Sm O) : Sm O := fun xs h =>
 bif Nat.beq xs.length 1 then
 (AV.asAgg 2 (xs.getD 0 .u)).bind fun c0 =>
 gtI c0 0 fun n1 =>
 gtI c0 1 fun n2 =>
 let h3 := h.bump 1
 let h4 := h3.put h.next (.cells true 51 [(.i .i64 n1), (.i .i64 n2)])
 ldI h4 (.n h.next) 0 fun n6 =>
 ldI h4 (.n h.next) 1 fun n8 =>
 (k129 [(.agg [(.i .i64 n6), (.i .i64 n8)])] h4).bind fun r9 =>
 (AV.asB r9.1).bind fun b10 =>
 (bif (!b10) then
 some ((.i .i64 0), r9.2)
 else ldI r9.2 (.n h.next) 0 fun n12 =>
 ldI r9.2 (.n h.next) 1 fun n14 =>
 let v15 : Int := (IntKind.i64.wrap ((IntKind.i64.wrap (1 + n12)) + n14))
 some ((.i .i64 v15), r9.2))
 else none
def haymowref13_Words : Sm O := haymowref13_Words_c haymowref13_Right
theorem haymowref13_Words_ent : Entered Try.prog 116 := Try.call116
theorem haymowref13_Words_run (k129 : Sm O) : run (O := O) Try.prog [(129, k129)] Try.f116 (.n .z (.n (.n .z (.n .z .z)) .z)) = haymowref13_Words_c k129 := by kernel_rfl
theorem haymowref13_Words_sound : FSound RO Try.prog 116 haymowref13_Words := sdf (haymowref13_Words_run _) (gcons haymowref13_Right_ent haymowref13_Right_sound <| gnil) Try.func116 (by kernel_rfl)
def haymowref13_Charge_c (k116 : Sm O) : Sm O := fun xs h =>
 bif Nat.beq xs.length 2 then
 (AV.asAgg 2 (xs.getD 0 .u)).bind fun c0 =>
 gtI c0 0 fun n1 =>
 gtI c0 1 fun n2 =>
 gtI xs 1 fun n3 =>
 let h4 := h.bump 1
 let h5 := h4.put h.next (.cells true 51 [(.i .i64 n1), (.i .i64 n2)])
 ldI h5 (.n h.next) 0 fun n7 =>
 ldI h5 (.n h.next) 1 fun n9 =>
 (k116 [(.agg [(.i .i64 n7), (.i .i64 n9)])] h5).bind fun r10 =>
 (AV.asI .i64 r10.1).bind fun n11 =>
 ((bif ((decide (n11 > 0)) == true) then
 some ([(.b (decide (n11 > n3)))], r10.2)
 else some ([(.b false)], r10.2)) : Option (List AV × AH O)).bind fun r12 =>
 (AV.asB (r12.1.getD 0 .u)).bind fun b13 =>
 ((bif b13 then
 some ([(.i .i64 (IntKind.i64.wrap (n11 + 6)))], r12.2)
 else some ([(.i .i64 n11)], r12.2)) : Option (List AV × AH O)).bind fun r14 =>
 (AV.asI .i64 (r14.1.getD 0 .u)).bind fun n15 =>
 some ((.i .i64 n15), r14.2)
 else none
def haymowref13_Charge : Sm O := haymowref13_Charge_c haymowref13_Words
theorem haymowref13_Charge_ent : Entered Try.prog 98 := Try.call98
theorem haymowref13_Charge_run (k116 : Sm O) : run (O := O) Try.prog [(116, k116)] Try.f98 (.n .z (.n .z (.n (.n (.g [(2, 3, [(14, .one .b)])]) (.j false [(5, .one (.i .i64))] .z .z)) .z))) = haymowref13_Charge_c k116 := by kernel_rfl
theorem haymowref13_Charge_sound : FSound RO Try.prog 98 haymowref13_Charge := sdf (haymowref13_Charge_run _) (gcons haymowref13_Words_ent haymowref13_Words_sound <| gnil) Try.func98 (by kernel_rfl)
def haymowref40_Words_L1 (h : AH O) (k98 : Sm O) (n4 : Int) : List AV × AH O -> Option ((List AV × AH O) ⊕ (List AV × AH O)) := (fun r7 =>
 (AV.asI .i64 (r7.1.getD 0 .u)).bind fun n8 =>
 (AV.asI .i64 (r7.1.getD 1 .u)).bind fun n9 =>
 ldS r7.2 (.n h.next) 0 fun l11 =>
 (bif (decide (n9 < (l11.2 : Int))) then
 ldS r7.2 (.n h.next) 0 fun l13 =>
 (bif ((decide ((0 : Int) <= n9)) && (decide (n9 < (l13.2 : Int)))) then
 (SA.ref l13.1).bind fun q14 =>
 ldI r7.2 q14.1 (q14.2 + (n9.toNat * 7)) fun n16 =>
 ldI r7.2 q14.1 ((q14.2 + (n9.toNat * 7)) + 1) fun n18 =>
 (k98 [(.agg [(.i .i64 n16), (.i .i64 n18)]), (.i .i64 n4)] r7.2).bind fun r19 =>
 (AV.asI .i64 r19.1).bind fun n20 =>
 some (Sum.inl ([(.i .i64 (IntKind.i64.wrap (n8 + n20))), (.i .i64 (IntKind.i64.wrap (n9 + 1)))], r19.2))
 else none)
 else some (Sum.inr ([(.i .i64 n8)], r7.2))))
def haymowref40_Words_c (k98 : Sm O) : Sm O := fun xs h =>
 bif Nat.beq xs.length 2 then
 (AV.asAgg 3 (xs.getD 0 .u)).bind fun c0 =>
 gtS c0 0 fun l1 =>
 gtS c0 1 fun l2 =>
 gtS c0 2 fun l3 =>
 gtI xs 1 fun n4 =>
 let h5 := h.bump 1
 let h6 := h5.put h.next (.cells true 33 [(.sl l1.1 l1.2), (.sl l2.1 l2.2), (.sl l3.1 l3.2)])
 (loopF (S := List AV × AH O) (T := List AV × AH O) (haymowref40_Words_L1 h k98 n4) ([(.i .i64 0), (.i .i64 0)], h6)).bind fun r21 =>
 (AV.asI .i64 (r21.1.getD 0 .u)).bind fun n22 =>
 some ((.i .i64 n22), r21.2)
 else none
def haymowref40_Words : Sm O := haymowref40_Words_c haymowref13_Charge
theorem haymowref40_Words_ent : Entered Try.prog 55 := Try.call55
theorem haymowref40_Words_run (k98 : Sm O) : run (O := O) Try.prog [(98, k98)] Try.f55 (.n .z (.n .z (.n (.n .z (.n (.lp false 0 [(5, .one (.i .i64)), (6, .one (.i .i64))] [(5, .one (.i .i64))] (.n (.n .z .z) (.n .z .z))) .z)) .z))) = haymowref40_Words_c k98 := by kernel_rfl
theorem haymowref40_Words_sound : FSound RO Try.prog 55 haymowref40_Words := sdf (haymowref40_Words_run _) (gcons haymowref13_Charge_ent haymowref13_Charge_sound <| gnil) Try.func55 (by kernel_rfl)
def haymowref41_Needs_L1 (h : AH O) : List AV × AH O -> Option ((List AV × AH O) ⊕ (List AV × AH O)) := (fun r22 =>
 (AV.asI .i64 (r22.1.getD 0 .u)).bind fun n23 =>
 (AV.asI .i64 (r22.1.getD 1 .u)).bind fun n24 =>
 ldS r22.2 (.n h.next) 2 fun l26 =>
 (bif (decide (n24 < (l26.2 : Int))) then
 ldS r22.2 (.n h.next) 2 fun l28 =>
 (bif ((decide ((0 : Int) <= n24)) && (decide (n24 < (l28.2 : Int)))) then
 (SA.ref l28.1).bind fun q29 =>
 ldI r22.2 q29.1 (q29.2 + (n24.toNat * 1)) fun n31 =>
 ((bif ((n31 : Int) != 0) then
 some ([(.i .i64 (IntKind.i64.wrap (n23 + 4)))], r22.2)
 else some ([(.i .i64 n23)], r22.2)) : Option (List AV × AH O)).bind fun r32 =>
 (AV.asI .i64 (r32.1.getD 0 .u)).bind fun n33 =>
 some (Sum.inl ([(.i .i64 n33), (.i .i64 (IntKind.i64.wrap (n24 + 1)))], r32.2))
 else none)
 else some (Sum.inr ([(.i .i64 n23)], r22.2))))
def haymowref41_Needs_c (k55 : Sm O) : Sm O := fun xs h =>
 bif Nat.beq xs.length 2 then
 (AV.asAgg 3 (xs.getD 0 .u)).bind fun c0 =>
 gtS c0 0 fun l1 =>
 gtS c0 1 fun l2 =>
 gtS c0 2 fun l3 =>
 gtI xs 1 fun n4 =>
 let h5 := h.bump 1
 let h6 := h5.put h.next (.cells true 33 [(.sl l1.1 l1.2), (.sl l2.1 l2.2), (.sl l3.1 l3.2)])
 ldS h6 (.n h.next) 0 fun l8 =>
 ldS h6 (.n h.next) 1 fun l10 =>
 ldS h6 (.n h.next) 2 fun l12 =>
 (k55 [(.agg [(.sl l8.1 l8.2), (.sl l10.1 l10.2), (.sl l12.1 l12.2)]), (.i .i64 n4)] h6).bind fun r13 =>
 (AV.asI .i64 r13.1).bind fun n14 =>
 ldS r13.2 (.n h.next) 1 fun l16 =>
 ((bif (decide ((l16.2 : Int) <= 254)) then
 ldS r13.2 (.n h.next) 1 fun l18 =>
 let v19 : Int := (IntKind.i64.wrap ((IntKind.i64.wrap (n14 + (l18.2 : Int))) + 4))
 some ([(.i .i64 v19)], r13.2)
 else some ([(.i .i64 n14)], r13.2)) : Option (List AV × AH O)).bind fun r20 =>
 (AV.asI .i64 (r20.1.getD 0 .u)).bind fun n21 =>
 (loopF (S := List AV × AH O) (T := List AV × AH O) (haymowref41_Needs_L1 h) ([(.i .i64 n21), (.i .i64 0)], r20.2)).bind fun r34 =>
 (AV.asI .i64 (r34.1.getD 0 .u)).bind fun n35 =>
 some ((.i .i64 n35), r34.2)
 else none
def haymowref41_Needs : Sm O := haymowref41_Needs_c haymowref40_Words
theorem haymowref41_Needs_ent : Entered Try.prog 17 := Try.call17
theorem haymowref41_Needs_run (k55 : Sm O) : run (O := O) Try.prog [(55, k55)] Try.f17 (.n .z (.n .z (.n (.n .z (.j false [(5, .one (.i .i64))] .z .z)) (.n (.n .z (.n (.lp false 0 [(5, .one (.i .i64)), (6, .one (.i .i64))] [(5, .one (.i .i64))] (.n (.n .z .z) (.n (.n (.n .z (.j false [(5, .one (.i .i64))] .z .z)) .z) .z))) .z)) .z)))) = haymowref41_Needs_c k55 := by kernel_rfl
theorem haymowref41_Needs_sound : FSound RO Try.prog 17 haymowref41_Needs := sdf (haymowref41_Needs_run _) (gcons haymowref40_Words_ent haymowref40_Words_sound <| gnil) Try.func17 (by kernel_rfl)
def haymowref41_list_L1 (l0 : SA × Nat) : List AV × AH O -> Option ((List AV × AH O) ⊕ (List AV × AH O)) := (fun r3 =>
 (AV.asSl (r3.1.getD 0 .u)).bind fun l4 =>
 (AV.asI .i64 (r3.1.getD 1 .u)).bind fun n5 =>
 (bif (decide (n5 < (l0.2 : Int))) then
 let h6 := r3.2.bump 2
 (bif ((decide ((0 : Int) <= n5)) && (decide (n5 < (l0.2 : Int)))) then
 (SA.ref l0.1).bind fun q7 =>
 ldI h6 q7.1 (q7.2 + (n5.toNat * 1)) fun n9 =>
 let h10 := h6.put r3.2.next (.cells true 54 [(.i .u64 (IntKind.u64.wrap n9))])
 (h10.rdSl (.loc (.n r3.2.next) 0 1) 1 1).bind fun new11 =>
 (bif (Nat.ble ((l4.2 + 1) * 9) 35184372088832) then
 (h10.appSl (r3.2.next + 1) 54 1 l4.1 l4.2 1 new11).bind fun r12 =>
 (AV.asSl r12.1).bind fun l13 =>
 some (Sum.inl ([(.sl l13.1 l13.2), (.i .i64 (IntKind.i64.wrap (n5 + 1)))], r12.2))
 else none)
 else none)
 else some (Sum.inr ([(.sl l4.1 l4.2)], r3.2))))
def haymowref41_list_c : Sm O := fun xs h =>
 bif Nat.beq xs.length 1 then
 gtS xs 0 fun l0 =>
 let h1 := h.bump 1
 let h2 := h1.put h.next (.cells true 54 [(.i .u64 (IntKind.u64.wrap (l0.2 : Int)))])
 (loopF (S := List AV × AH O) (T := List AV × AH O) (haymowref41_list_L1 l0) ([(.sl (.loc (.n h.next) 0 1) 1), (.i .i64 0)], h2)).bind fun r14 =>
 (AV.asSl (r14.1.getD 0 .u)).bind fun l15 =>
 some ((.sl l15.1 l15.2), r14.2)
 else none
def haymowref41_list : Sm O := frz (haymowref41_list_c)
theorem haymowref41_list_ent : Entered Try.prog 100 := Try.call100
theorem haymowref41_list_run : run (O := O) Try.prog [] Try.f100 (.n .z (.n .z (.n (.n .z (.n (.lp false 0 [(3, .one .sl), (4, .one (.i .i64))] [(3, .one .sl)] (.n (.n .z .z) (.n .z .z))) .z)) .z))) = haymowref41_list_c  := by kernel_rfl
theorem haymowref41_list_sound : FSound RO Try.prog 100 (haymowref41_list) :=
   have h : FSound RO Try.prog 100 (haymowref41_list_c) := (haymowref41_list_run) ▸ run_sound (gnil) mixed Try.func100 (by kernel_rfl) _
   h.frz
def haymowref41_Words_L2 (r10 : List AV × AH O) : List AV × AH O -> Option ((List AV × AH O) ⊕ (List AV × AH O)) := (fun r52 =>
 (AV.asSl (r52.1.getD 0 .u)).bind fun l53 =>
 (AV.asI .i64 (r52.1.getD 1 .u)).bind fun n54 =>
 ldS r52.2 (.n r10.2.next) 5 fun l56 =>
 (bif (decide (n54 < (l56.2 : Int))) then
 let h57 := r52.2.bump 2
 ldS h57 (.n r10.2.next) 5 fun l59 =>
 (bif ((decide ((0 : Int) <= n54)) && (decide (n54 < (l59.2 : Int)))) then
 (SA.ref l59.1).bind fun q60 =>
 ldI h57 q60.1 (q60.2 + (n54.toNat * 1)) fun n62 =>
 let h63 := h57.put r52.2.next (.cells true 54 [(.i .u64 (IntKind.u64.wrap n62))])
 (h63.rdSl (.loc (.n r52.2.next) 0 1) 1 1).bind fun new64 =>
 (bif (Nat.ble ((l53.2 + 1) * 9) 35184372088832) then
 (h63.appSl (r52.2.next + 1) 54 1 l53.1 l53.2 1 new64).bind fun r65 =>
 (AV.asSl r65.1).bind fun l66 =>
 some (Sum.inl ([(.sl l66.1 l66.2), (.i .i64 (IntKind.i64.wrap (n54 + 1)))], r65.2))
 else none)
 else none)
 else some (Sum.inr ([(.sl l53.1 l53.2)], r52.2))))
def haymowref41_Words_L1 (h : AH O) (k99 : Sm O) : List AV × AH O -> Option ((List AV × AH O) ⊕ (List AV × AH O)) := (fun r10 =>
 (AV.asSl (r10.1.getD 0 .u)).bind fun l11 =>
 (AV.asI .i64 (r10.1.getD 1 .u)).bind fun n12 =>
 ldS r10.2 (.n h.next) 0 fun l14 =>
 (bif (decide (n12 < (l14.2 : Int))) then
 let h15 := r10.2.bump 1
 ldS h15 (.n h.next) 0 fun l17 =>
 (bif ((decide ((0 : Int) <= n12)) && (decide (n12 < (l17.2 : Int)))) then
 (SA.ref l17.1).bind fun q18 =>
 ldI h15 q18.1 (q18.2 + (n12.toNat * 7)) fun n20 =>
 ldI h15 q18.1 ((q18.2 + (n12.toNat * 7)) + 1) fun n22 =>
 ldI h15 q18.1 (((q18.2 + (n12.toNat * 7)) + 1) + 1) fun n24 =>
 ldI h15 q18.1 ((((q18.2 + (n12.toNat * 7)) + 1) + 1) + 1) fun n26 =>
 (h15.ld q18.1 (((((q18.2 + (n12.toNat * 7)) + 1) + 1) + 1) + 1)).bind fun w27 =>
 (AV.asB w27).bind fun b28 =>
 ldS h15 q18.1 ((((((q18.2 + (n12.toNat * 7)) + 1) + 1) + 1) + 1) + 1) fun l30 =>
 ldS h15 q18.1 (((((((q18.2 + (n12.toNat * 7)) + 1) + 1) + 1) + 1) + 1) + 1) fun l32 =>
 let h33 := h15.put r10.2.next (.cells true 97 [(.i .i64 0), (.i .i64 0), (.i .i64 0), (.i .i64 0), (.b false), (.sl .nil 0), (.sl .nil 0)])
 (h33.st (.n r10.2.next) 0 [(.i .i64 n20), (.i .i64 n22), (.i .i64 n24), (.i .i64 n26), (.b b28), (.sl l30.1 l30.2), (.sl l32.1 l32.2)]).bind fun h34 =>
 let h35 := h34.bump 2
 ldI h35 (.n r10.2.next) 0 fun n37 =>
 ldI h35 (.n r10.2.next) 1 fun n39 =>
 ldI h35 (.n r10.2.next) 2 fun n41 =>
 ldI h35 (.n r10.2.next) 3 fun n43 =>
 (h35.ld (.n r10.2.next) 4).bind fun w44 =>
 (AV.asB w44).bind fun b45 =>
 (k99 [(.agg [(.i .i64 n37), (.i .i64 n39), (.i .i64 n41), (.i .i64 n43), (.b b45)])] h35).bind fun r46 =>
 (AV.asI .u64 r46.1).bind fun n47 =>
 let h48 := r46.2.put h34.next (.cells true 54 [(.i .u64 n47)])
 (h48.rdSl (.loc (.n h34.next) 0 1) 1 1).bind fun new49 =>
 (bif (Nat.ble ((l11.2 + 1) * 9) 35184372088832) then
 (h48.appSl (h34.next + 1) 54 1 l11.1 l11.2 1 new49).bind fun r50 =>
 (AV.asSl r50.1).bind fun l51 =>
 (loopF (S := List AV × AH O) (T := List AV × AH O) (haymowref41_Words_L2 r10) ([(.sl l51.1 l51.2), (.i .i64 0)], r50.2)).bind fun r67 =>
 (AV.asSl (r67.1.getD 0 .u)).bind fun l68 =>
 let h69 := r67.2.bump 1
 ldS h69 (.n r10.2.next) 6 fun l71 =>
 (h69.rdSl l71.1 l71.2 1).bind fun new72 =>
 (bif (Nat.ble ((l68.2 + l71.2) * 9) 35184372088832) then
 (h69.appSl r67.2.next 54 1 l68.1 l68.2 l71.2 new72).bind fun r73 =>
 (AV.asSl r73.1).bind fun l74 =>
 some (Sum.inl ([(.sl l74.1 l74.2), (.i .i64 (IntKind.i64.wrap (n12 + 1)))], r73.2))
 else none)
 else none)
 else none)
 else some (Sum.inr ([(.sl l11.1 l11.2)], r10.2))))
def haymowref41_Words_c (k99 k100 : Sm O) : Sm O := fun xs h =>
 bif Nat.beq xs.length 1 then
 (AV.asAgg 3 (xs.getD 0 .u)).bind fun c0 =>
 gtS c0 0 fun l1 =>
 gtS c0 1 fun l2 =>
 gtS c0 2 fun l3 =>
 let h4 := h.bump 1
 let h5 := h4.put h.next (.cells true 33 [(.sl l1.1 l1.2), (.sl l2.1 l2.2), (.sl l3.1 l3.2)])
 let h6 := h5.bump 1
 ldS h6 (.n h.next) 0 fun l8 =>
 let h9 := h6.put h5.next (.cells true 54 [(.i .u64 (IntKind.u64.wrap (l8.2 : Int)))])
 (loopF (S := List AV × AH O) (T := List AV × AH O) (haymowref41_Words_L1 h k99) ([(.sl (.loc (.n h5.next) 0 1) 1), (.i .i64 0)], h9)).bind fun r75 =>
 (AV.asSl (r75.1.getD 0 .u)).bind fun l76 =>
 let h77 := r75.2.bump 2
 ldS h77 (.n h.next) 1 fun l79 =>
 ldS h77 (.n h.next) 2 fun l81 =>
 (k100 [(.sl l79.1 l79.2)] h77).bind fun r82 =>
 (AV.asSl r82.1).bind fun l83 =>
 (chkE (r82.2.ld (.n h.next) 2) (some (.sl l81.1 l81.2))).bind fun _ =>
 (r82.2.rdSl l83.1 l83.2 1).bind fun new84 =>
 (bif (Nat.ble ((l76.2 + l83.2) * 9) 35184372088832) then
 (r82.2.appSl r75.2.next 54 1 l76.1 l76.2 l83.2 new84).bind fun r85 =>
 (AV.asSl r85.1).bind fun l86 =>
 (chkE (r85.2.ld (.n h.next) 2) (some (.sl l81.1 l81.2))).bind fun _ =>
 (k100 [(.sl l81.1 l81.2)] r85.2).bind fun r87 =>
 (AV.asSl r87.1).bind fun l88 =>
 (r87.2.rdSl l88.1 l88.2 1).bind fun new89 =>
 (bif (Nat.ble ((l86.2 + l88.2) * 9) 35184372088832) then
 (r87.2.appSl (r75.2.next + 1) 54 1 l86.1 l86.2 l88.2 new89).bind fun r90 =>
 (AV.asSl r90.1).bind fun l91 =>
 some ((.sl l91.1 l91.2), r90.2)
 else none)
 else none)
 else none
def haymowref41_Words : Sm O := frz (haymowref41_Words_c haymowref12_Pack haymowref41_list)
theorem haymowref41_Words_ent : Entered Try.prog 57 := Try.call57
theorem haymowref41_Words_run (k99 k100 : Sm O) : run (O := O) Try.prog [(99, k99), (100, k100)] Try.f57 (.n .z (.n .z (.n (.n .z (.n (.lp false 0 [(3, .one .sl), (4, .one (.i .i64))] [(3, .one .sl)] (.n (.n .z .z) (.n (.n (.n .z (.n .z (.n (.n .z (.n (.lp false 2 [(3, .one .sl), (6, .one (.i .i64))] [(3, .one .sl)] (.n (.n .z .z) (.n .z .z))) .z)) .z))) .z) .z))) .z)) (.n (.d [] [0, 1, 2, 5, 6, 3, 4, 7, 8, 9] [0, 0, 2, 6, 15, 0, 32, 127, 255, 511]) .z)))) = haymowref41_Words_c k99 k100 := by kernel_rfl
theorem haymowref41_Words_sound : FSound RO Try.prog 57 (haymowref41_Words) :=
   have h : FSound RO Try.prog 57 (haymowref41_Words_c haymowref12_Pack haymowref41_list) := (haymowref41_Words_run haymowref12_Pack haymowref41_list) ▸ run_sound (gcons haymowref12_Pack_ent (haymowref12_Pack_sound) <| gcons haymowref41_list_ent (haymowref41_list_sound) <| gnil) mixed Try.func57 (by kernel_rfl) _
   h.frz
def haymowref05_Bytes_L1  : List AV × AH O -> Option ((List AV × AH O) ⊕ (List AV × AH O)) := (fun r1 =>
 (AV.asI .u64 (r1.1.getD 0 .u)).bind fun n2 =>
 (AV.asSl (r1.1.getD 1 .u)).bind fun l3 =>
 (bif (decide (n2 > 127)) then
 let h4 := r1.2.bump 2
 let v5 : Int := (IntKind.u8.wrap (IntKind.u64.wrap (128 + (Int.tmod n2 128))))
 let h6 := h4.put r1.2.next (.cells true 5 [(.i .u8 v5)])
 (h6.rdSl (.loc (.n r1.2.next) 0 1) 1 1).bind fun new7 =>
 (bif (Nat.ble ((l3.2 + 1) * 2) 35184372088832) then
 (h6.appSl (r1.2.next + 1) 5 1 l3.1 l3.2 1 new7).bind fun r8 =>
 (AV.asSl r8.1).bind fun l9 =>
 some (Sum.inl ([(.i .u64 (IntKind.u64.wrap (Int.tdiv n2 128))), (.sl l9.1 l9.2)], r8.2))
 else none)
 else some (Sum.inr ([(.i .u64 n2), (.sl l3.1 l3.2)], r1.2))))
def haymowref05_Bytes_c : Sm O := fun xs h =>
 bif Nat.beq xs.length 1 then
 gtU xs 0 fun n0 =>
 (loopF (S := List AV × AH O) (T := List AV × AH O) (haymowref05_Bytes_L1) ([(.i .u64 n0), (.sl .nil 0)], h)).bind fun r10 =>
 (AV.asI .u64 (r10.1.getD 0 .u)).bind fun n11 =>
 (AV.asSl (r10.1.getD 1 .u)).bind fun l12 =>
 let h13 := r10.2.bump 2
 let h14 := h13.put r10.2.next (.cells true 5 [(.i .u8 (IntKind.u8.wrap n11))])
 (h14.rdSl (.loc (.n r10.2.next) 0 1) 1 1).bind fun new15 =>
 (bif (Nat.ble ((l12.2 + 1) * 2) 35184372088832) then
 (h14.appSl (r10.2.next + 1) 5 1 l12.1 l12.2 1 new15).bind fun r16 =>
 (AV.asSl r16.1).bind fun l17 =>
 some ((.sl l17.1 l17.2), r16.2)
 else none)
 else none
def haymowref05_Bytes : Sm O := frz (haymowref05_Bytes_c)
theorem haymowref05_Bytes_ent : Entered Try.prog 58 := Try.call58
theorem haymowref05_Bytes_run : run (O := O) Try.prog [] Try.f58 (.n .z (.n .z (.n (.n (.lp false 0 [(0, .one (.i .u64)), (3, .one .sl)] [(0, .one (.i .u64)), (3, .one .sl)] (.n (.n .z .z) (.n .z .z))) .z) .z))) = haymowref05_Bytes_c  := by kernel_rfl
theorem haymowref05_Bytes_sound : FSound RO Try.prog 58 (haymowref05_Bytes) :=
   have h : FSound RO Try.prog 58 (haymowref05_Bytes_c) := (haymowref05_Bytes_run) ▸ run_sound (gnil) mixed Try.func58 (by kernel_rfl) _
   h.frz
def haymowref41_Put_L1 (l13 : SA × Nat) (k58 : Sm O) : List AV × AH O -> Option ((List AV × AH O) ⊕ (List AV × AH O)) := (fun r14 =>
 (AV.asSl (r14.1.getD 0 .u)).bind fun l15 =>
 (AV.asI .i64 (r14.1.getD 1 .u)).bind fun n16 =>
 (bif (decide (n16 < (l13.2 : Int))) then
 let h17 := r14.2.bump 1
 (bif ((decide ((0 : Int) <= n16)) && (decide (n16 < (l13.2 : Int)))) then
 (SA.ref l13.1).bind fun q18 =>
 ldU h17 q18.1 (q18.2 + (n16.toNat * 1)) fun n20 =>
 (k58 [(.i .u64 n20)] h17).bind fun r21 =>
 (AV.asSl r21.1).bind fun l22 =>
 (r21.2.rdSl l22.1 l22.2 1).bind fun new23 =>
 (bif (Nat.ble ((l15.2 + l22.2) * 2) 35184372088832) then
 (r21.2.appSl r14.2.next 5 1 l15.1 l15.2 l22.2 new23).bind fun r24 =>
 (AV.asSl r24.1).bind fun l25 =>
 some (Sum.inl ([(.sl l25.1 l25.2), (.i .i64 (IntKind.i64.wrap (n16 + 1)))], r24.2))
 else none)
 else none)
 else some (Sum.inr ([(.sl l15.1 l15.2)], r14.2))))
def haymowref41_Put_c (k57 k58 k45 : Sm O) : Sm O := fun xs h =>
 bif Nat.beq xs.length 1 then
 (AV.asAgg 3 (xs.getD 0 .u)).bind fun c0 =>
 gtS c0 0 fun l1 =>
 gtS c0 1 fun l2 =>
 gtS c0 2 fun l3 =>
 let h4 := h.bump 1
 let h5 := h4.put h.next (.cells true 33 [(.sl l1.1 l1.2), (.sl l2.1 l2.2), (.sl l3.1 l3.2)])
 ldS h5 (.n h.next) 0 fun l7 =>
 ldS h5 (.n h.next) 1 fun l9 =>
 ldS h5 (.n h.next) 2 fun l11 =>
 (k57 [(.agg [(.sl l7.1 l7.2), (.sl l9.1 l9.2), (.sl l11.1 l11.2)])] h5).bind fun r12 =>
 (AV.asSl r12.1).bind fun l13 =>
 (loopF (S := List AV × AH O) (T := List AV × AH O) (haymowref41_Put_L1 l13 k58) ([(.sl .nil 0), (.i .i64 0)], r12.2)).bind fun r26 =>
 (AV.asSl (r26.1.getD 0 .u)).bind fun l27 =>
 (k45 [(.sl l27.1 l27.2)] r26.2).bind fun r28 =>
 (AV.asSl r28.1).bind fun l29 =>
 some ((.sl l29.1 l29.2), r28.2)
 else none
def haymowref41_Put : Sm O := frz (haymowref41_Put_c haymowref41_Words haymowref05_Bytes haymowref06_Seal)
theorem haymowref41_Put_ent : Entered Try.prog 19 := Try.call19
theorem haymowref41_Put_run (k57 k58 k45 : Sm O) : run (O := O) Try.prog [(57, k57), (58, k58), (45, k45)] Try.f19 (.n .z (.n .z (.n .z (.n (.n .z (.n (.lp false 0 [(3, .one .sl), (5, .one (.i .i64))] [(3, .one .sl)] (.n (.n .z .z) (.n .z .z))) .z)) .z)))) = haymowref41_Put_c k57 k58 k45 := by kernel_rfl
theorem haymowref41_Put_sound : FSound RO Try.prog 19 (haymowref41_Put) :=
   have h : FSound RO Try.prog 19 (haymowref41_Put_c haymowref41_Words haymowref05_Bytes haymowref06_Seal) := (haymowref41_Put_run haymowref41_Words haymowref05_Bytes haymowref06_Seal) ▸ run_sound (gcons haymowref41_Words_ent (haymowref41_Words_sound) <| gcons haymowref05_Bytes_ent (haymowref05_Bytes_sound) <| gcons haymowref06_Seal_ent (haymowref06_Seal_sound) <| gnil) mixed Try.func19 (by kernel_rfl) _
   h.frz
def law41_ImageBytes_c (k9 k14 k15 k13 k16 k17 k18 k10 k19 k12 : Sm O) : Sm O := fun xs h =>
 bif Nat.beq xs.length 2 then
 (AV.asAgg 3 (xs.getD 0 .u)).bind fun c0 =>
 gtS c0 0 fun l1 =>
 gtS c0 1 fun l2 =>
 gtS c0 2 fun l3 =>
 gtI xs 1 fun n4 =>
 let h5 := h.bump 1
 let h6 := h5.put h.next (.cells true 27 [(.sl l1.1 l1.2), (.sl l2.1 l2.2), (.sl l3.1 l3.2)])
 (k9 [] h6).bind fun r7 =>
 (AV.asB r7.1).bind fun b8 =>
 (bif (!b8) then
 some ((.b false), r7.2)
 else ldS r7.2 (.n h.next) 0 fun l10 =>
 ldS r7.2 (.n h.next) 1 fun l12 =>
 ldS r7.2 (.n h.next) 2 fun l14 =>
 (k14 [(.agg [(.sl l10.1 l10.2), (.sl l12.1 l12.2), (.sl l14.1 l14.2)])] r7.2).bind fun r15 =>
 (AV.asB r15.1).bind fun b16 =>
 (bif (!b16) then
 some ((.b true), r15.2)
 else let h17 := r15.2.bump 1
 ldS h17 (.n h.next) 0 fun l19 =>
 ldS h17 (.n h.next) 1 fun l21 =>
 ldS h17 (.n h.next) 2 fun l23 =>
 (k15 [(.agg [(.sl l19.1 l19.2), (.sl l21.1 l21.2), (.sl l23.1 l23.2)])] h17).bind fun r24 =>
 (AV.asAgg 3 r24.1).bind fun c25 =>
 gtS c25 0 fun l26 =>
 gtS c25 1 fun l27 =>
 gtS c25 2 fun l28 =>
 let h29 := r24.2.put r15.2.next (.cells true 33 [(.sl .nil 0), (.sl .nil 0), (.sl .nil 0)])
 (h29.st (.n r15.2.next) 0 [(.sl l26.1 l26.2), (.sl l27.1 l27.2), (.sl l28.1 l28.2)]).bind fun h30 =>
 ldS h30 (.n h.next) 0 fun l32 =>
 ldS h30 (.n h.next) 1 fun l34 =>
 ldS h30 (.n h.next) 2 fun l36 =>
 (k13 [(.agg [(.sl l32.1 l32.2), (.sl l34.1 l34.2), (.sl l36.1 l36.2)])] h30).bind fun r37 =>
 (AV.asSl r37.1).bind fun l38 =>
 ldS r37.2 (.n h.next) 0 fun l40 =>
 ldS r37.2 (.n h.next) 1 fun l42 =>
 ldS r37.2 (.n h.next) 2 fun l44 =>
 ldS r37.2 (.n r15.2.next) 0 fun l46 =>
 ldS r37.2 (.n r15.2.next) 1 fun l48 =>
 ldS r37.2 (.n r15.2.next) 2 fun l50 =>
 (k16 [(.agg [(.sl l40.1 l40.2), (.sl l42.1 l42.2), (.sl l44.1 l44.2)]), (.i .i64 n4)] r37.2).bind fun r51 =>
 (AV.asI .i64 r51.1).bind fun n52 =>
 (chkE (r51.2.ld (.n r15.2.next) 0) (some (.sl l46.1 l46.2))).bind fun _ =>
 (chkE (r51.2.ld (.n r15.2.next) 1) (some (.sl l48.1 l48.2))).bind fun _ =>
 (chkE (r51.2.ld (.n r15.2.next) 2) (some (.sl l50.1 l50.2))).bind fun _ =>
 (k17 [(.agg [(.sl l46.1 l46.2), (.sl l48.1 l48.2), (.sl l50.1 l50.2)]), (.i .i64 n4)] r51.2).bind fun r53 =>
 (AV.asI .i64 r53.1).bind fun n54 =>
 (bif ((n52 : Int) != n54) then
 some ((.b false), r53.2)
 else ldS r53.2 (.n r15.2.next) 0 fun l56 =>
 ldS r53.2 (.n r15.2.next) 1 fun l58 =>
 ldS r53.2 (.n r15.2.next) 2 fun l60 =>
 (k18 [(.agg [(.sl l56.1 l56.2), (.sl l58.1 l58.2), (.sl l60.1 l60.2)])] r53.2).bind fun r61 =>
 (AV.asB r61.1).bind fun b62 =>
 (bif (!b62) then
 some ((.b (((l38.2 : Int) : Int) == 0)), r61.2)
 else let h63 := r61.2.bump 1
 (k10 [(.sl l38.1 l38.2)] h63).bind fun r64 =>
 (AV.asTup 2 r64.1).bind fun c65 =>
 (AV.asAgg 3 (c65.getD 0 .u)).bind fun c66 =>
 gtS c66 0 fun l67 =>
 gtS c66 1 fun l68 =>
 gtS c66 2 fun l69 =>
 gtI c65 1 fun n70 =>
 let h71 := r64.2.put r61.2.next (.cells true 27 [(.sl .nil 0), (.sl .nil 0), (.sl .nil 0)])
 (h71.st (.n r61.2.next) 0 [(.sl l67.1 l67.2), (.sl l68.1 l68.2), (.sl l69.1 l69.2)]).bind fun h72 =>
 (h72.rdSl l38.1 l38.2 1).bind fun c73 =>
 (asBytes c73).bind fun s74 =>
 ldS h72 (.n r15.2.next) 0 fun l76 =>
 ldS h72 (.n r15.2.next) 1 fun l78 =>
 ldS h72 (.n r15.2.next) 2 fun l80 =>
 (k19 [(.agg [(.sl l76.1 l76.2), (.sl l78.1 l78.2), (.sl l80.1 l80.2)])] h72).bind fun r81 =>
 (AV.asSl r81.1).bind fun l82 =>
 (chkL (r81.2.rdSl l38.1 l38.2 1) (h72.rdSl l38.1 l38.2 1)).bind fun _ =>
 (r81.2.rdSl l82.1 l82.2 1).bind fun c83 =>
 (asBytes c83).bind fun s84 =>
 ((bif ((s74 == s84) == true) then
 some ([(.b ((n70 : Int) == 0))], r81.2)
 else some ([(.b false)], r81.2)) : Option (List AV × AH O)).bind fun r85 =>
 (AV.asB (r85.1.getD 0 .u)).bind fun b86 =>
 ((bif (b86 == true) then
 ldS r85.2 (.n r61.2.next) 0 fun l88 =>
 ldS r85.2 (.n r61.2.next) 1 fun l90 =>
 ldS r85.2 (.n r61.2.next) 2 fun l92 =>
 ldS r85.2 (.n r15.2.next) 0 fun l94 =>
 ldS r85.2 (.n r15.2.next) 1 fun l96 =>
 ldS r85.2 (.n r15.2.next) 2 fun l98 =>
 (k12 [(.agg [(.sl l88.1 l88.2), (.sl l90.1 l90.2), (.sl l92.1 l92.2)]), (.agg [(.sl l94.1 l94.2), (.sl l96.1 l96.2), (.sl l98.1 l98.2)])] r85.2).bind fun r99 =>
 (AV.asB r99.1).bind fun b100 =>
 some ([(.b b100)], r99.2)
 else some ([(.b false)], r85.2)) : Option (List AV × AH O)).bind fun r101 =>
 (AV.asB (r101.1.getD 0 .u)).bind fun b102 =>
 some ((.b b102), r101.2)))))
 else none
def law41_ImageBytes : Sm O := law41_ImageBytes_c law41_awake law41_few law40_Ref image_Put image_Needs haymowref41_Needs haymowref40_Right image_Get haymowref41_Put law40_Is
theorem law41_ImageBytes_run (k9 k14 k15 k13 k16 k17 k18 k10 k19 k12 : Sm O) : run (O := O) Try.prog [(9, k9), (14, k14), (15, k15), (13, k13), (16, k16), (17, k17), (18, k18), (10, k10), (19, k19), (12, k12)] Try.f4 (.n .z (.n (.n .z (.n .z .z)) (.n (.n .z (.n .z .z)) (.n .z (.n .z (.n (.n (.d [] [0, 1, 3, 4, 2, 5, 6] [0, 0, 3, 0, 0, 31, 63]) (.n .z .z)) (.n (.n .z (.n .z .z)) (.n .z (.n (.d [(6, 2, [(45, .one .b)]), (10, 3, [(50, .one .b)])] [0, 1, 2, 3, 4, 5, 6, 7, 8, 9, 10, 11, 12, 13, 14, 15] [0, 1, 0, 4, 12, 31, 63, 127, 255, 511, 1023, 2047, 2047, 8191, 16383, 32767]) .z))))))))) = law41_ImageBytes_c k9 k14 k15 k13 k16 k17 k18 k10 k19 k12 := by kernel_rfl
theorem law41_ImageBytes_sound : FSound RO Try.prog 4 law41_ImageBytes := sdf (law41_ImageBytes_run _ _ _ _ _ _ _ _ _ _) (gcons law41_awake_ent law41_awake_sound <| gcons law41_few_ent law41_few_sound <| gcons law40_Ref_ent law40_Ref_sound <| gcons image_Put_ent image_Put_sound <| gcons image_Needs_ent image_Needs_sound <| gcons haymowref41_Needs_ent haymowref41_Needs_sound <| gcons haymowref40_Right_ent haymowref40_Right_sound <| gcons image_Get_ent image_Get_sound <| gcons haymowref41_Put_ent haymowref41_Put_sound <| gcons law40_Is_ent law40_Is_sound <| gnil) Try.func4 (by kernel_rfl)
end
end Go.Abs.Try
