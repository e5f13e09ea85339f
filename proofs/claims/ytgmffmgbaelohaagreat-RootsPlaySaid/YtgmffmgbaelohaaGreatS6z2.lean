/-
  What functions of the program do. No conditions.
-/
import Derived.Test.YtgmffmgbaelohaaGreatProg
import Derived.Test.YtgmffmgbaelohaaGreatS6z1
import Derived.KernelRfl
set_option linter.unusedVariables false
set_option linter.unusedSimpArgs false
set_option linter.constructorNameAsVariable false
set_option maxRecDepth 100000
namespace Go.Abs.Tryz
open Go Go.Abs Go.Proofs
noncomputable section
variable {O : Type} {RO : O -> Loc -> (Nat -> Option Obj) -> Prop}
def haymowref17_More_L2 (l12 : SA × Nat) (n1 : Int) : List AV × AH O -> Option ((List AV × AH O) ⊕ (List AV × AH O)) := (fun r13 =>
 (AV.asI .i64 (r13.1.getD 0 .u)).bind fun n14 =>
 (bif (decide (n14 < (l12.2 : Int))) then
 (bif ((decide ((0 : Int) <= n14)) && (decide (n14 < (l12.2 : Int)))) then
 (SA.ref l12.1).bind fun q15 =>
 ldU r13.2 q15.1 (q15.2 + (n14.toNat * 1)) fun n17 =>
 ((bif ((n17 : Int) != 0) then
 (bif ((decide ((0 : Int) <= n14)) && (decide (n14 < (l12.2 : Int)))) then
 (SA.ref l12.1).bind fun q18 =>
 ldU r13.2 q18.1 (q18.2 + (n14.toNat * 1)) fun n20 =>
 (bif ((decide ((0 : Int) <= n14)) && (decide (n14 < (l12.2 : Int)))) then
 (SA.ref l12.1).bind fun q21 =>
 (r13.2.st q21.1 (q21.2 + (n14.toNat * 1)) [(.i .u64 (IntKind.u64.wrap (n20 + n1)))]).bind fun h22 =>
 some ([], h22)
 else none)
 else none)
 else some ([], r13.2)) : Option (List AV × AH O)).bind fun r23 =>
 some (Sum.inl ([(.i .i64 (IntKind.i64.wrap (n14 + 1)))], r23.2))
 else none)
 else some (Sum.inr ([], r13.2))))
def haymowref17_More_L1 (l0 : SA × Nat) (n1 : Int) : List AV × AH O -> Option ((List AV × AH O) ⊕ (List AV × AH O)) := (fun r2 =>
 (AV.asSl (r2.1.getD 0 .u)).bind fun l3 =>
 (AV.asI .i64 (r2.1.getD 1 .u)).bind fun n4 =>
 (bif (decide (n4 < (l0.2 : Int))) then
 let h5 := r2.2.bump 2
 let h6 := h5.put r2.2.next (.cells true 40 [])
 (bif ((decide ((0 : Int) <= n4)) && (decide (n4 < (l0.2 : Int)))) then
 (SA.ref l0.1).bind fun q7 =>
 ldS h6 q7.1 (q7.2 + (n4.toNat * 1)) fun l9 =>
 (h6.rdSl l9.1 l9.2 1).bind fun new10 =>
 (bif (Nat.ble ((0 + l9.2) * 9) 35184372088832) then
 (h6.appSl (r2.2.next + 1) 40 1 (.loc (.n r2.2.next) 0 1) 0 l9.2 new10).bind fun r11 =>
 (AV.asSl r11.1).bind fun l12 =>
 (loopF (S := List AV × AH O) (T := List AV × AH O) (haymowref17_More_L2 l12 n1) ([(.i .i64 0)], r11.2)).bind fun r24 =>
 let h25 := r24.2.bump 2
 let h26 := h25.put r24.2.next (.cells true 70 [(.sl l12.1 l12.2)])
 (h26.rdSl (.loc (.n r24.2.next) 0 1) 1 1).bind fun new27 =>
 (bif (Nat.ble ((l3.2 + 1) * 25) 35184372088832) then
 (h26.appSl (r24.2.next + 1) 70 1 l3.1 l3.2 1 new27).bind fun r28 =>
 (AV.asSl r28.1).bind fun l29 =>
 some (Sum.inl ([(.sl l29.1 l29.2), (.i .i64 (IntKind.i64.wrap (n4 + 1)))], r28.2))
 else none)
 else none)
 else none)
 else some (Sum.inr ([(.sl l3.1 l3.2)], r2.2))))
def haymowref17_More_c : Sm O := fun xs h =>
 bif Nat.beq xs.length 2 then
 gtS xs 0 fun l0 =>
 gtU xs 1 fun n1 =>
 (loopF (S := List AV × AH O) (T := List AV × AH O) (haymowref17_More_L1 l0 n1) ([(.sl .nil 0), (.i .i64 0)], h)).bind fun r30 =>
 (AV.asSl (r30.1.getD 0 .u)).bind fun l31 =>
 some ((.sl l31.1 l31.2), r30.2)
 else none
def haymowref17_More : Sm O := frz (haymowref17_More_c)
theorem haymowref17_More_ent : Entered Tryz.prog 198 := Tryz.call198
theorem haymowref17_More_run : run (O := O) Tryz.prog [] Tryz.f198 (.n .z (.n .z (.n (.n .z (.n (.lp false 0 [(5, .one .sl), (6, .one (.i .i64))] [(5, .one .sl)] (.n (.n .z .z) (.n (.n (.n .z (.n (.n .z (.n (.lp false 2 [(8, .one (.i .i64))] [] (.n (.n .z .z) (.n (.n (.n .z (.j false [] .z .z)) .z) .z))) .z)) .z)) .z) .z))) .z)) .z))) = haymowref17_More_c  := by kernel_rfl
theorem haymowref17_More_sound : FSound RO Tryz.prog 198 (haymowref17_More) :=
   have h : FSound RO Tryz.prog 198 (haymowref17_More_c) := (haymowref17_More_run) ▸ run_sound (gnil) mixed Tryz.func198 (by kernel_rfl) _
   h.frz
def haymowref18_More_L1 (h : AH O) (n6 : Int) : List AV × AH O -> Option ((List AV × AH O) ⊕ (List AV × AH O)) := (fun r18 =>
 (AV.asI .i64 (r18.1.getD 0 .u)).bind fun n19 =>
 ldS r18.2 (.n h.next) 4 fun l21 =>
 (bif (decide (n19 < (l21.2 : Int))) then
 ldS r18.2 (.n h.next) 4 fun l23 =>
 (bif ((decide ((0 : Int) <= n19)) && (decide (n19 < (l23.2 : Int)))) then
 (SA.ref l23.1).bind fun q24 =>
 ldU r18.2 q24.1 ((q24.2 + (n19.toNat * 2)) + 1) fun n26 =>
 ((bif ((n26 : Int) != 0) then
 ldS r18.2 (.n h.next) 4 fun l28 =>
 ldS r18.2 (.n h.next) 4 fun l30 =>
 (bif ((decide ((0 : Int) <= n19)) && (decide (n19 < (l30.2 : Int)))) then
 (SA.ref l30.1).bind fun q31 =>
 ldU r18.2 q31.1 ((q31.2 + (n19.toNat * 2)) + 1) fun n33 =>
 (bif ((decide ((0 : Int) <= n19)) && (decide (n19 < (l28.2 : Int)))) then
 (SA.ref l28.1).bind fun q34 =>
 (r18.2.st q34.1 ((q34.2 + (n19.toNat * 2)) + 1) [(.i .u64 (IntKind.u64.wrap (n33 + n6)))]).bind fun h35 =>
 some ([], h35)
 else none)
 else none)
 else some ([], r18.2)) : Option (List AV × AH O)).bind fun r36 =>
 some (Sum.inl ([(.i .i64 (IntKind.i64.wrap (n19 + 1)))], r36.2))
 else none)
 else some (Sum.inr ([], r18.2))))
def haymowref18_More_c : Sm O := fun xs h =>
 bif Nat.beq xs.length 2 then
 (AV.asAgg 5 (xs.getD 0 .u)).bind fun c0 =>
 gtI c0 0 fun n1 =>
 gtS c0 1 fun l2 =>
 gtS c0 2 fun l3 =>
 gtI c0 3 fun n4 =>
 gtS c0 4 fun l5 =>
 gtU xs 1 fun n6 =>
 let h7 := h.bump 2
 let h8 := h7.put h.next (.cells true 34 [(.i .i64 n1), (.sl l2.1 l2.2), (.sl l3.1 l3.2), (.i .i64 n4), (.sl l5.1 l5.2)])
 let h9 := h8.put (h.next + 1) (.cells true 34 [(.i .i64 0), (.sl .nil 0), (.sl .nil 0), (.i .i64 0), (.sl .nil 0)])
 let h10 := h9.bump 2
 let h11 := h10.put h9.next (.cells true 54 [])
 ldS h11 (.n h.next) 4 fun l13 =>
 (h11.rdSl l13.1 l13.2 2).bind fun new14 =>
 (bif (Nat.ble ((0 + l13.2) * 17) 35184372088832) then
 (h11.appSl (h9.next + 1) 54 2 (.loc (.n h9.next) 0 2) 0 l13.2 new14).bind fun r15 =>
 (AV.asSl r15.1).bind fun l16 =>
 (r15.2.st (.n h.next) 4 [(.sl l16.1 l16.2)]).bind fun h17 =>
 (loopF (S := List AV × AH O) (T := List AV × AH O) (haymowref18_More_L1 h n6) ([(.i .i64 0)], h17)).bind fun r37 =>
 ldI r37.2 (.n h.next) 0 fun n39 =>
 ldS r37.2 (.n h.next) 1 fun l41 =>
 ldS r37.2 (.n h.next) 2 fun l43 =>
 ldI r37.2 (.n h.next) 3 fun n45 =>
 ldS r37.2 (.n h.next) 4 fun l47 =>
 (r37.2.st (.n (h.next + 1)) 0 [(.i .i64 n39), (.sl l41.1 l41.2), (.sl l43.1 l43.2), (.i .i64 n45), (.sl l47.1 l47.2)]).bind fun h48 =>
 ldI h48 (.n (h.next + 1)) 0 fun n50 =>
 ldS h48 (.n (h.next + 1)) 1 fun l52 =>
 ldS h48 (.n (h.next + 1)) 2 fun l54 =>
 ldI h48 (.n (h.next + 1)) 3 fun n56 =>
 ldS h48 (.n (h.next + 1)) 4 fun l58 =>
 some ((.agg [(.i .i64 n50), (.sl l52.1 l52.2), (.sl l54.1 l54.2), (.i .i64 n56), (.sl l58.1 l58.2)]), h48)
 else none)
 else none
def haymowref18_More : Sm O := frz (haymowref18_More_c)
theorem haymowref18_More_ent : Entered Tryz.prog 135 := Tryz.call135
theorem haymowref18_More_run : run (O := O) Tryz.prog [] Tryz.f135 (.n .z (.n .z (.n (.n .z (.n (.lp false 0 [(5, .one (.i .i64))] [] (.n (.n .z .z) (.n (.n (.n .z (.j false [] (.d [] [0, 1, 2, 3, 4, 5, 6, 7, 8, 9, 10, 11, 12, 13] [0, 1, 0, 0, 8, 0, 56, 120, 248, 0, 1016, 2047, 4095, 8191]) .z)) .z) .z))) .z)) .z))) = haymowref18_More_c  := by kernel_rfl
theorem haymowref18_More_sound : FSound RO Tryz.prog 135 (haymowref18_More) :=
   have h : FSound RO Tryz.prog 135 (haymowref18_More_c) := (haymowref18_More_run) ▸ run_sound (gnil) mixed Tryz.func135 (by kernel_rfl) _
   h.frz
def haymowref19_More_c (k198 k135 : Sm O) : Sm O := fun xs h =>
 bif Nat.beq xs.length 2 then
 (AV.asAgg 11 (xs.getD 0 .u)).bind fun c0 =>
 gtS c0 0 fun l1 =>
 gtI c0 1 fun n2 =>
 gtS c0 2 fun l3 =>
 gtS c0 3 fun l4 =>
 gtI c0 4 fun n5 =>
 gtS c0 5 fun l6 =>
 gtI c0 6 fun n7 =>
 gtS c0 7 fun l8 =>
 gtS c0 8 fun l9 =>
 gtI c0 9 fun n10 =>
 gtS c0 10 fun l11 =>
 gtU xs 1 fun n12 =>
 let h13 := h.bump 2
 let h14 := h13.put h.next (.cells true 36 [(.sl l1.1 l1.2), (.i .i64 n2), (.sl l3.1 l3.2), (.sl l4.1 l4.2), (.i .i64 n5), (.sl l6.1 l6.2), (.i .i64 n7), (.sl l8.1 l8.2), (.sl l9.1 l9.2), (.i .i64 n10), (.sl l11.1 l11.2)])
 let h15 := h14.put (h.next + 1) (.cells true 36 [(.sl .nil 0), (.i .i64 0), (.sl .nil 0), (.sl .nil 0), (.i .i64 0), (.sl .nil 0), (.i .i64 0), (.sl .nil 0), (.sl .nil 0), (.i .i64 0), (.sl .nil 0)])
 ldS h15 (.n h.next) 0 fun l17 =>
 (k198 [(.sl l17.1 l17.2), (.i .u64 n12)] h15).bind fun r18 =>
 (AV.asSl r18.1).bind fun l19 =>
 (r18.2.st (.n h.next) 0 [(.sl l19.1 l19.2)]).bind fun h20 =>
 ldI h20 (.n h.next) 1 fun n22 =>
 ldS h20 (.n h.next) 2 fun l24 =>
 ldS h20 (.n h.next) 3 fun l26 =>
 ldI h20 (.n h.next) 4 fun n28 =>
 ldS h20 (.n h.next) 5 fun l30 =>
 (k135 [(.agg [(.i .i64 n22), (.sl l24.1 l24.2), (.sl l26.1 l26.2), (.i .i64 n28), (.sl l30.1 l30.2)]), (.i .u64 n12)] h20).bind fun r31 =>
 (AV.asAgg 5 r31.1).bind fun c32 =>
 gtI c32 0 fun n33 =>
 gtS c32 1 fun l34 =>
 gtS c32 2 fun l35 =>
 gtI c32 3 fun n36 =>
 gtS c32 4 fun l37 =>
 (r31.2.st (.n h.next) 1 [(.i .i64 n33), (.sl l34.1 l34.2), (.sl l35.1 l35.2), (.i .i64 n36), (.sl l37.1 l37.2)]).bind fun h38 =>
 ldS h38 (.n h.next) 0 fun l40 =>
 ldI h38 (.n h.next) 1 fun n42 =>
 ldS h38 (.n h.next) 2 fun l44 =>
 ldS h38 (.n h.next) 3 fun l46 =>
 ldI h38 (.n h.next) 4 fun n48 =>
 ldS h38 (.n h.next) 5 fun l50 =>
 ldI h38 (.n h.next) 6 fun n52 =>
 ldS h38 (.n h.next) 7 fun l54 =>
 ldS h38 (.n h.next) 8 fun l56 =>
 ldI h38 (.n h.next) 9 fun n58 =>
 ldS h38 (.n h.next) 10 fun l60 =>
 (h38.st (.n (h.next + 1)) 0 [(.sl l40.1 l40.2), (.i .i64 n42), (.sl l44.1 l44.2), (.sl l46.1 l46.2), (.i .i64 n48), (.sl l50.1 l50.2), (.i .i64 n52), (.sl l54.1 l54.2), (.sl l56.1 l56.2), (.i .i64 n58), (.sl l60.1 l60.2)]).bind fun h61 =>
 ldS h61 (.n (h.next + 1)) 0 fun l63 =>
 ldI h61 (.n (h.next + 1)) 1 fun n65 =>
 ldS h61 (.n (h.next + 1)) 2 fun l67 =>
 ldS h61 (.n (h.next + 1)) 3 fun l69 =>
 ldI h61 (.n (h.next + 1)) 4 fun n71 =>
 ldS h61 (.n (h.next + 1)) 5 fun l73 =>
 ldI h61 (.n (h.next + 1)) 6 fun n75 =>
 ldS h61 (.n (h.next + 1)) 7 fun l77 =>
 ldS h61 (.n (h.next + 1)) 8 fun l79 =>
 ldI h61 (.n (h.next + 1)) 9 fun n81 =>
 ldS h61 (.n (h.next + 1)) 10 fun l83 =>
 some ((.agg [(.sl l63.1 l63.2), (.i .i64 n65), (.sl l67.1 l67.2), (.sl l69.1 l69.2), (.i .i64 n71), (.sl l73.1 l73.2), (.i .i64 n75), (.sl l77.1 l77.2), (.sl l79.1 l79.2), (.i .i64 n81), (.sl l83.1 l83.2)]), h61)
 else none
def haymowref19_More : Sm O := frz (haymowref19_More_c haymowref17_More haymowref18_More)
theorem haymowref19_More_ent : Entered Tryz.prog 131 := Tryz.call131
theorem haymowref19_More_run (k198 k135 : Sm O) : run (O := O) Tryz.prog [(198, k198), (135, k135)] Tryz.f131 (.n .z (.n .z (.n .z .z))) = haymowref19_More_c k198 k135 := by kernel_rfl
theorem haymowref19_More_sound : FSound RO Tryz.prog 131 (haymowref19_More) :=
   have h : FSound RO Tryz.prog 131 (haymowref19_More_c haymowref17_More haymowref18_More) := (haymowref19_More_run haymowref17_More haymowref18_More) ▸ run_sound (gcons haymowref17_More_ent (haymowref17_More_sound) <| gcons haymowref18_More_ent (haymowref18_More_sound) <| gnil) mixed Tryz.func131 (by kernel_rfl) _
   h.frz
def haymowref17_Filled_L2 (n3 : Int) (l0 : SA × Nat) : List AV × AH O -> Option ((List AV × AH O) ⊕ (List AV × AH O)) := (fun r4 =>
 (AV.asSl (r4.1.getD 0 .u)).bind fun l5 =>
 (AV.asI .i64 (r4.1.getD 1 .u)).bind fun n6 =>
 (bif ((decide ((0 : Int) <= n3)) && (decide (n3 < (l0.2 : Int)))) then
 (SA.ref l0.1).bind fun q7 =>
 ldS r4.2 q7.1 (q7.2 + (n3.toNat * 1)) fun l9 =>
 (bif (decide (n6 < (l9.2 : Int))) then
 (bif ((decide ((0 : Int) <= n3)) && (decide (n3 < (l0.2 : Int)))) then
 (SA.ref l0.1).bind fun q10 =>
 ldS r4.2 q10.1 (q10.2 + (n3.toNat * 1)) fun l12 =>
 (bif ((decide ((0 : Int) <= n6)) && (decide (n6 < (l12.2 : Int)))) then
 (SA.ref l12.1).bind fun q13 =>
 ldU r4.2 q13.1 (q13.2 + (n6.toNat * 1)) fun n15 =>
 ((bif ((n15 : Int) != 0) then
 let h16 := r4.2.bump 2
 (bif ((decide ((0 : Int) <= n3)) && (decide (n3 < (l0.2 : Int)))) then
 (SA.ref l0.1).bind fun q17 =>
 ldS h16 q17.1 (q17.2 + (n3.toNat * 1)) fun l19 =>
 (bif ((decide ((0 : Int) <= n6)) && (decide (n6 < (l19.2 : Int)))) then
 (SA.ref l19.1).bind fun q20 =>
 ldU h16 q20.1 (q20.2 + (n6.toNat * 1)) fun n22 =>
 let h23 := h16.put r4.2.next (.cells true 40 [(.i .u64 n22)])
 (h23.rdSl (.loc (.n r4.2.next) 0 1) 1 1).bind fun new24 =>
 (bif (Nat.ble ((l5.2 + 1) * 9) 35184372088832) then
 (h23.appSl (r4.2.next + 1) 40 1 l5.1 l5.2 1 new24).bind fun r25 =>
 (AV.asSl r25.1).bind fun l26 =>
 some ([(.sl l26.1 l26.2)], r25.2)
 else none)
 else none)
 else none)
 else some ([(.sl l5.1 l5.2)], r4.2)) : Option (List AV × AH O)).bind fun r27 =>
 (AV.asSl (r27.1.getD 0 .u)).bind fun l28 =>
 some (Sum.inl ([(.sl l28.1 l28.2), (.i .i64 (IntKind.i64.wrap (n6 + 1)))], r27.2))
 else none)
 else none)
 else some (Sum.inr ([(.sl l5.1 l5.2)], r4.2)))
 else none))
def haymowref17_Filled_L1 (l0 : SA × Nat) : List AV × AH O -> Option ((List AV × AH O) ⊕ (List AV × AH O)) := (fun r1 =>
 (AV.asSl (r1.1.getD 0 .u)).bind fun l2 =>
 (AV.asI .i64 (r1.1.getD 1 .u)).bind fun n3 =>
 (bif (decide (n3 >= 0)) then
 (loopF (S := List AV × AH O) (T := List AV × AH O) (haymowref17_Filled_L2 n3 l0) ([(.sl l2.1 l2.2), (.i .i64 0)], r1.2)).bind fun r29 =>
 (AV.asSl (r29.1.getD 0 .u)).bind fun l30 =>
 some (Sum.inl ([(.sl l30.1 l30.2), (.i .i64 (IntKind.i64.wrap (n3 - 1)))], r29.2))
 else some (Sum.inr ([(.sl l2.1 l2.2)], r1.2))))
def haymowref17_Filled_c : Sm O := fun xs h =>
 bif Nat.beq xs.length 1 then
 gtS xs 0 fun l0 =>
 (loopF (S := List AV × AH O) (T := List AV × AH O) (haymowref17_Filled_L1 l0) ([(.sl .nil 0), (.i .i64 (IntKind.i64.wrap ((l0.2 : Int) - 1)))], h)).bind fun r31 =>
 (AV.asSl (r31.1.getD 0 .u)).bind fun l32 =>
 some ((.sl l32.1 l32.2), r31.2)
 else none
def haymowref17_Filled : Sm O := haymowref17_Filled_c
theorem haymowref17_Filled_ent : Entered Tryz.prog 199 := Tryz.call199
theorem haymowref17_Filled_run : run (O := O) Tryz.prog [] Tryz.f199 (.n .z (.n .z (.n (.n .z (.n (.lp false 0 [(3, .one .sl), (4, .one (.i .i64))] [(3, .one .sl)] (.n (.n .z .z) (.n (.n (.n .z (.n (.lp false 2 [(3, .one .sl), (5, .one (.i .i64))] [(3, .one .sl)] (.n (.n .z .z) (.n (.n (.n .z (.j false [(3, .one .sl)] .z .z)) .z) .z))) .z)) .z) .z))) .z)) .z))) = haymowref17_Filled_c  := by kernel_rfl
theorem haymowref17_Filled_sound : FSound RO Tryz.prog 199 haymowref17_Filled := sdf haymowref17_Filled_run (gnil) Tryz.func199 (by kernel_rfl)
def haymowref18_Filled_L1 (h : AH O) : List AV × AH O -> Option ((List AV × AH O) ⊕ (List AV × AH O)) := (fun r8 =>
 (AV.asSl (r8.1.getD 0 .u)).bind fun l9 =>
 (AV.asI .i64 (r8.1.getD 1 .u)).bind fun n10 =>
 ldS r8.2 (.n h.next) 4 fun l12 =>
 (bif (decide (n10 < (l12.2 : Int))) then
 ldS r8.2 (.n h.next) 4 fun l14 =>
 (bif ((decide ((0 : Int) <= n10)) && (decide (n10 < (l14.2 : Int)))) then
 (SA.ref l14.1).bind fun q15 =>
 ldU r8.2 q15.1 ((q15.2 + (n10.toNat * 2)) + 1) fun n17 =>
 ((bif ((n17 : Int) != 0) then
 let h18 := r8.2.bump 2
 ldS h18 (.n h.next) 4 fun l20 =>
 (bif ((decide ((0 : Int) <= n10)) && (decide (n10 < (l20.2 : Int)))) then
 (SA.ref l20.1).bind fun q21 =>
 ldU h18 q21.1 ((q21.2 + (n10.toNat * 2)) + 1) fun n23 =>
 let h24 := h18.put r8.2.next (.cells true 40 [(.i .u64 n23)])
 (h24.rdSl (.loc (.n r8.2.next) 0 1) 1 1).bind fun new25 =>
 (bif (Nat.ble ((l9.2 + 1) * 9) 35184372088832) then
 (h24.appSl (r8.2.next + 1) 40 1 l9.1 l9.2 1 new25).bind fun r26 =>
 (AV.asSl r26.1).bind fun l27 =>
 some ([(.sl l27.1 l27.2)], r26.2)
 else none)
 else none)
 else some ([(.sl l9.1 l9.2)], r8.2)) : Option (List AV × AH O)).bind fun r28 =>
 (AV.asSl (r28.1.getD 0 .u)).bind fun l29 =>
 some (Sum.inl ([(.sl l29.1 l29.2), (.i .i64 (IntKind.i64.wrap (n10 + 1)))], r28.2))
 else none)
 else some (Sum.inr ([(.sl l9.1 l9.2)], r8.2))))
def haymowref18_Filled_c : Sm O := fun xs h =>
 bif Nat.beq xs.length 1 then
 (AV.asAgg 5 (xs.getD 0 .u)).bind fun c0 =>
 gtI c0 0 fun n1 =>
 gtS c0 1 fun l2 =>
 gtS c0 2 fun l3 =>
 gtI c0 3 fun n4 =>
 gtS c0 4 fun l5 =>
 let h6 := h.bump 1
 let h7 := h6.put h.next (.cells true 34 [(.i .i64 n1), (.sl l2.1 l2.2), (.sl l3.1 l3.2), (.i .i64 n4), (.sl l5.1 l5.2)])
 (loopF (S := List AV × AH O) (T := List AV × AH O) (haymowref18_Filled_L1 h) ([(.sl .nil 0), (.i .i64 0)], h7)).bind fun r30 =>
 (AV.asSl (r30.1.getD 0 .u)).bind fun l31 =>
 some ((.sl l31.1 l31.2), r30.2)
 else none
def haymowref18_Filled : Sm O := frz (haymowref18_Filled_c)
theorem haymowref18_Filled_ent : Entered Tryz.prog 134 := Tryz.call134
theorem haymowref18_Filled_run : run (O := O) Tryz.prog [] Tryz.f134 (.n .z (.n .z (.n (.n .z (.n (.lp false 0 [(3, .one .sl), (4, .one (.i .i64))] [(3, .one .sl)] (.n (.n .z .z) (.n (.n (.n .z (.j false [(3, .one .sl)] .z .z)) .z) .z))) .z)) .z))) = haymowref18_Filled_c  := by kernel_rfl
theorem haymowref18_Filled_sound : FSound RO Tryz.prog 134 (haymowref18_Filled) :=
   have h : FSound RO Tryz.prog 134 (haymowref18_Filled_c) := (haymowref18_Filled_run) ▸ run_sound (gnil) mixed Tryz.func134 (by kernel_rfl) _
   h.frz
def haymowref19_Filled_c (k199 k134 : Sm O) : Sm O := fun xs h =>
 bif Nat.beq xs.length 1 then
 (AV.asAgg 11 (xs.getD 0 .u)).bind fun c0 =>
 gtS c0 0 fun l1 =>
 gtI c0 1 fun n2 =>
 gtS c0 2 fun l3 =>
 gtS c0 3 fun l4 =>
 gtI c0 4 fun n5 =>
 gtS c0 5 fun l6 =>
 gtI c0 6 fun n7 =>
 gtS c0 7 fun l8 =>
 gtS c0 8 fun l9 =>
 gtI c0 9 fun n10 =>
 gtS c0 10 fun l11 =>
 let h12 := h.bump 1
 let h13 := h12.put h.next (.cells true 36 [(.sl l1.1 l1.2), (.i .i64 n2), (.sl l3.1 l3.2), (.sl l4.1 l4.2), (.i .i64 n5), (.sl l6.1 l6.2), (.i .i64 n7), (.sl l8.1 l8.2), (.sl l9.1 l9.2), (.i .i64 n10), (.sl l11.1 l11.2)])
 let h14 := h13.bump 1
 ldS h14 (.n h.next) 0 fun l16 =>
 ldI h14 (.n h.next) 1 fun n18 =>
 ldS h14 (.n h.next) 2 fun l20 =>
 ldS h14 (.n h.next) 3 fun l22 =>
 ldI h14 (.n h.next) 4 fun n24 =>
 ldS h14 (.n h.next) 5 fun l26 =>
 (k199 [(.sl l16.1 l16.2)] h14).bind fun r27 =>
 (AV.asSl r27.1).bind fun l28 =>
 (chkE (r27.2.ld (.n h.next) 1) (some (.i .i64 n18))).bind fun _ =>
 (chkE (r27.2.ld (.n h.next) 2) (some (.sl l20.1 l20.2))).bind fun _ =>
 (chkE (r27.2.ld (.n h.next) 3) (some (.sl l22.1 l22.2))).bind fun _ =>
 (chkE (r27.2.ld (.n h.next) 4) (some (.i .i64 n24))).bind fun _ =>
 (chkE (r27.2.ld (.n h.next) 5) (some (.sl l26.1 l26.2))).bind fun _ =>
 (k134 [(.agg [(.i .i64 n18), (.sl l20.1 l20.2), (.sl l22.1 l22.2), (.i .i64 n24), (.sl l26.1 l26.2)])] r27.2).bind fun r29 =>
 (AV.asSl r29.1).bind fun l30 =>
 (r29.2.rdSl l30.1 l30.2 1).bind fun new31 =>
 (bif (Nat.ble ((l28.2 + l30.2) * 9) 35184372088832) then
 (r29.2.appSl h13.next 40 1 l28.1 l28.2 l30.2 new31).bind fun r32 =>
 (AV.asSl r32.1).bind fun l33 =>
 some ((.sl l33.1 l33.2), r32.2)
 else none)
 else none
def haymowref19_Filled : Sm O := frz (haymowref19_Filled_c haymowref17_Filled haymowref18_Filled)
theorem haymowref19_Filled_ent : Entered Tryz.prog 133 := Tryz.call133
theorem haymowref19_Filled_run (k199 k134 : Sm O) : run (O := O) Tryz.prog [(199, k199), (134, k134)] Tryz.f133 (.n .z (.n (.d [] [0, 1, 3, 4, 2, 5, 6, 7] [0, 1, 3, 0, 8, 31, 63, 127]) .z)) = haymowref19_Filled_c k199 k134 := by kernel_rfl
theorem haymowref19_Filled_sound : FSound RO Tryz.prog 133 (haymowref19_Filled) :=
   have h : FSound RO Tryz.prog 133 (haymowref19_Filled_c haymowref17_Filled haymowref18_Filled) := (haymowref19_Filled_run haymowref17_Filled haymowref18_Filled) ▸ run_sound (gcons haymowref17_Filled_ent (haymowref17_Filled_sound) <| gcons haymowref18_Filled_ent (haymowref18_Filled_sound) <| gnil) mixed Tryz.func133 (by kernel_rfl) _
   h.frz
def haymowref05_Same_L1 (l0 : SA × Nat) (l1 : SA × Nat) : List AV × AH O -> Option ((List AV × AH O) ⊕ ((List AV × AH O) ⊕ (AV × AH O))) := (fun r2 =>
 (AV.asI .i64 (r2.1.getD 0 .u)).bind fun n3 =>
 (bif (decide (n3 < (l0.2 : Int))) then
 (bif ((decide ((0 : Int) <= n3)) && (decide (n3 < (l0.2 : Int)))) then
 (SA.ref l0.1).bind fun q4 =>
 ldU r2.2 q4.1 (q4.2 + (n3.toNat * 1)) fun n6 =>
 (bif ((decide ((0 : Int) <= n3)) && (decide (n3 < (l1.2 : Int)))) then
 (SA.ref l1.1).bind fun q7 =>
 ldU r2.2 q7.1 (q7.2 + (n3.toNat * 1)) fun n9 =>
 (bif ((n6 : Int) != n9) then
 ((some ((.b false), r2.2) : Option (AV × AH O)).map fun r => Sum.inr (Sum.inr r))
 else some (Sum.inl ([(.i .i64 (IntKind.i64.wrap (n3 + 1)))], r2.2)))
 else none)
 else none)
 else some (Sum.inr (Sum.inl ([], r2.2)))))
def haymowref05_Same_c : Sm O := fun xs h =>
 bif Nat.beq xs.length 2 then
 gtS xs 0 fun l0 =>
 gtS xs 1 fun l1 =>
 (bif (((l0.2 : Int) : Int) != (l1.2 : Int)) then
 some ((.b false), h)
 else bindS (S := List AV × AH O) (R := (AV × AH O)) (loopF (S := List AV × AH O) (T := (List AV × AH O) ⊕ (AV × AH O)) (haymowref05_Same_L1 l0 l1) ([(.i .i64 0)], h)) fun r10 =>
 some ((.b true), r10.2))
 else none
def haymowref05_Same : Sm O := haymowref05_Same_c
theorem haymowref05_Same_ent : Entered Tryz.prog 132 := Tryz.call132
theorem haymowref05_Same_run : run (O := O) Tryz.prog [] Tryz.f132 (.n .z (.n (.n .z (.n .z .z)) (.n (.n .z (.n (.lp true 0 [(5, .one (.i .i64))] [] (.n (.n .z .z) (.n (.n (.n (.d [] [0, 1, 2, 3, 4, 5, 6, 7, 8] [0, 0, 3, 7, 0, 0, 48, 112, 255]) (.n .z .z)) .z) .z))) .z)) .z))) = haymowref05_Same_c  := by kernel_rfl
theorem haymowref05_Same_sound : FSound RO Tryz.prog 132 haymowref05_Same := sdf haymowref05_Same_run (gnil) Tryz.func132 (by kernel_rfl)
def roots_Roots__TurnWeak_c (k189 : Sm O) : Sm O := fun xs h =>
 bif Nat.beq xs.length 2 then
 (AV.asP (xs.getD 0 .u)).bind fun p0 =>
 (AV.asF (xs.getD 1 .u)).bind fun f1 =>
 Option.bind p0 fun q2 =>
 ldP h q2.1 (q2.2 + 2) fun p4 =>
 (k189 [(.p p4), (.fn f1)] h).bind fun r5 =>
 (AV.asTup 0 r5.1).bind fun c6 =>
 some ((.tup []), r5.2)
 else none
def roots_Roots__TurnWeak : Sm O := roots_Roots__TurnWeak_c handles_Handles__Turn
theorem roots_Roots__TurnWeak_ent : Entered Tryz.prog 110 := Tryz.call110
theorem roots_Roots__TurnWeak_run (k189 : Sm O) : run (O := O) Tryz.prog [(189, k189)] Tryz.f110 .z = roots_Roots__TurnWeak_c k189 := by kernel_rfl
theorem roots_Roots__TurnWeak_sound : FSound RO Tryz.prog 110 roots_Roots__TurnWeak := sdf (roots_Roots__TurnWeak_run _) (gcons handles_Handles__Turn_ent handles_Handles__Turn_sound <| gnil) Tryz.func110 (by kernel_rfl)
def law19_turn_c (k129 k130 k131 k133 k132 k110 k134 k135 : Sm O) : Sm O := fun xs h =>
 bif Nat.beq xs.length 3 then
 (AV.asP (xs.getD 0 .u)).bind fun p0 =>
 (AV.asAgg 11 (xs.getD 1 .u)).bind fun c1 =>
 gtS c1 0 fun l2 =>
 gtI c1 1 fun n3 =>
 gtS c1 2 fun l4 =>
 gtS c1 3 fun l5 =>
 gtI c1 4 fun n6 =>
 gtS c1 5 fun l7 =>
 gtI c1 6 fun n8 =>
 gtS c1 7 fun l9 =>
 gtS c1 8 fun l10 =>
 gtI c1 9 fun n11 =>
 gtS c1 10 fun l12 =>
 (AV.asAgg 3 (xs.getD 2 .u)).bind fun c13 =>
 gtI c13 0 fun n14 =>
 gtI c13 1 fun n15 =>
 gtU c13 2 fun n16 =>
 let h17 := h.bump 3
 let h18 := h17.put h.next (.cells true 36 [(.sl l2.1 l2.2), (.i .i64 n3), (.sl l4.1 l4.2), (.sl l5.1 l5.2), (.i .i64 n6), (.sl l7.1 l7.2), (.i .i64 n8), (.sl l9.1 l9.2), (.sl l10.1 l10.2), (.i .i64 n11), (.sl l12.1 l12.2)])
 let h19 := h18.put (h.next + 1) (.cells true 42 [(.i .i64 n14), (.i .i64 n15), (.i .u64 n16)])
 let h20 := h19.put ((h.next + 1) + 1) (.cells true 36 [(.sl .nil 0), (.i .i64 0), (.sl .nil 0), (.sl .nil 0), (.i .i64 0), (.sl .nil 0), (.i .i64 0), (.sl .nil 0), (.sl .nil 0), (.i .i64 0), (.sl .nil 0)])
 let h21 := h20.bump 1
 let h22 := h21.put h20.next (.cells true 70 [(.sl .nil 0)])
 ldI h22 (.n (h.next + 1)) 0 fun n24 =>
 (bif ((n24 : Int) == 9) then
 (k130 [(.p p0), (.fn (some (.func 129, [], [(.p (some ((.n h20.next), 0))), (.p (some ((.n (h.next + 1)), 0)))])))] h22).bind fun r25 =>
 (AV.asTup 0 r25.1).bind fun c26 =>
 ldS r25.2 (.n h.next) 0 fun l28 =>
 ldI r25.2 (.n h.next) 1 fun n30 =>
 ldS r25.2 (.n h.next) 2 fun l32 =>
 ldS r25.2 (.n h.next) 3 fun l34 =>
 ldI r25.2 (.n h.next) 4 fun n36 =>
 ldS r25.2 (.n h.next) 5 fun l38 =>
 ldI r25.2 (.n h.next) 6 fun n40 =>
 ldS r25.2 (.n h.next) 7 fun l42 =>
 ldS r25.2 (.n h.next) 8 fun l44 =>
 ldI r25.2 (.n h.next) 9 fun n46 =>
 ldS r25.2 (.n h.next) 10 fun l48 =>
 ldU r25.2 (.n (h.next + 1)) 2 fun n50 =>
 ldS r25.2 (.n h20.next) 0 fun l52 =>
 ldS r25.2 (.n h.next) 0 fun l54 =>
 ldI r25.2 (.n h.next) 1 fun n56 =>
 ldS r25.2 (.n h.next) 2 fun l58 =>
 ldS r25.2 (.n h.next) 3 fun l60 =>
 ldI r25.2 (.n h.next) 4 fun n62 =>
 ldS r25.2 (.n h.next) 5 fun l64 =>
 ldI r25.2 (.n h.next) 6 fun n66 =>
 ldS r25.2 (.n h.next) 7 fun l68 =>
 ldS r25.2 (.n h.next) 8 fun l70 =>
 ldI r25.2 (.n h.next) 9 fun n72 =>
 ldS r25.2 (.n h.next) 10 fun l74 =>
 (k131 [(.agg [(.sl l28.1 l28.2), (.i .i64 n30), (.sl l32.1 l32.2), (.sl l34.1 l34.2), (.i .i64 n36), (.sl l38.1 l38.2), (.i .i64 n40), (.sl l42.1 l42.2), (.sl l44.1 l44.2), (.i .i64 n46), (.sl l48.1 l48.2)]), (.i .u64 n50)] r25.2).bind fun r75 =>
 (AV.asAgg 11 r75.1).bind fun c76 =>
 gtS c76 0 fun l77 =>
 gtI c76 1 fun n78 =>
 gtS c76 2 fun l79 =>
 gtS c76 3 fun l80 =>
 gtI c76 4 fun n81 =>
 gtS c76 5 fun l82 =>
 gtI c76 6 fun n83 =>
 gtS c76 7 fun l84 =>
 gtS c76 8 fun l85 =>
 gtI c76 9 fun n86 =>
 gtS c76 10 fun l87 =>
 (chkE (r75.2.ld (.n h20.next) 0) (some (.sl l52.1 l52.2))).bind fun _ =>
 (chkE (r75.2.ld (.n h.next) 0) (some (.sl l54.1 l54.2))).bind fun _ =>
 (chkE (r75.2.ld (.n h.next) 1) (some (.i .i64 n56))).bind fun _ =>
 (chkE (r75.2.ld (.n h.next) 2) (some (.sl l58.1 l58.2))).bind fun _ =>
 (chkE (r75.2.ld (.n h.next) 3) (some (.sl l60.1 l60.2))).bind fun _ =>
 (chkE (r75.2.ld (.n h.next) 4) (some (.i .i64 n62))).bind fun _ =>
 (chkE (r75.2.ld (.n h.next) 5) (some (.sl l64.1 l64.2))).bind fun _ =>
 (chkE (r75.2.ld (.n h.next) 6) (some (.i .i64 n66))).bind fun _ =>
 (chkE (r75.2.ld (.n h.next) 7) (some (.sl l68.1 l68.2))).bind fun _ =>
 (chkE (r75.2.ld (.n h.next) 8) (some (.sl l70.1 l70.2))).bind fun _ =>
 (chkE (r75.2.ld (.n h.next) 9) (some (.i .i64 n72))).bind fun _ =>
 (chkE (r75.2.ld (.n h.next) 10) (some (.sl l74.1 l74.2))).bind fun _ =>
 (k133 [(.agg [(.sl l54.1 l54.2), (.i .i64 n56), (.sl l58.1 l58.2), (.sl l60.1 l60.2), (.i .i64 n62), (.sl l64.1 l64.2), (.i .i64 n66), (.sl l68.1 l68.2), (.sl l70.1 l70.2), (.i .i64 n72), (.sl l74.1 l74.2)])] r75.2).bind fun r88 =>
 (AV.asSl r88.1).bind fun l89 =>
 (chkE (r88.2.ld (.n h20.next) 0) (some (.sl l52.1 l52.2))).bind fun _ =>
 (k132 [(.sl l52.1 l52.2), (.sl l89.1 l89.2)] r88.2).bind fun r90 =>
 (AV.asB r90.1).bind fun b91 =>
 (r90.2.st (.n ((h.next + 1) + 1)) 0 [(.sl l77.1 l77.2), (.i .i64 n78), (.sl l79.1 l79.2), (.sl l80.1 l80.2), (.i .i64 n81), (.sl l82.1 l82.2), (.i .i64 n83), (.sl l84.1 l84.2), (.sl l85.1 l85.2), (.i .i64 n86), (.sl l87.1 l87.2)]).bind fun h92 =>
 ldS h92 (.n ((h.next + 1) + 1)) 0 fun l94 =>
 ldI h92 (.n ((h.next + 1) + 1)) 1 fun n96 =>
 ldS h92 (.n ((h.next + 1) + 1)) 2 fun l98 =>
 ldS h92 (.n ((h.next + 1) + 1)) 3 fun l100 =>
 ldI h92 (.n ((h.next + 1) + 1)) 4 fun n102 =>
 ldS h92 (.n ((h.next + 1) + 1)) 5 fun l104 =>
 ldI h92 (.n ((h.next + 1) + 1)) 6 fun n106 =>
 ldS h92 (.n ((h.next + 1) + 1)) 7 fun l108 =>
 ldS h92 (.n ((h.next + 1) + 1)) 8 fun l110 =>
 ldI h92 (.n ((h.next + 1) + 1)) 9 fun n112 =>
 ldS h92 (.n ((h.next + 1) + 1)) 10 fun l114 =>
 some ((.tup [(.agg [(.sl l94.1 l94.2), (.i .i64 n96), (.sl l98.1 l98.2), (.sl l100.1 l100.2), (.i .i64 n102), (.sl l104.1 l104.2), (.i .i64 n106), (.sl l108.1 l108.2), (.sl l110.1 l110.2), (.i .i64 n112), (.sl l114.1 l114.2)]), (.b b91)]), h92)
 else (k110 [(.p p0), (.fn (some (.func 129, [], [(.p (some ((.n h20.next), 0))), (.p (some ((.n (h.next + 1)), 0)))])))] h22).bind fun r115 =>
 (AV.asTup 0 r115.1).bind fun c116 =>
 ldI r115.2 (.n h.next) 6 fun n118 =>
 ldS r115.2 (.n h.next) 7 fun l120 =>
 ldS r115.2 (.n h.next) 8 fun l122 =>
 ldI r115.2 (.n h.next) 9 fun n124 =>
 ldS r115.2 (.n h.next) 10 fun l126 =>
 (k134 [(.agg [(.i .i64 n118), (.sl l120.1 l120.2), (.sl l122.1 l122.2), (.i .i64 n124), (.sl l126.1 l126.2)])] r115.2).bind fun r127 =>
 (AV.asSl r127.1).bind fun l128 =>
 ldI r127.2 (.n h.next) 6 fun n130 =>
 ldS r127.2 (.n h.next) 7 fun l132 =>
 ldS r127.2 (.n h.next) 8 fun l134 =>
 ldI r127.2 (.n h.next) 9 fun n136 =>
 ldS r127.2 (.n h.next) 10 fun l138 =>
 ldU r127.2 (.n (h.next + 1)) 2 fun n140 =>
 (k135 [(.agg [(.i .i64 n130), (.sl l132.1 l132.2), (.sl l134.1 l134.2), (.i .i64 n136), (.sl l138.1 l138.2)]), (.i .u64 n140)] r127.2).bind fun r141 =>
 (AV.asAgg 5 r141.1).bind fun c142 =>
 gtI c142 0 fun n143 =>
 gtS c142 1 fun l144 =>
 gtS c142 2 fun l145 =>
 gtI c142 3 fun n146 =>
 gtS c142 4 fun l147 =>
 (r141.2.st (.n h.next) 6 [(.i .i64 n143), (.sl l144.1 l144.2), (.sl l145.1 l145.2), (.i .i64 n146), (.sl l147.1 l147.2)]).bind fun h148 =>
 ldS h148 (.n h.next) 0 fun l150 =>
 ldI h148 (.n h.next) 1 fun n152 =>
 ldS h148 (.n h.next) 2 fun l154 =>
 ldS h148 (.n h.next) 3 fun l156 =>
 ldI h148 (.n h.next) 4 fun n158 =>
 ldS h148 (.n h.next) 5 fun l160 =>
 ldI h148 (.n h.next) 6 fun n162 =>
 ldS h148 (.n h.next) 7 fun l164 =>
 ldS h148 (.n h.next) 8 fun l166 =>
 ldI h148 (.n h.next) 9 fun n168 =>
 ldS h148 (.n h.next) 10 fun l170 =>
 ldS h148 (.n h20.next) 0 fun l172 =>
 (k132 [(.sl l172.1 l172.2), (.sl l128.1 l128.2)] h148).bind fun r173 =>
 (AV.asB r173.1).bind fun b174 =>
 (chkE (r173.2.ld (.n h.next) 0) (some (.sl l150.1 l150.2))).bind fun _ =>
 (chkE (r173.2.ld (.n h.next) 1) (some (.i .i64 n152))).bind fun _ =>
 (chkE (r173.2.ld (.n h.next) 2) (some (.sl l154.1 l154.2))).bind fun _ =>
 (chkE (r173.2.ld (.n h.next) 3) (some (.sl l156.1 l156.2))).bind fun _ =>
 (chkE (r173.2.ld (.n h.next) 4) (some (.i .i64 n158))).bind fun _ =>
 (chkE (r173.2.ld (.n h.next) 5) (some (.sl l160.1 l160.2))).bind fun _ =>
 (chkE (r173.2.ld (.n h.next) 6) (some (.i .i64 n162))).bind fun _ =>
 (chkE (r173.2.ld (.n h.next) 7) (some (.sl l164.1 l164.2))).bind fun _ =>
 (chkE (r173.2.ld (.n h.next) 8) (some (.sl l166.1 l166.2))).bind fun _ =>
 (chkE (r173.2.ld (.n h.next) 9) (some (.i .i64 n168))).bind fun _ =>
 (chkE (r173.2.ld (.n h.next) 10) (some (.sl l170.1 l170.2))).bind fun _ =>
 (r173.2.st (.n ((h.next + 1) + 1)) 0 [(.sl l150.1 l150.2), (.i .i64 n152), (.sl l154.1 l154.2), (.sl l156.1 l156.2), (.i .i64 n158), (.sl l160.1 l160.2), (.i .i64 n162), (.sl l164.1 l164.2), (.sl l166.1 l166.2), (.i .i64 n168), (.sl l170.1 l170.2)]).bind fun h175 =>
 ldS h175 (.n ((h.next + 1) + 1)) 0 fun l177 =>
 ldI h175 (.n ((h.next + 1) + 1)) 1 fun n179 =>
 ldS h175 (.n ((h.next + 1) + 1)) 2 fun l181 =>
 ldS h175 (.n ((h.next + 1) + 1)) 3 fun l183 =>
 ldI h175 (.n ((h.next + 1) + 1)) 4 fun n185 =>
 ldS h175 (.n ((h.next + 1) + 1)) 5 fun l187 =>
 ldI h175 (.n ((h.next + 1) + 1)) 6 fun n189 =>
 ldS h175 (.n ((h.next + 1) + 1)) 7 fun l191 =>
 ldS h175 (.n ((h.next + 1) + 1)) 8 fun l193 =>
 ldI h175 (.n ((h.next + 1) + 1)) 9 fun n195 =>
 ldS h175 (.n ((h.next + 1) + 1)) 10 fun l197 =>
 some ((.tup [(.agg [(.sl l177.1 l177.2), (.i .i64 n179), (.sl l181.1 l181.2), (.sl l183.1 l183.2), (.i .i64 n185), (.sl l187.1 l187.2), (.i .i64 n189), (.sl l191.1 l191.2), (.sl l193.1 l193.2), (.i .i64 n195), (.sl l197.1 l197.2)]), (.b b174)]), h175))
 else none
def law19_turn : Sm O := law19_turn_c law19_turn_1 roots_Roots__Turn haymowref19_More haymowref19_Filled haymowref05_Same roots_Roots__TurnWeak haymowref18_Filled haymowref18_More
theorem law19_turn_ent : Entered Tryz.prog 67 := Tryz.call67
theorem law19_turn_run (k129 k130 k131 k133 k132 k110 k134 k135 : Sm O) : run (O := O) Tryz.prog [(129, k129), (130, k130), (131, k131), (133, k133), (132, k132), (110, k110), (134, k134), (135, k135)] Tryz.f67 (.n .z (.n .z (.n .z (.n (.n .z (.n (.n .z (.n (.d [] [0, 1, 2, 4, 5, 3, 6, 7, 8, 9] [0, 0, 2, 7, 0, 0, 47, 127, 255, 511]) .z)) .z)) (.n .z (.n .z (.n .z (.n (.d [] [0, 1, 2, 3, 4, 5] [0, 0, 0, 6, 15, 31]) .z)))))))) = law19_turn_c k129 k130 k131 k133 k132 k110 k134 k135 := by kernel_rfl
theorem law19_turn_sound : FSound RO Tryz.prog 67 law19_turn := sdf (law19_turn_run _ _ _ _ _ _ _ _) (gcons law19_turn_1_ent law19_turn_1_sound <| gcons roots_Roots__Turn_ent roots_Roots__Turn_sound <| gcons haymowref19_More_ent haymowref19_More_sound <| gcons haymowref19_Filled_ent haymowref19_Filled_sound <| gcons haymowref05_Same_ent haymowref05_Same_sound <| gcons roots_Roots__TurnWeak_ent roots_Roots__TurnWeak_sound <| gcons haymowref18_Filled_ent haymowref18_Filled_sound <| gcons haymowref18_More_ent haymowref18_More_sound <| gnil) Tryz.func67 (by kernel_rfl)
def haymowref19_Get_c (k123 k127 : Sm O) : Sm O := fun xs h =>
 bif Nat.beq xs.length 2 then
 (AV.asAgg 11 (xs.getD 0 .u)).bind fun c0 =>
 gtS c0 0 fun l1 =>
 gtI c0 1 fun n2 =>
 gtS c0 2 fun l3 =>
 gtS c0 3 fun l4 =>
 gtI c0 4 fun n5 =>
 gtS c0 5 fun l6 =>
 gtI c0 6 fun n7 =>
 gtS c0 7 fun l8 =>
 gtS c0 8 fun l9 =>
 gtI c0 9 fun n10 =>
 gtS c0 10 fun l11 =>
 gtI xs 1 fun n12 =>
 let h13 := h.bump 1
 let h14 := h13.put h.next (.cells true 36 [(.sl l1.1 l1.2), (.i .i64 n2), (.sl l3.1 l3.2), (.sl l4.1 l4.2), (.i .i64 n5), (.sl l6.1 l6.2), (.i .i64 n7), (.sl l8.1 l8.2), (.sl l9.1 l9.2), (.i .i64 n10), (.sl l11.1 l11.2)])
 (bif (decide (n12 >= 0)) then
 ldI h14 (.n h.next) 1 fun n16 =>
 ldS h14 (.n h.next) 2 fun l18 =>
 ldS h14 (.n h.next) 3 fun l20 =>
 ldI h14 (.n h.next) 4 fun n22 =>
 ldS h14 (.n h.next) 5 fun l24 =>
 (k123 [(.agg [(.i .i64 n16), (.sl l18.1 l18.2), (.sl l20.1 l20.2), (.i .i64 n22), (.sl l24.1 l24.2)]), (.i .i64 n12)] h14).bind fun r25 =>
 (AV.asI .i64 r25.1).bind fun n26 =>
 (bif (decide (n26 < 0)) then
 some ((.tup [(.i .u64 0), (.i .i64 30)]), r25.2)
 else ldS r25.2 (.n h.next) 5 fun l28 =>
 (bif ((decide ((0 : Int) <= n26)) && (decide (n26 < (l28.2 : Int)))) then
 (SA.ref l28.1).bind fun q29 =>
 ldU r25.2 q29.1 ((q29.2 + (n26.toNat * 2)) + 1) fun n31 =>
 some ((.tup [(.i .u64 n31), (.i .i64 0)]), r25.2)
 else none))
 else ldS h14 (.n h.next) 0 fun l33 =>
 (k127 [(.sl l33.1 l33.2), (.i .i64 (IntKind.i64.wrap ((-1) - n12)))] h14).bind fun r34 =>
 (AV.asI .i64 r34.1).bind fun n35 =>
 (bif ((n35 : Int) != 0) then
 some ((.tup [(.i .u64 0), (.i .i64 n35)]), r34.2)
 else ldS r34.2 (.n h.next) 0 fun l37 =>
 ldS r34.2 (.n h.next) 0 fun l39 =>
 (bif ((decide ((0 : Int) <= (IntKind.i64.wrap ((l39.2 : Int) - 1)))) && (decide ((IntKind.i64.wrap ((l39.2 : Int) - 1)) < (l37.2 : Int)))) then
 (SA.ref l37.1).bind fun q40 =>
 ldS r34.2 q40.1 (q40.2 + ((IntKind.i64.wrap ((l39.2 : Int) - 1)).toNat * 1)) fun l42 =>
 (bif ((decide ((0 : Int) <= (IntKind.i64.wrap ((-1) - n12)))) && (decide ((IntKind.i64.wrap ((-1) - n12)) < (l42.2 : Int)))) then
 (SA.ref l42.1).bind fun q43 =>
 ldU r34.2 q43.1 (q43.2 + ((IntKind.i64.wrap ((-1) - n12)).toNat * 1)) fun n45 =>
 some ((.tup [(.i .u64 n45), (.i .i64 0)]), r34.2)
 else none)
 else none)))
 else none
def haymowref19_Get : Sm O := haymowref19_Get_c haymowref18_At haymowref17_Wrong
theorem haymowref19_Get_ent : Entered Tryz.prog 68 := Tryz.call68
theorem haymowref19_Get_run (k123 k127 : Sm O) : run (O := O) Tryz.prog [(123, k123), (127, k127)] Tryz.f68 (.n .z (.n (.n .z (.n (.n .z (.n (.n .z (.n .z .z)) .z)) .z)) (.n .z (.n (.n .z (.n .z (.n .z .z))) .z)))) = haymowref19_Get_c k123 k127 := by kernel_rfl
theorem haymowref19_Get_sound : FSound RO Tryz.prog 68 haymowref19_Get := sdf (haymowref19_Get_run _ _) (gcons haymowref18_At_ent haymowref18_At_sound <| gcons haymowref17_Wrong_ent haymowref17_Wrong_sound <| gnil) Tryz.func68 (by kernel_rfl)
def law19_do_c (k61 k56 k62 k63 k64 k65 k57 k66 k67 k18 k68 : Sm O) : Sm O := fun xs h =>
 bif Nat.beq xs.length 3 then
 (AV.asP (xs.getD 0 .u)).bind fun p0 =>
 (AV.asAgg 11 (xs.getD 1 .u)).bind fun c1 =>
 gtS c1 0 fun l2 =>
 gtI c1 1 fun n3 =>
 gtS c1 2 fun l4 =>
 gtS c1 3 fun l5 =>
 gtI c1 4 fun n6 =>
 gtS c1 5 fun l7 =>
 gtI c1 6 fun n8 =>
 gtS c1 7 fun l9 =>
 gtS c1 8 fun l10 =>
 gtI c1 9 fun n11 =>
 gtS c1 10 fun l12 =>
 (AV.asAgg 3 (xs.getD 2 .u)).bind fun c13 =>
 gtI c13 0 fun n14 =>
 gtI c13 1 fun n15 =>
 gtU c13 2 fun n16 =>
 let h17 := h.bump 3
 let h18 := h17.put h.next (.cells true 36 [(.sl l2.1 l2.2), (.i .i64 n3), (.sl l4.1 l4.2), (.sl l5.1 l5.2), (.i .i64 n6), (.sl l7.1 l7.2), (.i .i64 n8), (.sl l9.1 l9.2), (.sl l10.1 l10.2), (.i .i64 n11), (.sl l12.1 l12.2)])
 let h19 := h18.put (h.next + 1) (.cells true 42 [(.i .i64 n14), (.i .i64 n15), (.i .u64 n16)])
 let h20 := h19.put ((h.next + 1) + 1) (.cells true 36 [(.sl .nil 0), (.i .i64 0), (.sl .nil 0), (.sl .nil 0), (.i .i64 0), (.sl .nil 0), (.i .i64 0), (.sl .nil 0), (.sl .nil 0), (.i .i64 0), (.sl .nil 0)])
 ldI h20 (.n (h.next + 1)) 0 fun n22 =>
 ((bif ((n22 : Int) == 0) then
 some ([(.b ((n22 : Int) == 0))], h20)
 else some ([(.b ((n22 : Int) == 1))], h20)) : Option (List AV × AH O)).bind fun r23 =>
 (AV.asB (r23.1.getD 0 .u)).bind fun b24 =>
 (bif b24 then
 ldS r23.2 (.n h.next) 0 fun l26 =>
 ldI r23.2 (.n h.next) 1 fun n28 =>
 ldS r23.2 (.n h.next) 2 fun l30 =>
 ldS r23.2 (.n h.next) 3 fun l32 =>
 ldI r23.2 (.n h.next) 4 fun n34 =>
 ldS r23.2 (.n h.next) 5 fun l36 =>
 ldI r23.2 (.n h.next) 6 fun n38 =>
 ldS r23.2 (.n h.next) 7 fun l40 =>
 ldS r23.2 (.n h.next) 8 fun l42 =>
 ldI r23.2 (.n h.next) 9 fun n44 =>
 ldS r23.2 (.n h.next) 10 fun l46 =>
 ldI r23.2 (.n (h.next + 1)) 0 fun n48 =>
 ldI r23.2 (.n (h.next + 1)) 1 fun n50 =>
 ldU r23.2 (.n (h.next + 1)) 2 fun n52 =>
 (k61 [(.p p0), (.agg [(.sl l26.1 l26.2), (.i .i64 n28), (.sl l30.1 l30.2), (.sl l32.1 l32.2), (.i .i64 n34), (.sl l36.1 l36.2), (.i .i64 n38), (.sl l40.1 l40.2), (.sl l42.1 l42.2), (.i .i64 n44), (.sl l46.1 l46.2)]), (.agg [(.i .i64 n48), (.i .i64 n50), (.i .u64 n52)])] r23.2).bind fun r53 =>
 (AV.asTup 2 r53.1).bind fun c54 =>
 (AV.asAgg 11 (c54.getD 0 .u)).bind fun c55 =>
 gtS c55 0 fun l56 =>
 gtI c55 1 fun n57 =>
 gtS c55 2 fun l58 =>
 gtS c55 3 fun l59 =>
 gtI c55 4 fun n60 =>
 gtS c55 5 fun l61 =>
 gtI c55 6 fun n62 =>
 gtS c55 7 fun l63 =>
 gtS c55 8 fun l64 =>
 gtI c55 9 fun n65 =>
 gtS c55 10 fun l66 =>
 (AV.asB (c54.getD 1 .u)).bind fun b67 =>
 (r53.2.st (.n ((h.next + 1) + 1)) 0 [(.sl l56.1 l56.2), (.i .i64 n57), (.sl l58.1 l58.2), (.sl l59.1 l59.2), (.i .i64 n60), (.sl l61.1 l61.2), (.i .i64 n62), (.sl l63.1 l63.2), (.sl l64.1 l64.2), (.i .i64 n65), (.sl l66.1 l66.2)]).bind fun h68 =>
 ldS h68 (.n ((h.next + 1) + 1)) 0 fun l70 =>
 ldI h68 (.n ((h.next + 1) + 1)) 1 fun n72 =>
 ldS h68 (.n ((h.next + 1) + 1)) 2 fun l74 =>
 ldS h68 (.n ((h.next + 1) + 1)) 3 fun l76 =>
 ldI h68 (.n ((h.next + 1) + 1)) 4 fun n78 =>
 ldS h68 (.n ((h.next + 1) + 1)) 5 fun l80 =>
 ldI h68 (.n ((h.next + 1) + 1)) 6 fun n82 =>
 ldS h68 (.n ((h.next + 1) + 1)) 7 fun l84 =>
 ldS h68 (.n ((h.next + 1) + 1)) 8 fun l86 =>
 ldI h68 (.n ((h.next + 1) + 1)) 9 fun n88 =>
 ldS h68 (.n ((h.next + 1) + 1)) 10 fun l90 =>
 some ((.tup [(.agg [(.sl l70.1 l70.2), (.i .i64 n72), (.sl l74.1 l74.2), (.sl l76.1 l76.2), (.i .i64 n78), (.sl l80.1 l80.2), (.i .i64 n82), (.sl l84.1 l84.2), (.sl l86.1 l86.2), (.i .i64 n88), (.sl l90.1 l90.2)]), (.b b67)]), h68)
 else (bif ((n22 : Int) == 2) then
 (k56 [(.p p0)] r23.2).bind fun r91 =>
 (AV.asTup 2 r91.1).bind fun c92 =>
 gtI c92 0 fun n93 =>
 gtI c92 1 fun n94 =>
 ldI r91.2 (.n h.next) 1 fun n96 =>
 ldS r91.2 (.n h.next) 2 fun l98 =>
 ldS r91.2 (.n h.next) 3 fun l100 =>
 ldI r91.2 (.n h.next) 4 fun n102 =>
 ldS r91.2 (.n h.next) 5 fun l104 =>
 (k62 [(.agg [(.i .i64 n96), (.sl l98.1 l98.2), (.sl l100.1 l100.2), (.i .i64 n102), (.sl l104.1 l104.2)]), (.i .u64 0)] r91.2).bind fun r105 =>
 (AV.asTup 2 r105.1).bind fun c106 =>
 (AV.asAgg 5 (c106.getD 0 .u)).bind fun c107 =>
 gtI c107 0 fun n108 =>
 gtS c107 1 fun l109 =>
 gtS c107 2 fun l110 =>
 gtI c107 3 fun n111 =>
 gtS c107 4 fun l112 =>
 gtI c106 1 fun n113 =>
 (r105.2.st (.n h.next) 1 [(.i .i64 n108), (.sl l109.1 l109.2), (.sl l110.1 l110.2), (.i .i64 n111), (.sl l112.1 l112.2)]).bind fun h114 =>
 ldS h114 (.n h.next) 0 fun l116 =>
 ldI h114 (.n h.next) 1 fun n118 =>
 ldS h114 (.n h.next) 2 fun l120 =>
 ldS h114 (.n h.next) 3 fun l122 =>
 ldI h114 (.n h.next) 4 fun n124 =>
 ldS h114 (.n h.next) 5 fun l126 =>
 ldI h114 (.n h.next) 6 fun n128 =>
 ldS h114 (.n h.next) 7 fun l130 =>
 ldS h114 (.n h.next) 8 fun l132 =>
 ldI h114 (.n h.next) 9 fun n134 =>
 ldS h114 (.n h.next) 10 fun l136 =>
 ((bif (((n93 : Int) == n113) == true) then
 some ([(.b ((n94 : Int) == 0))], h114)
 else some ([(.b false)], h114)) : Option (List AV × AH O)).bind fun r137 =>
 (AV.asB (r137.1.getD 0 .u)).bind fun b138 =>
 (r137.2.st (.n ((h.next + 1) + 1)) 0 [(.sl l116.1 l116.2), (.i .i64 n118), (.sl l120.1 l120.2), (.sl l122.1 l122.2), (.i .i64 n124), (.sl l126.1 l126.2), (.i .i64 n128), (.sl l130.1 l130.2), (.sl l132.1 l132.2), (.i .i64 n134), (.sl l136.1 l136.2)]).bind fun h139 =>
 ldS h139 (.n ((h.next + 1) + 1)) 0 fun l141 =>
 ldI h139 (.n ((h.next + 1) + 1)) 1 fun n143 =>
 ldS h139 (.n ((h.next + 1) + 1)) 2 fun l145 =>
 ldS h139 (.n ((h.next + 1) + 1)) 3 fun l147 =>
 ldI h139 (.n ((h.next + 1) + 1)) 4 fun n149 =>
 ldS h139 (.n ((h.next + 1) + 1)) 5 fun l151 =>
 ldI h139 (.n ((h.next + 1) + 1)) 6 fun n153 =>
 ldS h139 (.n ((h.next + 1) + 1)) 7 fun l155 =>
 ldS h139 (.n ((h.next + 1) + 1)) 8 fun l157 =>
 ldI h139 (.n ((h.next + 1) + 1)) 9 fun n159 =>
 ldS h139 (.n ((h.next + 1) + 1)) 10 fun l161 =>
 some ((.tup [(.agg [(.sl l141.1 l141.2), (.i .i64 n143), (.sl l145.1 l145.2), (.sl l147.1 l147.2), (.i .i64 n149), (.sl l151.1 l151.2), (.i .i64 n153), (.sl l155.1 l155.2), (.sl l157.1 l157.2), (.i .i64 n159), (.sl l161.1 l161.2)]), (.b b138)]), h139)
 else (bif ((n22 : Int) == 3) then
 ldI r23.2 (.n (h.next + 1)) 1 fun n163 =>
 (k63 [(.p p0), (.i .i64 n163)] r23.2).bind fun r164 =>
 (AV.asI .i64 r164.1).bind fun n165 =>
 ldI r164.2 (.n h.next) 1 fun n167 =>
 ldS r164.2 (.n h.next) 2 fun l169 =>
 ldS r164.2 (.n h.next) 3 fun l171 =>
 ldI r164.2 (.n h.next) 4 fun n173 =>
 ldS r164.2 (.n h.next) 5 fun l175 =>
 ldI r164.2 (.n (h.next + 1)) 1 fun n177 =>
 (k64 [(.agg [(.i .i64 n167), (.sl l169.1 l169.2), (.sl l171.1 l171.2), (.i .i64 n173), (.sl l175.1 l175.2)]), (.i .i64 n177)] r164.2).bind fun r178 =>
 (AV.asTup 2 r178.1).bind fun c179 =>
 (AV.asAgg 5 (c179.getD 0 .u)).bind fun c180 =>
 gtI c180 0 fun n181 =>
 gtS c180 1 fun l182 =>
 gtS c180 2 fun l183 =>
 gtI c180 3 fun n184 =>
 gtS c180 4 fun l185 =>
 gtI c179 1 fun n186 =>
 (r178.2.st (.n h.next) 1 [(.i .i64 n181), (.sl l182.1 l182.2), (.sl l183.1 l183.2), (.i .i64 n184), (.sl l185.1 l185.2)]).bind fun h187 =>
 ldS h187 (.n h.next) 0 fun l189 =>
 ldI h187 (.n h.next) 1 fun n191 =>
 ldS h187 (.n h.next) 2 fun l193 =>
 ldS h187 (.n h.next) 3 fun l195 =>
 ldI h187 (.n h.next) 4 fun n197 =>
 ldS h187 (.n h.next) 5 fun l199 =>
 ldI h187 (.n h.next) 6 fun n201 =>
 ldS h187 (.n h.next) 7 fun l203 =>
 ldS h187 (.n h.next) 8 fun l205 =>
 ldI h187 (.n h.next) 9 fun n207 =>
 ldS h187 (.n h.next) 10 fun l209 =>
 (h187.st (.n ((h.next + 1) + 1)) 0 [(.sl l189.1 l189.2), (.i .i64 n191), (.sl l193.1 l193.2), (.sl l195.1 l195.2), (.i .i64 n197), (.sl l199.1 l199.2), (.i .i64 n201), (.sl l203.1 l203.2), (.sl l205.1 l205.2), (.i .i64 n207), (.sl l209.1 l209.2)]).bind fun h210 =>
 ldS h210 (.n ((h.next + 1) + 1)) 0 fun l212 =>
 ldI h210 (.n ((h.next + 1) + 1)) 1 fun n214 =>
 ldS h210 (.n ((h.next + 1) + 1)) 2 fun l216 =>
 ldS h210 (.n ((h.next + 1) + 1)) 3 fun l218 =>
 ldI h210 (.n ((h.next + 1) + 1)) 4 fun n220 =>
 ldS h210 (.n ((h.next + 1) + 1)) 5 fun l222 =>
 ldI h210 (.n ((h.next + 1) + 1)) 6 fun n224 =>
 ldS h210 (.n ((h.next + 1) + 1)) 7 fun l226 =>
 ldS h210 (.n ((h.next + 1) + 1)) 8 fun l228 =>
 ldI h210 (.n ((h.next + 1) + 1)) 9 fun n230 =>
 ldS h210 (.n ((h.next + 1) + 1)) 10 fun l232 =>
 some ((.tup [(.agg [(.sl l212.1 l212.2), (.i .i64 n214), (.sl l216.1 l216.2), (.sl l218.1 l218.2), (.i .i64 n220), (.sl l222.1 l222.2), (.i .i64 n224), (.sl l226.1 l226.2), (.sl l228.1 l228.2), (.i .i64 n230), (.sl l232.1 l232.2)]), (.b ((n165 : Int) == n186))]), h210)
 else ((bif ((n22 : Int) == 4) then
 some ([(.b ((n22 : Int) == 4))], r23.2)
 else ((bif ((n22 : Int) == 5) then
 some ([(.b ((n22 : Int) == 5))], r23.2)
 else some ([(.b ((n22 : Int) == 6))], r23.2)) : Option (List AV × AH O)).bind fun r233 =>
 (AV.asB (r233.1.getD 0 .u)).bind fun b234 =>
 some ([(.b b234)], r233.2)) : Option (List AV × AH O)).bind fun r235 =>
 (AV.asB (r235.1.getD 0 .u)).bind fun b236 =>
 (bif b236 then
 ldS r235.2 (.n h.next) 0 fun l238 =>
 ldI r235.2 (.n h.next) 1 fun n240 =>
 ldS r235.2 (.n h.next) 2 fun l242 =>
 ldS r235.2 (.n h.next) 3 fun l244 =>
 ldI r235.2 (.n h.next) 4 fun n246 =>
 ldS r235.2 (.n h.next) 5 fun l248 =>
 ldI r235.2 (.n h.next) 6 fun n250 =>
 ldS r235.2 (.n h.next) 7 fun l252 =>
 ldS r235.2 (.n h.next) 8 fun l254 =>
 ldI r235.2 (.n h.next) 9 fun n256 =>
 ldS r235.2 (.n h.next) 10 fun l258 =>
 ldI r235.2 (.n (h.next + 1)) 0 fun n260 =>
 ldI r235.2 (.n (h.next + 1)) 1 fun n262 =>
 ldU r235.2 (.n (h.next + 1)) 2 fun n264 =>
 (k65 [(.p p0), (.agg [(.sl l238.1 l238.2), (.i .i64 n240), (.sl l242.1 l242.2), (.sl l244.1 l244.2), (.i .i64 n246), (.sl l248.1 l248.2), (.i .i64 n250), (.sl l252.1 l252.2), (.sl l254.1 l254.2), (.i .i64 n256), (.sl l258.1 l258.2)]), (.agg [(.i .i64 n260), (.i .i64 n262), (.i .u64 n264)])] r235.2).bind fun r265 =>
 (AV.asTup 2 r265.1).bind fun c266 =>
 (AV.asAgg 11 (c266.getD 0 .u)).bind fun c267 =>
 gtS c267 0 fun l268 =>
 gtI c267 1 fun n269 =>
 gtS c267 2 fun l270 =>
 gtS c267 3 fun l271 =>
 gtI c267 4 fun n272 =>
 gtS c267 5 fun l273 =>
 gtI c267 6 fun n274 =>
 gtS c267 7 fun l275 =>
 gtS c267 8 fun l276 =>
 gtI c267 9 fun n277 =>
 gtS c267 10 fun l278 =>
 (AV.asB (c266.getD 1 .u)).bind fun b279 =>
 (r265.2.st (.n ((h.next + 1) + 1)) 0 [(.sl l268.1 l268.2), (.i .i64 n269), (.sl l270.1 l270.2), (.sl l271.1 l271.2), (.i .i64 n272), (.sl l273.1 l273.2), (.i .i64 n274), (.sl l275.1 l275.2), (.sl l276.1 l276.2), (.i .i64 n277), (.sl l278.1 l278.2)]).bind fun h280 =>
 ldS h280 (.n ((h.next + 1) + 1)) 0 fun l282 =>
 ldI h280 (.n ((h.next + 1) + 1)) 1 fun n284 =>
 ldS h280 (.n ((h.next + 1) + 1)) 2 fun l286 =>
 ldS h280 (.n ((h.next + 1) + 1)) 3 fun l288 =>
 ldI h280 (.n ((h.next + 1) + 1)) 4 fun n290 =>
 ldS h280 (.n ((h.next + 1) + 1)) 5 fun l292 =>
 ldI h280 (.n ((h.next + 1) + 1)) 6 fun n294 =>
 ldS h280 (.n ((h.next + 1) + 1)) 7 fun l296 =>
 ldS h280 (.n ((h.next + 1) + 1)) 8 fun l298 =>
 ldI h280 (.n ((h.next + 1) + 1)) 9 fun n300 =>
 ldS h280 (.n ((h.next + 1) + 1)) 10 fun l302 =>
 some ((.tup [(.agg [(.sl l282.1 l282.2), (.i .i64 n284), (.sl l286.1 l286.2), (.sl l288.1 l288.2), (.i .i64 n290), (.sl l292.1 l292.2), (.i .i64 n294), (.sl l296.1 l296.2), (.sl l298.1 l298.2), (.i .i64 n300), (.sl l302.1 l302.2)]), (.b b279)]), h280)
 else (bif ((n22 : Int) == 7) then
 ldI r235.2 (.n (h.next + 1)) 1 fun n304 =>
 ldU r235.2 (.n (h.next + 1)) 2 fun n306 =>
 (k57 [(.p p0), (.i .i64 n304), (.i .u64 n306)] r235.2).bind fun r307 =>
 (AV.asI .i64 r307.1).bind fun n308 =>
 ldS r307.2 (.n h.next) 0 fun l310 =>
 ldI r307.2 (.n h.next) 1 fun n312 =>
 ldS r307.2 (.n h.next) 2 fun l314 =>
 ldS r307.2 (.n h.next) 3 fun l316 =>
 ldI r307.2 (.n h.next) 4 fun n318 =>
 ldS r307.2 (.n h.next) 5 fun l320 =>
 ldI r307.2 (.n h.next) 6 fun n322 =>
 ldS r307.2 (.n h.next) 7 fun l324 =>
 ldS r307.2 (.n h.next) 8 fun l326 =>
 ldI r307.2 (.n h.next) 9 fun n328 =>
 ldS r307.2 (.n h.next) 10 fun l330 =>
 ldI r307.2 (.n (h.next + 1)) 1 fun n332 =>
 ldU r307.2 (.n (h.next + 1)) 2 fun n334 =>
 (k66 [(.agg [(.sl l310.1 l310.2), (.i .i64 n312), (.sl l314.1 l314.2), (.sl l316.1 l316.2), (.i .i64 n318), (.sl l320.1 l320.2), (.i .i64 n322), (.sl l324.1 l324.2), (.sl l326.1 l326.2), (.i .i64 n328), (.sl l330.1 l330.2)]), (.i .i64 n332), (.i .u64 n334)] r307.2).bind fun r335 =>
 (AV.asTup 2 r335.1).bind fun c336 =>
 (AV.asAgg 11 (c336.getD 0 .u)).bind fun c337 =>
 gtS c337 0 fun l338 =>
 gtI c337 1 fun n339 =>
 gtS c337 2 fun l340 =>
 gtS c337 3 fun l341 =>
 gtI c337 4 fun n342 =>
 gtS c337 5 fun l343 =>
 gtI c337 6 fun n344 =>
 gtS c337 7 fun l345 =>
 gtS c337 8 fun l346 =>
 gtI c337 9 fun n347 =>
 gtS c337 10 fun l348 =>
 gtI c336 1 fun n349 =>
 (r335.2.st (.n h.next) 0 [(.sl l338.1 l338.2), (.i .i64 n339), (.sl l340.1 l340.2), (.sl l341.1 l341.2), (.i .i64 n342), (.sl l343.1 l343.2), (.i .i64 n344), (.sl l345.1 l345.2), (.sl l346.1 l346.2), (.i .i64 n347), (.sl l348.1 l348.2)]).bind fun h350 =>
 ldS h350 (.n h.next) 0 fun l352 =>
 ldI h350 (.n h.next) 1 fun n354 =>
 ldS h350 (.n h.next) 2 fun l356 =>
 ldS h350 (.n h.next) 3 fun l358 =>
 ldI h350 (.n h.next) 4 fun n360 =>
 ldS h350 (.n h.next) 5 fun l362 =>
 ldI h350 (.n h.next) 6 fun n364 =>
 ldS h350 (.n h.next) 7 fun l366 =>
 ldS h350 (.n h.next) 8 fun l368 =>
 ldI h350 (.n h.next) 9 fun n370 =>
 ldS h350 (.n h.next) 10 fun l372 =>
 (h350.st (.n ((h.next + 1) + 1)) 0 [(.sl l352.1 l352.2), (.i .i64 n354), (.sl l356.1 l356.2), (.sl l358.1 l358.2), (.i .i64 n360), (.sl l362.1 l362.2), (.i .i64 n364), (.sl l366.1 l366.2), (.sl l368.1 l368.2), (.i .i64 n370), (.sl l372.1 l372.2)]).bind fun h373 =>
 ldS h373 (.n ((h.next + 1) + 1)) 0 fun l375 =>
 ldI h373 (.n ((h.next + 1) + 1)) 1 fun n377 =>
 ldS h373 (.n ((h.next + 1) + 1)) 2 fun l379 =>
 ldS h373 (.n ((h.next + 1) + 1)) 3 fun l381 =>
 ldI h373 (.n ((h.next + 1) + 1)) 4 fun n383 =>
 ldS h373 (.n ((h.next + 1) + 1)) 5 fun l385 =>
 ldI h373 (.n ((h.next + 1) + 1)) 6 fun n387 =>
 ldS h373 (.n ((h.next + 1) + 1)) 7 fun l389 =>
 ldS h373 (.n ((h.next + 1) + 1)) 8 fun l391 =>
 ldI h373 (.n ((h.next + 1) + 1)) 9 fun n393 =>
 ldS h373 (.n ((h.next + 1) + 1)) 10 fun l395 =>
 some ((.tup [(.agg [(.sl l375.1 l375.2), (.i .i64 n377), (.sl l379.1 l379.2), (.sl l381.1 l381.2), (.i .i64 n383), (.sl l385.1 l385.2), (.i .i64 n387), (.sl l389.1 l389.2), (.sl l391.1 l391.2), (.i .i64 n393), (.sl l395.1 l395.2)]), (.b ((n308 : Int) == n349))]), h373)
 else ((bif ((n22 : Int) == 9) then
 some ([(.b ((n22 : Int) == 9))], r235.2)
 else some ([(.b ((n22 : Int) == 10))], r235.2)) : Option (List AV × AH O)).bind fun r396 =>
 (AV.asB (r396.1.getD 0 .u)).bind fun b397 =>
 (bif b397 then
 ldS r396.2 (.n h.next) 0 fun l399 =>
 ldI r396.2 (.n h.next) 1 fun n401 =>
 ldS r396.2 (.n h.next) 2 fun l403 =>
 ldS r396.2 (.n h.next) 3 fun l405 =>
 ldI r396.2 (.n h.next) 4 fun n407 =>
 ldS r396.2 (.n h.next) 5 fun l409 =>
 ldI r396.2 (.n h.next) 6 fun n411 =>
 ldS r396.2 (.n h.next) 7 fun l413 =>
 ldS r396.2 (.n h.next) 8 fun l415 =>
 ldI r396.2 (.n h.next) 9 fun n417 =>
 ldS r396.2 (.n h.next) 10 fun l419 =>
 ldI r396.2 (.n (h.next + 1)) 0 fun n421 =>
 ldI r396.2 (.n (h.next + 1)) 1 fun n423 =>
 ldU r396.2 (.n (h.next + 1)) 2 fun n425 =>
 (k67 [(.p p0), (.agg [(.sl l399.1 l399.2), (.i .i64 n401), (.sl l403.1 l403.2), (.sl l405.1 l405.2), (.i .i64 n407), (.sl l409.1 l409.2), (.i .i64 n411), (.sl l413.1 l413.2), (.sl l415.1 l415.2), (.i .i64 n417), (.sl l419.1 l419.2)]), (.agg [(.i .i64 n421), (.i .i64 n423), (.i .u64 n425)])] r396.2).bind fun r426 =>
 (AV.asTup 2 r426.1).bind fun c427 =>
 (AV.asAgg 11 (c427.getD 0 .u)).bind fun c428 =>
 gtS c428 0 fun l429 =>
 gtI c428 1 fun n430 =>
 gtS c428 2 fun l431 =>
 gtS c428 3 fun l432 =>
 gtI c428 4 fun n433 =>
 gtS c428 5 fun l434 =>
 gtI c428 6 fun n435 =>
 gtS c428 7 fun l436 =>
 gtS c428 8 fun l437 =>
 gtI c428 9 fun n438 =>
 gtS c428 10 fun l439 =>
 (AV.asB (c427.getD 1 .u)).bind fun b440 =>
 (r426.2.st (.n ((h.next + 1) + 1)) 0 [(.sl l429.1 l429.2), (.i .i64 n430), (.sl l431.1 l431.2), (.sl l432.1 l432.2), (.i .i64 n433), (.sl l434.1 l434.2), (.i .i64 n435), (.sl l436.1 l436.2), (.sl l437.1 l437.2), (.i .i64 n438), (.sl l439.1 l439.2)]).bind fun h441 =>
 ldS h441 (.n ((h.next + 1) + 1)) 0 fun l443 =>
 ldI h441 (.n ((h.next + 1) + 1)) 1 fun n445 =>
 ldS h441 (.n ((h.next + 1) + 1)) 2 fun l447 =>
 ldS h441 (.n ((h.next + 1) + 1)) 3 fun l449 =>
 ldI h441 (.n ((h.next + 1) + 1)) 4 fun n451 =>
 ldS h441 (.n ((h.next + 1) + 1)) 5 fun l453 =>
 ldI h441 (.n ((h.next + 1) + 1)) 6 fun n455 =>
 ldS h441 (.n ((h.next + 1) + 1)) 7 fun l457 =>
 ldS h441 (.n ((h.next + 1) + 1)) 8 fun l459 =>
 ldI h441 (.n ((h.next + 1) + 1)) 9 fun n461 =>
 ldS h441 (.n ((h.next + 1) + 1)) 10 fun l463 =>
 some ((.tup [(.agg [(.sl l443.1 l443.2), (.i .i64 n445), (.sl l447.1 l447.2), (.sl l449.1 l449.2), (.i .i64 n451), (.sl l453.1 l453.2), (.i .i64 n455), (.sl l457.1 l457.2), (.sl l459.1 l459.2), (.i .i64 n461), (.sl l463.1 l463.2)]), (.b b440)]), h441)
 else ldI r396.2 (.n (h.next + 1)) 1 fun n465 =>
 (k18 [(.p p0), (.i .i64 n465)] r396.2).bind fun r466 =>
 (AV.asTup 2 r466.1).bind fun c467 =>
 gtU c467 0 fun n468 =>
 gtI c467 1 fun n469 =>
 ldS r466.2 (.n h.next) 0 fun l471 =>
 ldI r466.2 (.n h.next) 1 fun n473 =>
 ldS r466.2 (.n h.next) 2 fun l475 =>
 ldS r466.2 (.n h.next) 3 fun l477 =>
 ldI r466.2 (.n h.next) 4 fun n479 =>
 ldS r466.2 (.n h.next) 5 fun l481 =>
 ldI r466.2 (.n h.next) 6 fun n483 =>
 ldS r466.2 (.n h.next) 7 fun l485 =>
 ldS r466.2 (.n h.next) 8 fun l487 =>
 ldI r466.2 (.n h.next) 9 fun n489 =>
 ldS r466.2 (.n h.next) 10 fun l491 =>
 ldI r466.2 (.n (h.next + 1)) 1 fun n493 =>
 (k68 [(.agg [(.sl l471.1 l471.2), (.i .i64 n473), (.sl l475.1 l475.2), (.sl l477.1 l477.2), (.i .i64 n479), (.sl l481.1 l481.2), (.i .i64 n483), (.sl l485.1 l485.2), (.sl l487.1 l487.2), (.i .i64 n489), (.sl l491.1 l491.2)]), (.i .i64 n493)] r466.2).bind fun r494 =>
 (AV.asTup 2 r494.1).bind fun c495 =>
 gtU c495 0 fun n496 =>
 gtI c495 1 fun n497 =>
 ldS r494.2 (.n h.next) 0 fun l499 =>
 ldI r494.2 (.n h.next) 1 fun n501 =>
 ldS r494.2 (.n h.next) 2 fun l503 =>
 ldS r494.2 (.n h.next) 3 fun l505 =>
 ldI r494.2 (.n h.next) 4 fun n507 =>
 ldS r494.2 (.n h.next) 5 fun l509 =>
 ldI r494.2 (.n h.next) 6 fun n511 =>
 ldS r494.2 (.n h.next) 7 fun l513 =>
 ldS r494.2 (.n h.next) 8 fun l515 =>
 ldI r494.2 (.n h.next) 9 fun n517 =>
 ldS r494.2 (.n h.next) 10 fun l519 =>
 ((bif (((n468 : Int) == n496) == true) then
 some ([(.b ((n469 : Int) == n497))], r494.2)
 else some ([(.b false)], r494.2)) : Option (List AV × AH O)).bind fun r520 =>
 (AV.asB (r520.1.getD 0 .u)).bind fun b521 =>
 (r520.2.st (.n ((h.next + 1) + 1)) 0 [(.sl l499.1 l499.2), (.i .i64 n501), (.sl l503.1 l503.2), (.sl l505.1 l505.2), (.i .i64 n507), (.sl l509.1 l509.2), (.i .i64 n511), (.sl l513.1 l513.2), (.sl l515.1 l515.2), (.i .i64 n517), (.sl l519.1 l519.2)]).bind fun h522 =>
 ldS h522 (.n ((h.next + 1) + 1)) 0 fun l524 =>
 ldI h522 (.n ((h.next + 1) + 1)) 1 fun n526 =>
 ldS h522 (.n ((h.next + 1) + 1)) 2 fun l528 =>
 ldS h522 (.n ((h.next + 1) + 1)) 3 fun l530 =>
 ldI h522 (.n ((h.next + 1) + 1)) 4 fun n532 =>
 ldS h522 (.n ((h.next + 1) + 1)) 5 fun l534 =>
 ldI h522 (.n ((h.next + 1) + 1)) 6 fun n536 =>
 ldS h522 (.n ((h.next + 1) + 1)) 7 fun l538 =>
 ldS h522 (.n ((h.next + 1) + 1)) 8 fun l540 =>
 ldI h522 (.n ((h.next + 1) + 1)) 9 fun n542 =>
 ldS h522 (.n ((h.next + 1) + 1)) 10 fun l544 =>
 some ((.tup [(.agg [(.sl l524.1 l524.2), (.i .i64 n526), (.sl l528.1 l528.2), (.sl l530.1 l530.2), (.i .i64 n532), (.sl l534.1 l534.2), (.i .i64 n536), (.sl l538.1 l538.2), (.sl l540.1 l540.2), (.i .i64 n542), (.sl l544.1 l544.2)]), (.b b521)]), h522)))))))
 else none
def law19_do : Sm O := law19_do_c law19_slots roots_Roots__Add haymowref18_Add roots_Roots__Drop haymowref18_Drop law19_weak roots_Roots__Set haymowref19_Set law19_turn roots_Roots__Get haymowref19_Get
theorem law19_do_ent : Entered Tryz.prog 12 := Tryz.call12
theorem law19_do_run (k61 k56 k62 k63 k64 k65 k57 k66 k67 k18 k68 : Sm O) : run (O := O) Tryz.prog [(61, k61), (56, k56), (62, k62), (63, k63), (64, k64), (65, k65), (57, k57), (66, k66), (67, k67), (18, k18), (68, k68)] Tryz.f12 (.n .z (.n .z (.n (.n .z (.n (.n (.n .z (.j false [(19, .one .b)] .z .z)) (.n .z (.n .z (.n (.n .z (.n .z (.n (.g [(4, 2, [(49, .one .b)])]) .z))) (.n .z (.n (.n .z (.n .z .z)) (.n (.n .z (.j false [(69, .one .b)] .z (.n .z (.j false [(69, .one .b)] .z .z)))) (.n .z (.n .z (.n (.n .z (.n .z .z)) (.n (.n .z (.j false [(100, .one .b)] .z .z)) (.n .z .z)))))))))))) .z)) (.n .z (.n .z (.n (.g [(4, 3, [(131, .one .b)])]) .z)))))) = law19_do_c k61 k56 k62 k63 k64 k65 k57 k66 k67 k18 k68 := by kernel_rfl
theorem law19_do_sound : FSound RO Tryz.prog 12 law19_do := sdf (law19_do_run _ _ _ _ _ _ _ _ _ _ _) (gcons law19_slots_ent law19_slots_sound <| gcons roots_Roots__Add_ent roots_Roots__Add_sound <| gcons haymowref18_Add_ent haymowref18_Add_sound <| gcons roots_Roots__Drop_ent roots_Roots__Drop_sound <| gcons haymowref18_Drop_ent haymowref18_Drop_sound <| gcons law19_weak_ent law19_weak_sound <| gcons roots_Roots__Set_ent roots_Roots__Set_sound <| gcons haymowref19_Set_ent haymowref19_Set_sound <| gcons law19_turn_ent law19_turn_sound <| gcons roots_Roots__Get_ent roots_Roots__Get_sound <| gcons haymowref19_Get_ent haymowref19_Get_sound <| gnil) Tryz.func12 (by kernel_rfl)
def haymowref17_Words_L1 (l0 : SA × Nat) : List AV × AH O -> Option ((List AV × AH O) ⊕ (List AV × AH O)) := (fun r1 =>
 (AV.asI .i64 (r1.1.getD 0 .u)).bind fun n2 =>
 (AV.asI .i64 (r1.1.getD 1 .u)).bind fun n3 =>
 (bif (decide (n3 < (l0.2 : Int))) then
 (bif ((decide ((0 : Int) <= n3)) && (decide (n3 < (l0.2 : Int)))) then
 (SA.ref l0.1).bind fun q4 =>
 ldS r1.2 q4.1 (q4.2 + (n3.toNat * 1)) fun l6 =>
 let v7 : Int := (IntKind.i64.wrap ((IntKind.i64.wrap (n2 + 2)) + (l6.2 : Int)))
 some (Sum.inl ([(.i .i64 v7), (.i .i64 (IntKind.i64.wrap (n3 + 1)))], r1.2))
 else none)
 else some (Sum.inr ([(.i .i64 n2)], r1.2))))
def haymowref17_Words_c : Sm O := fun xs h =>
 bif Nat.beq xs.length 1 then
 gtS xs 0 fun l0 =>
 (loopF (S := List AV × AH O) (T := List AV × AH O) (haymowref17_Words_L1 l0) ([(.i .i64 0), (.i .i64 0)], h)).bind fun r8 =>
 (AV.asI .i64 (r8.1.getD 0 .u)).bind fun n9 =>
 some ((.i .i64 n9), r8.2)
 else none
def haymowref17_Words : Sm O := haymowref17_Words_c
theorem haymowref17_Words_ent : Entered Tryz.prog 71 := Tryz.call71
theorem haymowref17_Words_run : run (O := O) Tryz.prog [] Tryz.f71 (.n .z (.n .z (.n (.n .z (.n (.lp false 0 [(3, .one (.i .i64)), (4, .one (.i .i64))] [(3, .one (.i .i64))] (.n (.n .z .z) (.n .z .z))) .z)) .z))) = haymowref17_Words_c  := by kernel_rfl
theorem haymowref17_Words_sound : FSound RO Tryz.prog 71 haymowref17_Words := sdf haymowref17_Words_run (gnil) Tryz.func71 (by kernel_rfl)
def haymowref19_Charge_c (k71 : Sm O) : Sm O := fun xs h =>
 bif Nat.beq xs.length 1 then
 (AV.asAgg 11 (xs.getD 0 .u)).bind fun c0 =>
 gtS c0 0 fun l1 =>
 gtI c0 1 fun n2 =>
 gtS c0 2 fun l3 =>
 gtS c0 3 fun l4 =>
 gtI c0 4 fun n5 =>
 gtS c0 5 fun l6 =>
 gtI c0 6 fun n7 =>
 gtS c0 7 fun l8 =>
 gtS c0 8 fun l9 =>
 gtI c0 9 fun n10 =>
 gtS c0 10 fun l11 =>
 let h12 := h.bump 1
 let h13 := h12.put h.next (.cells true 36 [(.sl l1.1 l1.2), (.i .i64 n2), (.sl l3.1 l3.2), (.sl l4.1 l4.2), (.i .i64 n5), (.sl l6.1 l6.2), (.i .i64 n7), (.sl l8.1 l8.2), (.sl l9.1 l9.2), (.i .i64 n10), (.sl l11.1 l11.2)])
 ldS h13 (.n h.next) 0 fun l15 =>
 ldS h13 (.n h.next) 5 fun l17 =>
 ldS h13 (.n h.next) 10 fun l19 =>
 (k71 [(.sl l15.1 l15.2)] h13).bind fun r20 =>
 (AV.asI .i64 r20.1).bind fun n21 =>
 (chkE (r20.2.ld (.n h.next) 5) (some (.sl l17.1 l17.2))).bind fun _ =>
 (chkE (r20.2.ld (.n h.next) 10) (some (.sl l19.1 l19.2))).bind fun _ =>
 let v22 : Int := (IntKind.i64.wrap (n21 + (IntKind.i64.wrap (4 * (l17.2 : Int)))))
 let v23 : Int := (IntKind.i64.wrap (v22 + (IntKind.i64.wrap (4 * (l19.2 : Int)))))
 some ((.i .i64 v23), r20.2)
 else none
def haymowref19_Charge : Sm O := haymowref19_Charge_c haymowref17_Words
theorem haymowref19_Charge_ent : Entered Tryz.prog 14 := Tryz.call14
theorem haymowref19_Charge_run (k71 : Sm O) : run (O := O) Tryz.prog [(71, k71)] Tryz.f14 (.n .z (.n (.d [] [0, 1, 3, 4, 5, 6, 7, 9, 10, 11, 12, 13, 2, 8, 14, 15] [0, 1, 3, 0, 8, 24, 56, 120, 255, 0, 512, 1536, 3584, 7680, 16383, 32767]) .z)) = haymowref19_Charge_c k71 := by kernel_rfl
theorem haymowref19_Charge_sound : FSound RO Tryz.prog 14 haymowref19_Charge := sdf (haymowref19_Charge_run _) (gcons haymowref17_Words_ent haymowref17_Words_sound <| gnil) Tryz.func14 (by kernel_rfl)
def roots_Roots__Globals_c (k70 : Sm O) : Sm O := fun xs h =>
 bif Nat.beq xs.length 1 then
 (AV.asP (xs.getD 0 .u)).bind fun p0 =>
 Option.bind p0 fun q1 =>
 ldP h q1.1 (q1.2 + 1) fun p3 =>
 (k70 [(.p p3)] h).bind fun r4 =>
 (AV.asI .i64 r4.1).bind fun n5 =>
 some ((.i .i64 n5), r4.2)
 else none
def roots_Roots__Globals : Sm O := roots_Roots__Globals_c handles_Handles__Count
theorem roots_Roots__Globals_ent : Entered Tryz.prog 15 := Tryz.call15
theorem roots_Roots__Globals_run (k70 : Sm O) : run (O := O) Tryz.prog [(70, k70)] Tryz.f15 (.n .z .z) = roots_Roots__Globals_c k70 := by kernel_rfl
theorem roots_Roots__Globals_sound : FSound RO Tryz.prog 15 roots_Roots__Globals := sdf (roots_Roots__Globals_run _) (gcons handles_Handles__Count_ent handles_Handles__Count_sound <| gnil) Tryz.func15 (by kernel_rfl)
def roots_Roots__Weaks_c (k70 : Sm O) : Sm O := fun xs h =>
 bif Nat.beq xs.length 1 then
 (AV.asP (xs.getD 0 .u)).bind fun p0 =>
 Option.bind p0 fun q1 =>
 ldP h q1.1 (q1.2 + 2) fun p3 =>
 (k70 [(.p p3)] h).bind fun r4 =>
 (AV.asI .i64 r4.1).bind fun n5 =>
 some ((.i .i64 n5), r4.2)
 else none
def roots_Roots__Weaks : Sm O := roots_Roots__Weaks_c handles_Handles__Count
theorem roots_Roots__Weaks_ent : Entered Tryz.prog 16 := Tryz.call16
theorem roots_Roots__Weaks_run (k70 : Sm O) : run (O := O) Tryz.prog [(70, k70)] Tryz.f16 (.n .z .z) = roots_Roots__Weaks_c k70 := by kernel_rfl
theorem roots_Roots__Weaks_sound : FSound RO Tryz.prog 16 roots_Roots__Weaks := sdf (roots_Roots__Weaks_run _) (gcons handles_Handles__Count_ent handles_Handles__Count_sound <| gnil) Tryz.func16 (by kernel_rfl)
def frames_Frames__Depth_c : Sm O := fun xs h =>
 bif Nat.beq xs.length 1 then
 (AV.asP (xs.getD 0 .u)).bind fun p0 =>
 Option.bind p0 fun q1 =>
 ldI h q1.1 (q1.2 + 4) fun n3 =>
 some ((.i .i64 n3), h)
 else none
def frames_Frames__Depth : Sm O := frames_Frames__Depth_c
theorem frames_Frames__Depth_ent : Entered Tryz.prog 17 := Tryz.call17
theorem frames_Frames__Depth_run : run (O := O) Tryz.prog [] Tryz.f17 (.n .z .z) = frames_Frames__Depth_c  := by kernel_rfl
theorem frames_Frames__Depth_sound : FSound RO Tryz.prog 17 frames_Frames__Depth := sdf frames_Frames__Depth_run (gnil) Tryz.func17 (by kernel_rfl)
def law19_RootsPlay_L2 (r3 : AV × AH O) (k18 : Sm O) (p5 : Option (Bid × Nat)) : List AV × AH O -> Option ((List AV × AH O) ⊕ ((List AV × AH O) ⊕ (AV × AH O))) := (fun r120 =>
 (AV.asI .i64 (r120.1.getD 0 .u)).bind fun n121 =>
 ldS r120.2 (.n r3.2.next) 5 fun l123 =>
 (bif (decide (n121 < (l123.2 : Int))) then
 ldS r120.2 (.n r3.2.next) 5 fun l125 =>
 (bif ((decide ((0 : Int) <= n121)) && (decide (n121 < (l125.2 : Int)))) then
 (SA.ref l125.1).bind fun q126 =>
 ldI r120.2 q126.1 (q126.2 + (n121.toNat * 2)) fun n128 =>
 (k18 [(.p p5), (.i .i64 n128)] r120.2).bind fun r129 =>
 (AV.asTup 2 r129.1).bind fun c130 =>
 gtU c130 0 fun n131 =>
 gtI c130 1 fun n132 =>
 ldS r129.2 (.n r3.2.next) 5 fun l134 =>
 (bif ((decide ((0 : Int) <= n121)) && (decide (n121 < (l134.2 : Int)))) then
 (SA.ref l134.1).bind fun q135 =>
 ldU r129.2 q135.1 ((q135.2 + (n121.toNat * 2)) + 1) fun n137 =>
 ((bif (((n131 : Int) != n137) == false) then
 some ([(.b ((n132 : Int) != 0))], r129.2)
 else some ([(.b true)], r129.2)) : Option (List AV × AH O)).bind fun r138 =>
 (AV.asB (r138.1.getD 0 .u)).bind fun b139 =>
 (bif b139 then
 ((some ((.b false), r138.2) : Option (AV × AH O)).map fun r => Sum.inr (Sum.inr r))
 else some (Sum.inl ([(.i .i64 (IntKind.i64.wrap (n121 + 1)))], r138.2)))
 else none)
 else none)
 else some (Sum.inr (Sum.inl ([], r120.2)))))
def law19_RootsPlay_L1 (l0 : SA × Nat) (r3 : AV × AH O) (k12 : Sm O) (p5 : Option (Bid × Nat)) (k13 : Sm O) (k14 : Sm O) (k15 : Sm O) (k16 : Sm O) (k17 : Sm O) : List AV × AH O -> Option ((List AV × AH O) ⊕ ((List AV × AH O) ⊕ (AV × AH O))) := (fun r23 =>
 (AV.asI .i64 (r23.1.getD 0 .u)).bind fun n24 =>
 (bif (decide (n24 < (l0.2 : Int))) then
 ldS r23.2 (.n r3.2.next) 0 fun l26 =>
 ldI r23.2 (.n r3.2.next) 1 fun n28 =>
 ldS r23.2 (.n r3.2.next) 2 fun l30 =>
 ldS r23.2 (.n r3.2.next) 3 fun l32 =>
 ldI r23.2 (.n r3.2.next) 4 fun n34 =>
 ldS r23.2 (.n r3.2.next) 5 fun l36 =>
 ldI r23.2 (.n r3.2.next) 6 fun n38 =>
 ldS r23.2 (.n r3.2.next) 7 fun l40 =>
 ldS r23.2 (.n r3.2.next) 8 fun l42 =>
 ldI r23.2 (.n r3.2.next) 9 fun n44 =>
 ldS r23.2 (.n r3.2.next) 10 fun l46 =>
 (bif ((decide ((0 : Int) <= n24)) && (decide (n24 < (l0.2 : Int)))) then
 (SA.ref l0.1).bind fun q47 =>
 ldI r23.2 q47.1 (q47.2 + (n24.toNat * 3)) fun n49 =>
 ldI r23.2 q47.1 ((q47.2 + (n24.toNat * 3)) + 1) fun n51 =>
 ldU r23.2 q47.1 (((q47.2 + (n24.toNat * 3)) + 1) + 1) fun n53 =>
 (k12 [(.p p5), (.agg [(.sl l26.1 l26.2), (.i .i64 n28), (.sl l30.1 l30.2), (.sl l32.1 l32.2), (.i .i64 n34), (.sl l36.1 l36.2), (.i .i64 n38), (.sl l40.1 l40.2), (.sl l42.1 l42.2), (.i .i64 n44), (.sl l46.1 l46.2)]), (.agg [(.i .i64 n49), (.i .i64 n51), (.i .u64 n53)])] r23.2).bind fun r54 =>
 (AV.asTup 2 r54.1).bind fun c55 =>
 (AV.asAgg 11 (c55.getD 0 .u)).bind fun c56 =>
 gtS c56 0 fun l57 =>
 gtI c56 1 fun n58 =>
 gtS c56 2 fun l59 =>
 gtS c56 3 fun l60 =>
 gtI c56 4 fun n61 =>
 gtS c56 5 fun l62 =>
 gtI c56 6 fun n63 =>
 gtS c56 7 fun l64 =>
 gtS c56 8 fun l65 =>
 gtI c56 9 fun n66 =>
 gtS c56 10 fun l67 =>
 (AV.asB (c55.getD 1 .u)).bind fun b68 =>
 (r54.2.st (.n r3.2.next) 0 [(.sl l57.1 l57.2), (.i .i64 n58), (.sl l59.1 l59.2), (.sl l60.1 l60.2), (.i .i64 n61), (.sl l62.1 l62.2), (.i .i64 n63), (.sl l64.1 l64.2), (.sl l65.1 l65.2), (.i .i64 n66), (.sl l67.1 l67.2)]).bind fun h69 =>
 ((bif ((!b68) == false) then
 ldS h69 (.n r3.2.next) 0 fun l71 =>
 ldI h69 (.n r3.2.next) 1 fun n73 =>
 ldS h69 (.n r3.2.next) 2 fun l75 =>
 ldS h69 (.n r3.2.next) 3 fun l77 =>
 ldI h69 (.n r3.2.next) 4 fun n79 =>
 ldS h69 (.n r3.2.next) 5 fun l81 =>
 ldI h69 (.n r3.2.next) 6 fun n83 =>
 ldS h69 (.n r3.2.next) 7 fun l85 =>
 ldS h69 (.n r3.2.next) 8 fun l87 =>
 ldI h69 (.n r3.2.next) 9 fun n89 =>
 ldS h69 (.n r3.2.next) 10 fun l91 =>
 (k13 [(.p p5)] h69).bind fun r92 =>
 (AV.asI .i64 r92.1).bind fun n93 =>
 (chkE (r92.2.ld (.n r3.2.next) 0) (some (.sl l71.1 l71.2))).bind fun _ =>
 (chkE (r92.2.ld (.n r3.2.next) 1) (some (.i .i64 n73))).bind fun _ =>
 (chkE (r92.2.ld (.n r3.2.next) 2) (some (.sl l75.1 l75.2))).bind fun _ =>
 (chkE (r92.2.ld (.n r3.2.next) 3) (some (.sl l77.1 l77.2))).bind fun _ =>
 (chkE (r92.2.ld (.n r3.2.next) 4) (some (.i .i64 n79))).bind fun _ =>
 (chkE (r92.2.ld (.n r3.2.next) 5) (some (.sl l81.1 l81.2))).bind fun _ =>
 (chkE (r92.2.ld (.n r3.2.next) 6) (some (.i .i64 n83))).bind fun _ =>
 (chkE (r92.2.ld (.n r3.2.next) 7) (some (.sl l85.1 l85.2))).bind fun _ =>
 (chkE (r92.2.ld (.n r3.2.next) 8) (some (.sl l87.1 l87.2))).bind fun _ =>
 (chkE (r92.2.ld (.n r3.2.next) 9) (some (.i .i64 n89))).bind fun _ =>
 (chkE (r92.2.ld (.n r3.2.next) 10) (some (.sl l91.1 l91.2))).bind fun _ =>
 (k14 [(.agg [(.sl l71.1 l71.2), (.i .i64 n73), (.sl l75.1 l75.2), (.sl l77.1 l77.2), (.i .i64 n79), (.sl l81.1 l81.2), (.i .i64 n83), (.sl l85.1 l85.2), (.sl l87.1 l87.2), (.i .i64 n89), (.sl l91.1 l91.2)])] r92.2).bind fun r94 =>
 (AV.asI .i64 r94.1).bind fun n95 =>
 some ([(.b ((n93 : Int) != n95))], r94.2)
 else some ([(.b true)], h69)) : Option (List AV × AH O)).bind fun r96 =>
 (AV.asB (r96.1.getD 0 .u)).bind fun b97 =>
 ((bif (b97 == false) then
 ldS r96.2 (.n r3.2.next) 5 fun l99 =>
 (k15 [(.p p5)] r96.2).bind fun r100 =>
 (AV.asI .i64 r100.1).bind fun n101 =>
 (chkE (r100.2.ld (.n r3.2.next) 5) (some (.sl l99.1 l99.2))).bind fun _ =>
 some ([(.b ((n101 : Int) != (l99.2 : Int)))], r100.2)
 else some ([(.b true)], r96.2)) : Option (List AV × AH O)).bind fun r102 =>
 (AV.asB (r102.1.getD 0 .u)).bind fun b103 =>
 ((bif (b103 == false) then
 ldS r102.2 (.n r3.2.next) 10 fun l105 =>
 (k16 [(.p p5)] r102.2).bind fun r106 =>
 (AV.asI .i64 r106.1).bind fun n107 =>
 (chkE (r106.2.ld (.n r3.2.next) 10) (some (.sl l105.1 l105.2))).bind fun _ =>
 some ([(.b ((n107 : Int) != (l105.2 : Int)))], r106.2)
 else some ([(.b true)], r102.2)) : Option (List AV × AH O)).bind fun r108 =>
 (AV.asB (r108.1.getD 0 .u)).bind fun b109 =>
 ((bif (b109 == false) then
 Option.bind p5 fun q110 =>
 ldP r108.2 q110.1 q110.2 fun p112 =>
 ldS r108.2 (.n r3.2.next) 0 fun l114 =>
 (k17 [(.p p112)] r108.2).bind fun r115 =>
 (AV.asI .i64 r115.1).bind fun n116 =>
 (chkE (r115.2.ld (.n r3.2.next) 0) (some (.sl l114.1 l114.2))).bind fun _ =>
 some ([(.b ((n116 : Int) != (l114.2 : Int)))], r115.2)
 else some ([(.b true)], r108.2)) : Option (List AV × AH O)).bind fun r117 =>
 (AV.asB (r117.1.getD 0 .u)).bind fun b118 =>
 (bif b118 then
 ((some ((.b false), r117.2) : Option (AV × AH O)).map fun r => Sum.inr (Sum.inr r))
 else some (Sum.inl ([(.i .i64 (IntKind.i64.wrap (n24 + 1)))], r117.2)))
 else none)
 else some (Sum.inr (Sum.inl ([], r23.2)))))
def law19_RootsPlay_c (k9 k10 k11 k12 k13 k14 k15 k16 k17 k18 : Sm O) : Sm O := fun xs h =>
 bif Nat.beq xs.length 1 then
 gtS xs 0 fun l0 =>
 (k9 [] h).bind fun r1 =>
 (AV.asB r1.1).bind fun b2 =>
 (bif (!b2) then
 some ((.b false), r1.2)
 else (bif (decide ((l0.2 : Int) > 60)) then
 some ((.b true), r1.2)
 else (k10 [] r1.2).bind fun r3 =>
 (AV.asTup 2 r3.1).bind fun c4 =>
 (AV.asP (c4.getD 0 .u)).bind fun p5 =>
 (AV.asB (c4.getD 1 .u)).bind fun b6 =>
 (bif (!b6) then
 some ((.b false), r3.2)
 else let h7 := r3.2.bump 1
 (k11 [] h7).bind fun r8 =>
 (AV.asAgg 11 r8.1).bind fun c9 =>
 gtS c9 0 fun l10 =>
 gtI c9 1 fun n11 =>
 gtS c9 2 fun l12 =>
 gtS c9 3 fun l13 =>
 gtI c9 4 fun n14 =>
 gtS c9 5 fun l15 =>
 gtI c9 6 fun n16 =>
 gtS c9 7 fun l17 =>
 gtS c9 8 fun l18 =>
 gtI c9 9 fun n19 =>
 gtS c9 10 fun l20 =>
 let h21 := r8.2.put r3.2.next (.cells true 36 [(.sl .nil 0), (.i .i64 0), (.sl .nil 0), (.sl .nil 0), (.i .i64 0), (.sl .nil 0), (.i .i64 0), (.sl .nil 0), (.sl .nil 0), (.i .i64 0), (.sl .nil 0)])
 (h21.st (.n r3.2.next) 0 [(.sl l10.1 l10.2), (.i .i64 n11), (.sl l12.1 l12.2), (.sl l13.1 l13.2), (.i .i64 n14), (.sl l15.1 l15.2), (.i .i64 n16), (.sl l17.1 l17.2), (.sl l18.1 l18.2), (.i .i64 n19), (.sl l20.1 l20.2)]).bind fun h22 =>
 bindS (S := List AV × AH O) (R := (AV × AH O)) (loopF (S := List AV × AH O) (T := (List AV × AH O) ⊕ (AV × AH O)) (law19_RootsPlay_L1 l0 r3 k12 p5 k13 k14 k15 k16 k17) ([(.i .i64 0)], h22)) fun r119 =>
 bindS (S := List AV × AH O) (R := (AV × AH O)) (loopF (S := List AV × AH O) (T := (List AV × AH O) ⊕ (AV × AH O)) (law19_RootsPlay_L2 r3 k18 p5) ([(.i .i64 0)], r119.2)) fun r140 =>
 some ((.b true), r140.2))))
 else none
def law19_RootsPlay : Sm O := law19_RootsPlay_c law19_awake law19_made haymowref19_New law19_do roots_Roots__Charge haymowref19_Charge roots_Roots__Globals roots_Roots__Weaks frames_Frames__Depth roots_Roots__Get
theorem law19_RootsPlay_run (k9 k10 k11 k12 k13 k14 k15 k16 k17 k18 : Sm O) : run (O := O) Tryz.prog [(9, k9), (10, k10), (11, k11), (12, k12), (13, k13), (14, k14), (15, k15), (16, k16), (17, k17), (18, k18)] Tryz.f3 (.n .z (.n (.n .z (.n .z .z)) (.n (.n .z (.n .z .z)) (.n .z (.n (.n .z (.n .z .z)) (.n .z (.n (.n .z (.n (.lp true 0 [(6, .one (.i .i64))] [] (.n (.n .z .z) (.n (.n (.n (.d [] [0, 1, 2, 3, 4, 5, 6, 7, 8, 9, 10, 11] [0, 0, 0, 0, 12, 28, 63, 127, 255, 255, 511, 2047]) (.n (.d [(2, 5, [(46, .one .b)]), (9, 7, [(55, .one .b)]), (18, 7, [(64, .one .b)]), (27, 9, [(75, .one .b)])] [0, 1, 2, 3, 5, 4, 6, 7, 8, 9, 10, 12, 13, 14, 15, 11, 16, 17, 18, 19, 21, 22, 23, 24, 20, 25, 26, 27, 28, 29, 30, 31, 33, 34, 35, 32, 36, 37] [0, 1, 3, 7, 15, 7, 63, 127, 255, 511, 1023, 2047, 1023, 5119, 13311, 29695, 65535, 131071, 262143, 524287, 1048575, 524287, 2621439, 6815743, 15204351, 33554431, 67108863, 134217727, 268435455, 536870911, 1073741823, 2147483647, 4294967295, 268435455, 8858370047, 26038239231, 68719476735, 137438953471]) (.n .z .z))) .z) .z))) .z)) (.n (.n .z (.n (.lp true 2 [(7, .one (.i .i64))] [] (.n (.n .z .z) (.n (.n (.n .z (.n (.g [(9, 2, [(108, .one .b)])]) (.n .z .z))) .z) .z))) .z)) .z)))))))) = law19_RootsPlay_c k9 k10 k11 k12 k13 k14 k15 k16 k17 k18 := by kernel_rfl
theorem law19_RootsPlay_sound : FSound RO Tryz.prog 3 law19_RootsPlay := sdf (law19_RootsPlay_run _ _ _ _ _ _ _ _ _ _) (gcons law19_awake_ent law19_awake_sound <| gcons law19_made_ent law19_made_sound <| gcons haymowref19_New_ent haymowref19_New_sound <| gcons law19_do_ent law19_do_sound <| gcons roots_Roots__Charge_ent roots_Roots__Charge_sound <| gcons haymowref19_Charge_ent haymowref19_Charge_sound <| gcons roots_Roots__Globals_ent roots_Roots__Globals_sound <| gcons roots_Roots__Weaks_ent roots_Roots__Weaks_sound <| gcons frames_Frames__Depth_ent frames_Frames__Depth_sound <| gcons roots_Roots__Get_ent roots_Roots__Get_sound <| gnil) Tryz.func3 (by kernel_rfl)
end
end Go.Abs.Tryz
