/-
  What functions of the program do. No conditions.
-/
import Derived.Test.YthkpjongjnjfgaaS8g
import Derived.Test.YthkpjongjnjfgaaProg
import Derived.KernelRfl
set_option linter.unusedVariables false
set_option linter.unusedSimpArgs false
set_option linter.constructorNameAsVariable false
set_option maxRecDepth 100000
namespace Go.Abs.Try
open Go Go.Abs Go.Proofs
noncomputable section
variable {O : Type} {RO : O -> Loc -> (Nat -> Option Obj) -> Prop}
def law37_line_c : Sm O := fun xs h =>
 bif Nat.beq xs.length 0 then
 let h0 := h.bump 1
 let h1 := h0.put h.next (.cells true 53 [(.i .i64 0), (.i .i64 0), (.i .i64 0), (.i .i64 0), (.b false)])
 (h1.st (.n h.next) 0 [(.i .i64 1), (.i .i64 0), (.i .i64 0), (.i .i64 0), (.b false)]).bind fun h2 =>
 let h3 := h2.bump 1
 ldI h3 (.n h.next) 0 fun n5 =>
 ldI h3 (.n h.next) 1 fun n7 =>
 ldI h3 (.n h.next) 2 fun n9 =>
 ldI h3 (.n h.next) 3 fun n11 =>
 (h3.ld (.n h.next) 4).bind fun w12 =>
 (AV.asB w12).bind fun b13 =>
 ldI h3 (.n h.next) 0 fun n15 =>
 ldI h3 (.n h.next) 1 fun n17 =>
 ldI h3 (.n h.next) 2 fun n19 =>
 ldI h3 (.n h.next) 3 fun n21 =>
 (h3.ld (.n h.next) 4).bind fun w22 =>
 (AV.asB w22).bind fun b23 =>
 ldI h3 (.n h.next) 0 fun n25 =>
 ldI h3 (.n h.next) 1 fun n27 =>
 ldI h3 (.n h.next) 2 fun n29 =>
 ldI h3 (.n h.next) 3 fun n31 =>
 (h3.ld (.n h.next) 4).bind fun w32 =>
 (AV.asB w32).bind fun b33 =>
 ldI h3 (.n h.next) 0 fun n35 =>
 ldI h3 (.n h.next) 1 fun n37 =>
 ldI h3 (.n h.next) 2 fun n39 =>
 ldI h3 (.n h.next) 3 fun n41 =>
 (h3.ld (.n h.next) 4).bind fun w42 =>
 (AV.asB w42).bind fun b43 =>
 let h44 := h3.put h2.next (.cells true 56 [(.i .i64 0), (.i .i64 0), (.i .i64 0), (.i .i64 0), (.i .i64 n5), (.i .i64 n7), (.i .i64 n9), (.i .i64 n11), (.b b13), (.i .u64 0), (.i .i64 0), (.i .i64 0), (.i .i64 0), (.i .i64 0), (.i .i64 n15), (.i .i64 n17), (.i .i64 n19), (.i .i64 n21), (.b b23), (.i .u64 0), (.i .i64 0), (.i .i64 0), (.i .i64 0), (.i .i64 0), (.i .i64 n25), (.i .i64 n27), (.i .i64 n29), (.i .i64 n31), (.b b33), (.i .u64 0), (.i .i64 0), (.i .i64 0), (.i .i64 0), (.i .i64 0), (.i .i64 n35), (.i .i64 n37), (.i .i64 n39), (.i .i64 n41), (.b b43), (.i .u64 0), (.i .i64 3), (.i .i64 1), (.i .i64 0), (.i .i64 2), (.i .i64 0), (.i .i64 0), (.i .i64 0), (.i .i64 0), (.b false), (.i .u64 0), (.i .i64 3), (.i .i64 2), (.i .i64 0), (.i .i64 3), (.i .i64 0), (.i .i64 0), (.i .i64 0), (.i .i64 0), (.b false), (.i .u64 0), (.i .i64 3), (.i .i64 4), (.i .i64 0), (.i .i64 1), (.i .i64 0), (.i .i64 0), (.i .i64 0), (.i .i64 0), (.b false), (.i .u64 0)])
 some ((.sl (.loc (.n h2.next) 0 10) 7), h44)
 else none
def law37_line : Sm O := law37_line_c
theorem law37_line_ent : Entered Try.prog 76 := Try.call76
theorem law37_line_run : run (O := O) Try.prog [] Try.f76 (.n .z (.n .z .z)) = law37_line_c  := by kernel_rfl
theorem law37_line_sound : FSound RO Try.prog 76 law37_line := sdf law37_line_run (gnil) Try.func76 (by kernel_rfl)
def law37_made_L1 (l0 : SA × Nat) (p2 : Option (Bid × Nat)) (k24 : Sm O) : List AV × AH O -> Option ((List AV × AH O) ⊕ ((List AV × AH O) ⊕ (AV × AH O))) := (fun r3 =>
 (AV.asSl (r3.1.getD 0 .u)).bind fun l4 =>
 (AV.asI .i64 (r3.1.getD 1 .u)).bind fun n5 =>
 ((bif ((decide (n5 < (l0.2 : Int))) == true) then
 some ([(.b (!(Option.isNone p2)))], r3.2)
 else some ([(.b false)], r3.2)) : Option (List AV × AH O)).bind fun r6 =>
 (AV.asB (r6.1.getD 0 .u)).bind fun b7 =>
 (bif b7 then
 (bif ((decide ((0 : Int) <= n5)) && (decide (n5 < (l0.2 : Int)))) then
 (SA.ref l0.1).bind fun q8 =>
 ldI r6.2 q8.1 (q8.2 + (n5.toNat * 10)) fun n10 =>
 ldI r6.2 q8.1 ((q8.2 + (n5.toNat * 10)) + 1) fun n12 =>
 ldI r6.2 q8.1 (((q8.2 + (n5.toNat * 10)) + 1) + 1) fun n14 =>
 ldI r6.2 q8.1 ((((q8.2 + (n5.toNat * 10)) + 1) + 1) + 1) fun n16 =>
 ldI r6.2 q8.1 (((((q8.2 + (n5.toNat * 10)) + 1) + 1) + 1) + 1) fun n18 =>
 ldI r6.2 q8.1 ((((((q8.2 + (n5.toNat * 10)) + 1) + 1) + 1) + 1) + 1) fun n20 =>
 ldI r6.2 q8.1 (((((((q8.2 + (n5.toNat * 10)) + 1) + 1) + 1) + 1) + 1) + 1) fun n22 =>
 ldI r6.2 q8.1 ((((((((q8.2 + (n5.toNat * 10)) + 1) + 1) + 1) + 1) + 1) + 1) + 1) fun n24 =>
 (r6.2.ld q8.1 (((((((((q8.2 + (n5.toNat * 10)) + 1) + 1) + 1) + 1) + 1) + 1) + 1) + 1)).bind fun w25 =>
 (AV.asB w25).bind fun b26 =>
 ldU r6.2 q8.1 ((((((((((q8.2 + (n5.toNat * 10)) + 1) + 1) + 1) + 1) + 1) + 1) + 1) + 1) + 1) fun n28 =>
 (k24 [(.p p2), (.sl l4.1 l4.2), (.agg [(.i .i64 n10), (.i .i64 n12), (.i .i64 n14), (.i .i64 n16), (.i .i64 n18), (.i .i64 n20), (.i .i64 n22), (.i .i64 n24), (.b b26), (.i .u64 n28)])] r6.2).bind fun r29 =>
 (AV.asTup 2 r29.1).bind fun c30 =>
 gtS c30 0 fun l31 =>
 (AV.asB (c30.getD 1 .u)).bind fun b32 =>
 (bif (!b32) then
 ((some ((.tup [(.p none), (.sl .nil 0), (.b false)]), r29.2) : Option (AV × AH O)).map fun r => Sum.inr (Sum.inr r))
 else some (Sum.inl ([(.sl l31.1 l31.2), (.i .i64 (IntKind.i64.wrap (n5 + 1)))], r29.2)))
 else none)
 else some (Sum.inr (Sum.inl ([(.sl l4.1 l4.2)], r6.2)))))
def law37_made_c (k22 k24 : Sm O) : Sm O := fun xs h =>
 bif Nat.beq xs.length 1 then
 gtS xs 0 fun l0 =>
 (k22 [] h).bind fun r1 =>
 (AV.asP r1.1).bind fun p2 =>
 bindS (S := List AV × AH O) (R := (AV × AH O)) (loopF (S := List AV × AH O) (T := (List AV × AH O) ⊕ (AV × AH O)) (law37_made_L1 l0 p2 k24) ([(.sl .nil 0), (.i .i64 0)], r1.2)) fun r33 =>
 (AV.asSl (r33.1.getD 0 .u)).bind fun l34 =>
 some ((.tup [(.p p2), (.sl l34.1 l34.2), (.b (!(Option.isNone p2)))]), r33.2)
 else none
def law37_made : Sm O := law37_made_c graph_New law36_Do
theorem law37_made_ent : Entered Try.prog 33 := Try.call33
theorem law37_made_run (k22 k24 : Sm O) : run (O := O) Try.prog [(22, k22), (24, k24)] Try.f33 (.n .z (.n .z (.n .z (.n (.n .z (.n (.lp true 0 [(6, .one .sl), (7, .one (.i .i64))] [(6, .one .sl)] (.n (.n (.g [(4, 2, [(17, .one .b)])]) .z) (.n (.n (.n .z (.n .z (.n .z (.n .z .z)))) .z) .z))) .z)) .z)))) = law37_made_c k22 k24 := by kernel_rfl
theorem law37_made_sound : FSound RO Try.prog 33 law37_made := sdf (law37_made_run _ _) (gcons graph_New_ent graph_New_sound <| gcons law36_Do_ent law36_Do_sound <| gnil) Try.func33 (by kernel_rfl)
def reach_Levels_1_L1 (l0 : SA × Nat) (xs : List AV) (k27 : Sm O) : List AV × AH O -> Option ((List AV × AH O) ⊕ (List AV × AH O)) := (fun r1 =>
 (AV.asSl (r1.1.getD 0 .u)).bind fun l2 =>
 (AV.asI .i64 (r1.1.getD 1 .u)).bind fun n3 =>
 (bif (decide (n3 < (l0.2 : Int))) then
 (bif ((decide ((0 : Int) <= n3)) && (decide (n3 < (l0.2 : Int)))) then
 (SA.ref l0.1).bind fun q4 =>
 ldI r1.2 q4.1 (q4.2 + (n3.toNat * 1)) fun n6 =>
 (AV.asPS (xs.getD 1 .u)).bind fun q7 =>
 ldP r1.2 q7.1 q7.2 fun p9 =>
 (k27 [(.p p9), (.i .i64 n6)] r1.2).bind fun r10 =>
 (AV.asB r10.1).bind fun b11 =>
 ((bif (b11 == true) then
 (AV.asPS (xs.getD 2 .u)).bind fun q12 =>
 (r10.2.ld q12.1 q12.2).bind fun w13 =>
 (AV.asMp w13).bind fun m14 =>
 (entsOf r10.2 (.mp m14)).bind fun m15 =>
 (findM .i64 n6 m15).bind fun f16 =>
 (AV.asI .i64 (lookV f16 (.i .i64 0))).bind fun n17 =>
 some ([(.b ((n17 : Int) == 0))], r10.2)
 else some ([(.b false)], r10.2)) : Option (List AV × AH O)).bind fun r18 =>
 (AV.asB (r18.1.getD 0 .u)).bind fun b19 =>
 ((bif b19 then
 (AV.asPS (xs.getD 2 .u)).bind fun q20 =>
 (r18.2.ld q20.1 q20.2).bind fun w21 =>
 (AV.asMp w21).bind fun m22 =>
 Option.bind m22 fun b23 =>
 (entsOf r18.2 (.mp (some b23))).bind fun m24 =>
 (findM .i64 n6 m24).bind fun f25 =>
 let h26 := r18.2.put b23 (updB r18.2 b23 f25 m24 (.i .i64 n6) (.i .i64 1))
 let h27 := h26.bump 2
 let h28 := h27.put h26.next (.cells true 3 [(.i .i64 n6)])
 (h28.rdSl (.loc (.n h26.next) 0 1) 1 1).bind fun new29 =>
 (bif (Nat.ble ((l2.2 + 1) * 9) 35184372088832) then
 (h28.appSl (h26.next + 1) 3 1 l2.1 l2.2 1 new29).bind fun r30 =>
 (AV.asSl r30.1).bind fun l31 =>
 some ([(.sl l31.1 l31.2)], r30.2)
 else none)
 else some ([(.sl l2.1 l2.2)], r18.2)) : Option (List AV × AH O)).bind fun r32 =>
 (AV.asSl (r32.1.getD 0 .u)).bind fun l33 =>
 some (Sum.inl ([(.sl l33.1 l33.2), (.i .i64 (IntKind.i64.wrap (n3 + 1)))], r32.2))
 else none)
 else some (Sum.inr ([(.sl l2.1 l2.2)], r1.2))))
def reach_Levels_1_c (k27 : Sm O) : Sm O := fun xs h =>
 bif Nat.beq xs.length 3 then
 gtS xs 0 fun l0 =>
 (loopF (S := List AV × AH O) (T := List AV × AH O) (reach_Levels_1_L1 l0 xs k27) ([(.sl .nil 0), (.i .i64 0)], h)).bind fun r34 =>
 (AV.asSl (r34.1.getD 0 .u)).bind fun l35 =>
 some ((.sl l35.1 l35.2), r34.2)
 else none
def reach_Levels_1 : Sm O := reach_Levels_1_c graph_Graph__Is
theorem reach_Levels_1_ent : Entered Try.prog 80 := Try.call80
theorem reach_Levels_1_run (k27 : Sm O) : run (O := O) Try.prog [(27, k27)] Try.f80 (.n .z (.n .z (.n (.n .z (.n (.lp false 0 [(5, .one .sl), (10, .one (.i .i64))] [(5, .one .sl)] (.n .z (.n .z (.n (.n (.n .z (.n (.g [(3, 4, [(22, .one .b)])]) (.j false [(5, .one .sl)] .z .z))) .z) .z)))) .z)) .z))) = reach_Levels_1_c k27 := by kernel_rfl
theorem reach_Levels_1_sound : FSound RO Try.prog 80 reach_Levels_1 := sdf (reach_Levels_1_run _) (gcons graph_Graph__Is_ent graph_Graph__Is_sound <| gnil) Try.func80 (by kernel_rfl)
def reach_Levels_L2 (l12 : SA × Nat) (h : AH O) (k26 : Sm O) : List AV × AH O -> Option ((List AV × AH O) ⊕ (List AV × AH O)) := (fun r18 =>
 (AV.asSl (r18.1.getD 0 .u)).bind fun l19 =>
 (AV.asI .i64 (r18.1.getD 1 .u)).bind fun n20 =>
 (bif (decide (n20 < (l12.2 : Int))) then
 (bif ((decide ((0 : Int) <= n20)) && (decide (n20 < (l12.2 : Int)))) then
 (SA.ref l12.1).bind fun q21 =>
 ldI r18.2 q21.1 (q21.2 + (n20.toNat * 1)) fun n23 =>
 let h24 := r18.2.bump 1
 ldP h24 (.n h.next) 0 fun p26 =>
 (k26 [(.p p26), (.i .i64 n23)] h24).bind fun r27 =>
 (AV.asSl r27.1).bind fun l28 =>
 (r27.2.rdSl l28.1 l28.2 1).bind fun new29 =>
 (bif (Nat.ble ((l19.2 + l28.2) * 9) 35184372088832) then
 (r27.2.appSl r18.2.next 3 1 l19.1 l19.2 l28.2 new29).bind fun r30 =>
 (AV.asSl r30.1).bind fun l31 =>
 some (Sum.inl ([(.sl l31.1 l31.2), (.i .i64 (IntKind.i64.wrap (n20 + 1)))], r30.2))
 else none)
 else none)
 else some (Sum.inr ([(.sl l19.1 l19.2)], r18.2))))
def reach_Levels_L1 (h : AH O) (k26 : Sm O) (k80 : Sm O) (h3 : AH O) : List AV × AH O -> Option ((List AV × AH O) ⊕ (List AV × AH O)) := (fun r10 =>
 (AV.asSl (r10.1.getD 0 .u)).bind fun l11 =>
 (AV.asSl (r10.1.getD 1 .u)).bind fun l12 =>
 (bif (decide ((l12.2 : Int) > 0)) then
 let h13 := r10.2.bump 2
 let h14 := h13.put r10.2.next (.cells true 25 [(.sl l12.1 l12.2)])
 (h14.rdSl (.loc (.n r10.2.next) 0 1) 1 1).bind fun new15 =>
 (bif (Nat.ble ((l11.2 + 1) * 25) 35184372088832) then
 (h14.appSl (r10.2.next + 1) 25 1 l11.1 l11.2 1 new15).bind fun r16 =>
 (AV.asSl r16.1).bind fun l17 =>
 (loopF (S := List AV × AH O) (T := List AV × AH O) (reach_Levels_L2 l12 h k26) ([(.sl .nil 0), (.i .i64 0)], r16.2)).bind fun r32 =>
 (AV.asSl (r32.1.getD 0 .u)).bind fun l33 =>
 (k80 [(.sl l33.1 l33.2), (.p (some ((.n h.next), 0))), (.p (some ((.n (h3.next + 1)), 0)))] r32.2).bind fun r34 =>
 (AV.asSl r34.1).bind fun l35 =>
 some (Sum.inl ([(.sl l17.1 l17.2), (.sl l35.1 l35.2)], r34.2))
 else none)
 else some (Sum.inr ([(.sl l11.1 l11.2)], r10.2))))
def reach_Levels_c (k80 k26 : Sm O) : Sm O := fun xs h =>
 bif Nat.beq xs.length 2 then
 (AV.asP (xs.getD 0 .u)).bind fun p0 =>
 gtS xs 1 fun l1 =>
 let h2 := h.bump 1
 let h3 := h2.put h.next (.cells true 48 [(.p p0)])
 let h4 := h3.bump 2
 let h5 := h4.put h3.next (.map [] [] 0)
 let h6 := h5.put (h3.next + 1) (.cells true 137 [(.mp none)])
 (h6.st (.n (h3.next + 1)) 0 [(.mp (some h3.next))]).bind fun h7 =>
 (k80 [(.sl l1.1 l1.2), (.p (some ((.n h.next), 0))), (.p (some ((.n (h3.next + 1)), 0)))] h7).bind fun r8 =>
 (AV.asSl r8.1).bind fun l9 =>
 (loopF (S := List AV × AH O) (T := List AV × AH O) (reach_Levels_L1 h k26 k80 h3) ([(.sl .nil 0), (.sl l9.1 l9.2)], r8.2)).bind fun r36 =>
 (AV.asSl (r36.1.getD 0 .u)).bind fun l37 =>
 some ((.sl l37.1 l37.2), r36.2)
 else none
def reach_Levels : Sm O := reach_Levels_c reach_Levels_1 graph_Graph__Edges
theorem reach_Levels_ent : Entered Try.prog 38 := Try.call38
theorem reach_Levels_run (k80 k26 : Sm O) : run (O := O) Try.prog [(80, k80), (26, k26)] Try.f38 (.n .z (.n .z (.n .z (.n .z (.n (.n .z (.n (.lp false 0 [(5, .one .sl), (8, .one .sl)] [(5, .one .sl)] (.n (.n .z .z) (.n (.n .z (.n .z (.n (.n .z (.n (.lp false 2 [(9, .one .sl), (26, .one (.i .i64))] [(9, .one .sl)] (.n .z (.n .z (.n (.n .z .z) .z)))) .z)) .z))) .z))) .z)) .z))))) = reach_Levels_c k80 k26 := by kernel_rfl
theorem reach_Levels_sound : FSound RO Try.prog 38 reach_Levels := sdf (reach_Levels_run _ _) (gcons reach_Levels_1_ent reach_Levels_1_sound <| gcons graph_Graph__Edges_ent graph_Graph__Edges_sound <| gnil) Try.func38 (by kernel_rfl)
def reach_marked_L2 (l10 : SA × Nat) (h : AH O) (n7 : Int) : List AV × AH O -> Option ((List AV × AH O) ⊕ (List AV × AH O)) := (fun r11 =>
 (AV.asI .i64 (r11.1.getD 0 .u)).bind fun n12 =>
 (bif (decide (n12 < (l10.2 : Int))) then
 (bif ((decide ((0 : Int) <= n12)) && (decide (n12 < (l10.2 : Int)))) then
 (SA.ref l10.1).bind fun q13 =>
 ldI r11.2 q13.1 (q13.2 + (n12.toNat * 1)) fun n15 =>
 Option.bind (some h.next) fun b16 =>
 (entsOf r11.2 (.mp (some b16))).bind fun m17 =>
 (findM .i64 n15 m17).bind fun f18 =>
 let h19 := r11.2.put b16 (updB r11.2 b16 f18 m17 (.i .i64 n15) (.i .i64 (IntKind.i64.wrap (n7 + 1))))
 some (Sum.inl ([(.i .i64 (IntKind.i64.wrap (n12 + 1)))], h19))
 else none)
 else some (Sum.inr ([], r11.2))))
def reach_marked_L1 (l5 : SA × Nat) (h : AH O) : List AV × AH O -> Option ((List AV × AH O) ⊕ (List AV × AH O)) := (fun r6 =>
 (AV.asI .i64 (r6.1.getD 0 .u)).bind fun n7 =>
 (bif (decide (n7 < (l5.2 : Int))) then
 (bif ((decide ((0 : Int) <= n7)) && (decide (n7 < (l5.2 : Int)))) then
 (SA.ref l5.1).bind fun q8 =>
 ldS r6.2 q8.1 (q8.2 + (n7.toNat * 1)) fun l10 =>
 (loopF (S := List AV × AH O) (T := List AV × AH O) (reach_marked_L2 l10 h n7) ([(.i .i64 0)], r6.2)).bind fun r20 =>
 some (Sum.inl ([(.i .i64 (IntKind.i64.wrap (n7 + 1)))], r20.2))
 else none)
 else some (Sum.inr ([], r6.2))))
def reach_marked_c (k38 : Sm O) : Sm O := fun xs h =>
 bif Nat.beq xs.length 2 then
 (AV.asP (xs.getD 0 .u)).bind fun p0 =>
 gtS xs 1 fun l1 =>
 let h2 := h.bump 1
 let h3 := h2.put h.next (.map [] [] 0)
 (k38 [(.p p0), (.sl l1.1 l1.2)] h3).bind fun r4 =>
 (AV.asSl r4.1).bind fun l5 =>
 (loopF (S := List AV × AH O) (T := List AV × AH O) (reach_marked_L1 l5 h) ([(.i .i64 0)], r4.2)).bind fun r21 =>
 some ((.mp (some h.next)), r21.2)
 else none
def reach_marked : Sm O := reach_marked_c reach_Levels
theorem reach_marked_ent : Entered Try.prog 79 := Try.call79
theorem reach_marked_run (k38 : Sm O) : run (O := O) Try.prog [(38, k38)] Try.f79 (.n .z (.n .z (.n (.n .z (.n (.lp false 0 [(15, .one (.i .i64))] [] (.n .z (.n .z (.n (.n (.n .z (.n .z (.n (.lp false 2 [(22, .one (.i .i64))] [] (.n .z (.n .z (.n (.n .z .z) .z)))) .z))) .z) .z)))) .z)) .z))) = reach_marked_c k38 := by kernel_rfl
theorem reach_marked_sound : FSound RO Try.prog 79 reach_marked := sdf (reach_marked_run _) (gcons reach_Levels_ent reach_Levels_sound <| gnil) Try.func79 (by kernel_rfl)
def reach_From_L1 (l5 : SA × Nat) (m3 : Option Nat) : List AV × AH O -> Option ((List AV × AH O) ⊕ (List AV × AH O)) := (fun r6 =>
 (AV.asSl (r6.1.getD 0 .u)).bind fun l7 =>
 (AV.asI .i64 (r6.1.getD 1 .u)).bind fun n8 =>
 (bif (decide (n8 < (l5.2 : Int))) then
 (bif ((decide ((0 : Int) <= n8)) && (decide (n8 < (l5.2 : Int)))) then
 (SA.ref l5.1).bind fun q9 =>
 ldI r6.2 q9.1 (q9.2 + (n8.toNat * 1)) fun n11 =>
 (entsOf r6.2 (.mp m3)).bind fun m12 =>
 (findM .i64 n11 m12).bind fun f13 =>
 (AV.asI .i64 (lookV f13 (.i .i64 0))).bind fun n14 =>
 ((bif (decide (n14 > 0)) then
 let h15 := r6.2.bump 2
 let h16 := h15.put r6.2.next (.cells true 3 [(.i .i64 n11)])
 (h16.rdSl (.loc (.n r6.2.next) 0 1) 1 1).bind fun new17 =>
 (bif (Nat.ble ((l7.2 + 1) * 9) 35184372088832) then
 (h16.appSl (r6.2.next + 1) 3 1 l7.1 l7.2 1 new17).bind fun r18 =>
 (AV.asSl r18.1).bind fun l19 =>
 some ([(.sl l19.1 l19.2)], r18.2)
 else none)
 else some ([(.sl l7.1 l7.2)], r6.2)) : Option (List AV × AH O)).bind fun r20 =>
 (AV.asSl (r20.1.getD 0 .u)).bind fun l21 =>
 some (Sum.inl ([(.sl l21.1 l21.2), (.i .i64 (IntKind.i64.wrap (n8 + 1)))], r20.2))
 else none)
 else some (Sum.inr ([(.sl l7.1 l7.2)], r6.2))))
def reach_From_c (k79 k25 : Sm O) : Sm O := fun xs h =>
 bif Nat.beq xs.length 2 then
 (AV.asP (xs.getD 0 .u)).bind fun p0 =>
 gtS xs 1 fun l1 =>
 (k79 [(.p p0), (.sl l1.1 l1.2)] h).bind fun r2 =>
 (AV.asMp r2.1).bind fun m3 =>
 (k25 [(.p p0)] r2.2).bind fun r4 =>
 (AV.asSl r4.1).bind fun l5 =>
 (loopF (S := List AV × AH O) (T := List AV × AH O) (reach_From_L1 l5 m3) ([(.sl .nil 0), (.i .i64 0)], r4.2)).bind fun r22 =>
 (AV.asSl (r22.1.getD 0 .u)).bind fun l23 =>
 some ((.sl l23.1 l23.2), r22.2)
 else none
def reach_From : Sm O := reach_From_c reach_marked graph_Graph__Ids
theorem reach_From_ent : Entered Try.prog 34 := Try.call34
theorem reach_From_run (k79 k25 : Sm O) : run (O := O) Try.prog [(79, k79), (25, k25)] Try.f34 (.n .z (.n .z (.n .z (.n (.n .z (.n (.lp false 0 [(5, .one .sl), (15, .one (.i .i64))] [(5, .one .sl)] (.n .z (.n .z (.n (.n (.n .z (.n .z (.j false [(5, .one .sl)] .z .z))) .z) .z)))) .z)) .z)))) = reach_From_c k79 k25 := by kernel_rfl
theorem reach_From_sound : FSound RO Try.prog 34 reach_From := sdf (reach_From_run _ _) (gcons reach_marked_ent reach_marked_sound <| gcons graph_Graph__Ids_ent graph_Graph__Ids_sound <| gnil) Try.func34 (by kernel_rfl)
def reach_Way_c (k79 : Sm O) : Sm O := fun xs h =>
 bif Nat.beq xs.length 3 then
 (AV.asP (xs.getD 0 .u)).bind fun p0 =>
 gtI xs 1 fun n1 =>
 gtI xs 2 fun n2 =>
 let h3 := h.bump 1
 let h4 := h3.put h.next (.cells true 3 [(.i .i64 n1)])
 (k79 [(.p p0), (.sl (.loc (.n h.next) 0 1) 1)] h4).bind fun r5 =>
 (AV.asMp r5.1).bind fun m6 =>
 (entsOf r5.2 (.mp m6)).bind fun m7 =>
 (findM .i64 n2 m7).bind fun f8 =>
 (AV.asI .i64 (lookV f8 (.i .i64 0))).bind fun n9 =>
 some ((.i .i64 (IntKind.i64.wrap (n9 - 1))), r5.2)
 else none
def reach_Way : Sm O := reach_Way_c reach_marked
theorem reach_Way_ent : Entered Try.prog 77 := Try.call77
theorem reach_Way_run (k79 : Sm O) : run (O := O) Try.prog [(79, k79)] Try.f77 (.n .z .z) = reach_Way_c k79 := by kernel_rfl
theorem reach_Way_sound : FSound RO Try.prog 77 reach_Way := sdf (reach_Way_run _) (gcons reach_marked_ent reach_marked_sound <| gnil) Try.func77 (by kernel_rfl)
def reach_Keep_L2 (l23 : SA × Nat) (k60 : Sm O) (p0 : Option (Bid × Nat)) : List AV × AH O -> Option ((List AV × AH O) ⊕ (List AV × AH O)) := (fun r24 =>
 (AV.asI .i64 (r24.1.getD 0 .u)).bind fun n25 =>
 (bif (decide (n25 < (l23.2 : Int))) then
 (bif ((decide ((0 : Int) <= n25)) && (decide (n25 < (l23.2 : Int)))) then
 (SA.ref l23.1).bind fun q26 =>
 ldI r24.2 q26.1 (q26.2 + (n25.toNat * 1)) fun n28 =>
 (k60 [(.p p0), (.i .i64 n28)] r24.2).bind fun r29 =>
 (AV.asI .i64 r29.1).bind fun n30 =>
 some (Sum.inl ([(.i .i64 (IntKind.i64.wrap (n25 + 1)))], r29.2))
 else none)
 else some (Sum.inr ([], r24.2))))
def reach_Keep_L1 (l5 : SA × Nat) (m3 : Option Nat) : List AV × AH O -> Option ((List AV × AH O) ⊕ (List AV × AH O)) := (fun r6 =>
 (AV.asSl (r6.1.getD 0 .u)).bind fun l7 =>
 (AV.asI .i64 (r6.1.getD 1 .u)).bind fun n8 =>
 (bif (decide (n8 < (l5.2 : Int))) then
 (bif ((decide ((0 : Int) <= n8)) && (decide (n8 < (l5.2 : Int)))) then
 (SA.ref l5.1).bind fun q9 =>
 ldI r6.2 q9.1 (q9.2 + (n8.toNat * 1)) fun n11 =>
 (entsOf r6.2 (.mp m3)).bind fun m12 =>
 (findM .i64 n11 m12).bind fun f13 =>
 (AV.asI .i64 (lookV f13 (.i .i64 0))).bind fun n14 =>
 ((bif ((n14 : Int) == 0) then
 let h15 := r6.2.bump 2
 let h16 := h15.put r6.2.next (.cells true 3 [(.i .i64 n11)])
 (h16.rdSl (.loc (.n r6.2.next) 0 1) 1 1).bind fun new17 =>
 (bif (Nat.ble ((l7.2 + 1) * 9) 35184372088832) then
 (h16.appSl (r6.2.next + 1) 3 1 l7.1 l7.2 1 new17).bind fun r18 =>
 (AV.asSl r18.1).bind fun l19 =>
 some ([(.sl l19.1 l19.2)], r18.2)
 else none)
 else some ([(.sl l7.1 l7.2)], r6.2)) : Option (List AV × AH O)).bind fun r20 =>
 (AV.asSl (r20.1.getD 0 .u)).bind fun l21 =>
 some (Sum.inl ([(.sl l21.1 l21.2), (.i .i64 (IntKind.i64.wrap (n8 + 1)))], r20.2))
 else none)
 else some (Sum.inr ([(.sl l7.1 l7.2)], r6.2))))
def reach_Keep_c (k79 k25 k60 : Sm O) : Sm O := fun xs h =>
 bif Nat.beq xs.length 2 then
 (AV.asP (xs.getD 0 .u)).bind fun p0 =>
 gtS xs 1 fun l1 =>
 (k79 [(.p p0), (.sl l1.1 l1.2)] h).bind fun r2 =>
 (AV.asMp r2.1).bind fun m3 =>
 (k25 [(.p p0)] r2.2).bind fun r4 =>
 (AV.asSl r4.1).bind fun l5 =>
 (loopF (S := List AV × AH O) (T := List AV × AH O) (reach_Keep_L1 l5 m3) ([(.sl .nil 0), (.i .i64 0)], r4.2)).bind fun r22 =>
 (AV.asSl (r22.1.getD 0 .u)).bind fun l23 =>
 (loopF (S := List AV × AH O) (T := List AV × AH O) (reach_Keep_L2 l23 k60 p0) ([(.i .i64 0)], r22.2)).bind fun r31 =>
 some ((.sl l23.1 l23.2), r31.2)
 else none
def reach_Keep : Sm O := reach_Keep_c reach_marked graph_Graph__Ids graph_Graph__Drop
theorem reach_Keep_ent : Entered Try.prog 35 := Try.call35
theorem reach_Keep_run (k79 k25 k60 : Sm O) : run (O := O) Try.prog [(79, k79), (25, k25), (60, k60)] Try.f35 (.n .z (.n .z (.n .z (.n (.n .z (.n (.lp false 0 [(5, .one .sl), (17, .one (.i .i64))] [(5, .one .sl)] (.n .z (.n .z (.n (.n (.n .z (.n .z (.j false [(5, .one .sl)] .z .z))) .z) .z)))) .z)) (.n (.n .z (.n (.lp false 2 [(32, .one (.i .i64))] [] (.n .z (.n .z (.n (.n .z .z) .z)))) .z)) .z))))) = reach_Keep_c k79 k25 k60 := by kernel_rfl
theorem reach_Keep_sound : FSound RO Try.prog 35 reach_Keep := sdf (reach_Keep_run _ _ _) (gcons reach_marked_ent reach_marked_sound <| gcons graph_Graph__Ids_ent graph_Graph__Ids_sound <| gcons graph_Graph__Drop_ent graph_Graph__Drop_sound <| gnil) Try.func35 (by kernel_rfl)
def shape_Right_c (k62 : Sm O) : Sm O := fun xs h =>
 bif Nat.beq xs.length 1 then
 (AV.asAgg 2 (xs.getD 0 .u)).bind fun c0 =>
 gtI c0 0 fun n1 =>
 gtI c0 1 fun n2 =>
 let h3 := h.bump 1
 let h4 := h3.put h.next (.cells true 51 [(.i .i64 n1), (.i .i64 n2)])
 ldI h4 (.n h.next) 0 fun n6 =>
 ldI h4 (.n h.next) 1 fun n8 =>
 (k62 [(.agg [(.i .i64 n6), (.i .i64 n8), (.i .i64 0), (.i .i64 0), (.b false)])] h4).bind fun r9 =>
 (AV.asI .i64 r9.1).bind fun n10 =>
 some ((.b ((n10 : Int) == 0)), r9.2)
 else none
def shape_Right : Sm O := shape_Right_c header_Check
theorem shape_Right_ent : Entered Try.prog 127 := Try.call127
theorem shape_Right_run (k62 : Sm O) : run (O := O) Try.prog [(62, k62)] Try.f127 (.n .z .z) = shape_Right_c k62 := by kernel_rfl
theorem shape_Right_sound : FSound RO Try.prog 127 shape_Right := sdf (shape_Right_run _) (gcons header_Check_ent header_Check_sound <| gnil) Try.func127 (by kernel_rfl)
def header_Words_c : Sm O := fun xs h =>
 bif Nat.beq xs.length 1 then
 (AV.asAgg 5 (xs.getD 0 .u)).bind fun c0 =>
 gtI c0 0 fun n1 =>
 gtI c0 1 fun n2 =>
 gtI c0 2 fun n3 =>
 gtI c0 3 fun n4 =>
 (AV.asB (c0.getD 4 .u)).bind fun b5 =>
 let h6 := h.bump 1
 let h7 := h6.put h.next (.cells true 53 [(.i .i64 n1), (.i .i64 n2), (.i .i64 n3), (.i .i64 n4), (.b b5)])
 ldI h7 (.n h.next) 0 fun n9 =>
 ldI h7 (.n h.next) 1 fun n11 =>
 let v12 : Int := (IntKind.i64.wrap ((IntKind.i64.wrap (1 + n9)) + n11))
 some ((.i .i64 v12), h7)
 else none
def header_Words : Sm O := header_Words_c
theorem header_Words_ent : Entered Try.prog 128 := Try.call128
theorem header_Words_run : run (O := O) Try.prog [] Try.f128 (.n .z .z) = header_Words_c  := by kernel_rfl
theorem header_Words_sound : FSound RO Try.prog 128 header_Words := sdf header_Words_run (gnil) Try.func128 (by kernel_rfl)
def shape_Words_c (k127 k128 : Sm O) : Sm O := fun xs h =>
 bif Nat.beq xs.length 1 then
 (AV.asAgg 2 (xs.getD 0 .u)).bind fun c0 =>
 gtI c0 0 fun n1 =>
 gtI c0 1 fun n2 =>
 let h3 := h.bump 1
 let h4 := h3.put h.next (.cells true 51 [(.i .i64 n1), (.i .i64 n2)])
 ldI h4 (.n h.next) 0 fun n6 =>
 ldI h4 (.n h.next) 1 fun n8 =>
 (k127 [(.agg [(.i .i64 n6), (.i .i64 n8)])] h4).bind fun r9 =>
 (AV.asB r9.1).bind fun b10 =>
 (bif (!b10) then
 some ((.i .i64 0), r9.2)
 else ldI r9.2 (.n h.next) 0 fun n12 =>
 ldI r9.2 (.n h.next) 1 fun n14 =>
 (k128 [(.agg [(.i .i64 n12), (.i .i64 n14), (.i .i64 0), (.i .i64 0), (.b false)])] r9.2).bind fun r15 =>
 (AV.asI .i64 r15.1).bind fun n16 =>
 some ((.i .i64 n16), r15.2))
 else none
def shape_Words : Sm O := shape_Words_c shape_Right header_Words
theorem shape_Words_ent : Entered Try.prog 114 := Try.call114
theorem shape_Words_run (k127 k128 : Sm O) : run (O := O) Try.prog [(127, k127), (128, k128)] Try.f114 (.n .z (.n (.n .z (.n .z .z)) .z)) = shape_Words_c k127 k128 := by kernel_rfl
theorem shape_Words_sound : FSound RO Try.prog 114 shape_Words := sdf (shape_Words_run _ _) (gcons shape_Right_ent shape_Right_sound <| gcons header_Words_ent header_Words_sound <| gnil) Try.func114 (by kernel_rfl)
def shape_Large_c (k114 : Sm O) : Sm O := fun xs h =>
 bif Nat.beq xs.length 2 then
 (AV.asAgg 2 (xs.getD 0 .u)).bind fun c0 =>
 gtI c0 0 fun n1 =>
 gtI c0 1 fun n2 =>
 gtI xs 1 fun n3 =>
 let h4 := h.bump 1
 let h5 := h4.put h.next (.cells true 51 [(.i .i64 n1), (.i .i64 n2)])
 ldI h5 (.n h.next) 0 fun n7 =>
 ldI h5 (.n h.next) 1 fun n9 =>
 (k114 [(.agg [(.i .i64 n7), (.i .i64 n9)])] h5).bind fun r10 =>
 (AV.asI .i64 r10.1).bind fun n11 =>
 some ((.b (decide (n11 > n3))), r10.2)
 else none
def shape_Large : Sm O := shape_Large_c shape_Words
theorem shape_Large_ent : Entered Try.prog 115 := Try.call115
theorem shape_Large_run (k114 : Sm O) : run (O := O) Try.prog [(114, k114)] Try.f115 (.n .z .z) = shape_Large_c k114 := by kernel_rfl
theorem shape_Large_sound : FSound RO Try.prog 115 shape_Large := sdf (shape_Large_run _) (gcons shape_Words_ent shape_Words_sound <| gnil) Try.func115 (by kernel_rfl)
def shape_Charge_c (k114 k115 : Sm O) : Sm O := fun xs h =>
 bif Nat.beq xs.length 2 then
 (AV.asAgg 2 (xs.getD 0 .u)).bind fun c0 =>
 gtI c0 0 fun n1 =>
 gtI c0 1 fun n2 =>
 gtI xs 1 fun n3 =>
 let h4 := h.bump 1
 let h5 := h4.put h.next (.cells true 51 [(.i .i64 n1), (.i .i64 n2)])
 ldI h5 (.n h.next) 0 fun n7 =>
 ldI h5 (.n h.next) 1 fun n9 =>
 (k114 [(.agg [(.i .i64 n7), (.i .i64 n9)])] h5).bind fun r10 =>
 (AV.asI .i64 r10.1).bind fun n11 =>
 ((bif ((decide (n11 > 0)) == true) then
 ldI r10.2 (.n h.next) 0 fun n13 =>
 ldI r10.2 (.n h.next) 1 fun n15 =>
 (k115 [(.agg [(.i .i64 n13), (.i .i64 n15)]), (.i .i64 n3)] r10.2).bind fun r16 =>
 (AV.asB r16.1).bind fun b17 =>
 some ([(.b b17)], r16.2)
 else some ([(.b false)], r10.2)) : Option (List AV × AH O)).bind fun r18 =>
 (AV.asB (r18.1.getD 0 .u)).bind fun b19 =>
 (bif b19 then
 some ((.i .i64 (IntKind.i64.wrap (n11 + 6))), r18.2)
 else some ((.i .i64 n11), r18.2))
 else none
def shape_Charge : Sm O := shape_Charge_c shape_Words shape_Large
theorem shape_Charge_ent : Entered Try.prog 97 := Try.call97
theorem shape_Charge_run (k114 k115 : Sm O) : run (O := O) Try.prog [(114, k114), (115, k115)] Try.f97 (.n .z (.n .z (.n (.n (.g [(2, 3, [(14, .one .b)])]) (.n .z .z)) .z))) = shape_Charge_c k114 k115 := by kernel_rfl
theorem shape_Charge_sound : FSound RO Try.prog 97 shape_Charge := sdf (shape_Charge_run _ _) (gcons shape_Words_ent shape_Words_sound <| gcons shape_Large_ent shape_Large_sound <| gnil) Try.func97 (by kernel_rfl)
def reach_Words_L1 (l2 : SA × Nat) (k36 : Sm O) (p0 : Option (Bid × Nat)) (h : AH O) (k97 : Sm O) (n1 : Int) : List AV × AH O -> Option ((List AV × AH O) ⊕ (List AV × AH O)) := (fun r5 =>
 (AV.asI .i64 (r5.1.getD 0 .u)).bind fun n6 =>
 (AV.asI .i64 (r5.1.getD 1 .u)).bind fun n7 =>
 (bif (decide (n7 < (l2.2 : Int))) then
 (bif ((decide ((0 : Int) <= n7)) && (decide (n7 < (l2.2 : Int)))) then
 (SA.ref l2.1).bind fun q8 =>
 ldI r5.2 q8.1 (q8.2 + (n7.toNat * 1)) fun n10 =>
 let h11 := r5.2.bump 1
 (k36 [(.p p0), (.i .i64 n10)] h11).bind fun r12 =>
 (AV.asTup 2 r12.1).bind fun c13 =>
 (AV.asAgg 5 (c13.getD 0 .u)).bind fun c14 =>
 gtI c14 0 fun n15 =>
 gtI c14 1 fun n16 =>
 gtI c14 2 fun n17 =>
 gtI c14 3 fun n18 =>
 (AV.asB (c14.getD 4 .u)).bind fun b19 =>
 gtI c13 1 fun n20 =>
 let h21 := r12.2.put r5.2.next (.cells true 53 [(.i .i64 0), (.i .i64 0), (.i .i64 0), (.i .i64 0), (.b false)])
 (h21.st (.n r5.2.next) 0 [(.i .i64 n15), (.i .i64 n16), (.i .i64 n17), (.i .i64 n18), (.b b19)]).bind fun h22 =>
 ((bif (((n20 : Int) == 0) == true) then
 (entsOf h22 (.mp (some h.next))).bind fun m23 =>
 (findM .i64 n10 m23).bind fun f24 =>
 (AV.asI .i64 (lookV f24 (.i .i64 0))).bind fun n25 =>
 some ([(.b ((n25 : Int) == 0))], h22)
 else some ([(.b false)], h22)) : Option (List AV × AH O)).bind fun r26 =>
 (AV.asB (r26.1.getD 0 .u)).bind fun b27 =>
 ((bif b27 then
 ldI r26.2 (.n r5.2.next) 0 fun n29 =>
 ldI r26.2 (.n r5.2.next) 1 fun n31 =>
 (k97 [(.agg [(.i .i64 n29), (.i .i64 n31)]), (.i .i64 n1)] r26.2).bind fun r32 =>
 (AV.asI .i64 r32.1).bind fun n33 =>
 some ([(.i .i64 (IntKind.i64.wrap (n6 + n33)))], r32.2)
 else some ([(.i .i64 n6)], r26.2)) : Option (List AV × AH O)).bind fun r34 =>
 (AV.asI .i64 (r34.1.getD 0 .u)).bind fun n35 =>
 (entsOf r34.2 (.mp (some h.next))).bind fun m36 =>
 (findM .i64 n10 m36).bind fun f37 =>
 (AV.asI .i64 (lookV f37 (.i .i64 0))).bind fun n38 =>
 Option.bind (some h.next) fun b39 =>
 (entsOf r34.2 (.mp (some b39))).bind fun m40 =>
 (findM .i64 n10 m40).bind fun f41 =>
 let h42 := r34.2.put b39 (updB r34.2 b39 f41 m40 (.i .i64 n10) (.i .i64 (IntKind.i64.wrap (n38 + 1))))
 some (Sum.inl ([(.i .i64 n35), (.i .i64 (IntKind.i64.wrap (n7 + 1)))], h42))
 else none)
 else some (Sum.inr ([(.i .i64 n6)], r5.2))))
def reach_Words_c (k36 k97 : Sm O) : Sm O := fun xs h =>
 bif Nat.beq xs.length 3 then
 (AV.asP (xs.getD 0 .u)).bind fun p0 =>
 gtI xs 1 fun n1 =>
 gtS xs 2 fun l2 =>
 let h3 := h.bump 1
 let h4 := h3.put h.next (.map [] [] 0)
 (loopF (S := List AV × AH O) (T := List AV × AH O) (reach_Words_L1 l2 k36 p0 h k97 n1) ([(.i .i64 0), (.i .i64 0)], h4)).bind fun r43 =>
 (AV.asI .i64 (r43.1.getD 0 .u)).bind fun n44 =>
 some ((.i .i64 n44), r43.2)
 else none
def reach_Words : Sm O := reach_Words_c graph_Graph__Header shape_Charge
theorem reach_Words_ent : Entered Try.prog 78 := Try.call78
theorem reach_Words_run (k36 k97 : Sm O) : run (O := O) Try.prog [(36, k36), (97, k97)] Try.f78 (.n .z (.n .z (.n .z (.n (.n .z (.n (.lp false 0 [(7, .one (.i .i64)), (16, .one (.i .i64))] [(7, .one (.i .i64))] (.n .z (.n .z (.n (.n (.n .z (.n .z (.n (.n (.g [(2, 4, [(33, .one .b)])]) (.j false [(7, .one (.i .i64))] .z .z)) .z))) .z) .z)))) .z)) .z)))) = reach_Words_c k36 k97 := by kernel_rfl
theorem reach_Words_sound : FSound RO Try.prog 78 reach_Words := sdf (reach_Words_run _ _) (gcons graph_Graph__Header_ent graph_Graph__Header_sound <| gcons shape_Charge_ent shape_Charge_sound <| gnil) Try.func78 (by kernel_rfl)
def law37_awake_c (k76 k33 k34 k30 k77 k35 k78 : Sm O) : Sm O := fun xs h =>
 bif Nat.beq xs.length 0 then
 (k76 [] h).bind fun r0 =>
 (AV.asSl r0.1).bind fun l1 =>
 (k33 [(.sl l1.1 l1.2)] r0.2).bind fun r2 =>
 (AV.asTup 3 r2.1).bind fun c3 =>
 (AV.asP (c3.getD 0 .u)).bind fun p4 =>
 gtS c3 1 fun l5 =>
 (AV.asB (c3.getD 2 .u)).bind fun b6 =>
 let h7 := r2.2.bump 2
 ((bif ((!b6) == false) then
 let h8 := h7.put r2.2.next (.cells true 3 [(.i .i64 1)])
 (k34 [(.p p4), (.sl (.loc (.n r2.2.next) 0 1) 1)] h8).bind fun r9 =>
 (AV.asSl r9.1).bind fun l10 =>
 let h11 := r9.2.put (r2.2.next + 1) (.cells true 3 [(.i .i64 1), (.i .i64 2), (.i .i64 3)])
 (k30 [(.sl l10.1 l10.2), (.sl (.loc (.n (r2.2.next + 1)) 0 1) 3)] h11).bind fun r12 =>
 (AV.asB r12.1).bind fun b13 =>
 some ([(.b (!b13))], r12.2)
 else some ([(.b true)], h7)) : Option (List AV × AH O)).bind fun r14 =>
 (AV.asB (r14.1.getD 0 .u)).bind fun b15 =>
 ((bif (b15 == false) then
 (k77 [(.p p4), (.i .i64 1), (.i .i64 3)] r14.2).bind fun r16 =>
 (AV.asI .i64 r16.1).bind fun n17 =>
 some ([(.b ((n17 : Int) != 2))], r16.2)
 else some ([(.b true)], r14.2)) : Option (List AV × AH O)).bind fun r18 =>
 (AV.asB (r18.1.getD 0 .u)).bind fun b19 =>
 (bif b19 then
 some ((.b false), r18.2)
 else let h20 := r18.2.bump 3
 let h21 := h20.put r18.2.next (.cells true 3 [(.i .i64 1)])
 (k35 [(.p p4), (.sl (.loc (.n r18.2.next) 0 1) 1)] h21).bind fun r22 =>
 (AV.asSl r22.1).bind fun l23 =>
 let h24 := r22.2.put (r18.2.next + 1) (.cells true 3 [(.i .i64 4)])
 (k30 [(.sl l23.1 l23.2), (.sl (.loc (.n (r18.2.next + 1)) 0 1) 1)] h24).bind fun r25 =>
 (AV.asB r25.1).bind fun b26 =>
 ((bif (b26 == true) then
 let h27 := r25.2.put ((r18.2.next + 1) + 1) (.cells true 3 [(.i .i64 1), (.i .i64 2)])
 (k78 [(.p p4), (.i .i64 8), (.sl (.loc (.n ((r18.2.next + 1) + 1)) 0 1) 2)] h27).bind fun r28 =>
 (AV.asI .i64 r28.1).bind fun n29 =>
 some ([(.b ((n29 : Int) == 4))], r28.2)
 else some ([(.b false)], r25.2)) : Option (List AV × AH O)).bind fun r30 =>
 (AV.asB (r30.1.getD 0 .u)).bind fun b31 =>
 some ((.b b31), r30.2))
 else none
def law37_awake : Sm O := law37_awake_c law37_line law37_made reach_From haymowref02_Same reach_Way reach_Keep reach_Words
theorem law37_awake_ent : Entered Try.prog 32 := Try.call32
theorem law37_awake_run (k76 k33 k34 k30 k77 k35 k78 : Sm O) : run (O := O) Try.prog [(76, k76), (33, k33), (34, k34), (30, k30), (77, k77), (35, k35), (78, k78)] Try.f32 (.n .z (.n .z (.n (.n (.g [(2, 6, [(19, .one .b)]), (10, 3, [(24, .one .b)])]) (.n .z .z)) (.n (.g [(5, 4, [(35, .one .b)])]) .z)))) = law37_awake_c k76 k33 k34 k30 k77 k35 k78 := by kernel_rfl
theorem law37_awake_sound : FSound RO Try.prog 32 law37_awake := sdf (law37_awake_run _ _ _ _ _ _ _) (gcons law37_line_ent law37_line_sound <| gcons law37_made_ent law37_made_sound <| gcons reach_From_ent reach_From_sound <| gcons haymowref02_Same_ent haymowref02_Same_sound <| gcons reach_Way_ent reach_Way_sound <| gcons reach_Keep_ent reach_Keep_sound <| gcons reach_Words_ent reach_Words_sound <| gnil) Try.func32 (by kernel_rfl)
def law37_ReachKeeps_L2 (l16 : SA × Nat) (k36 : Sm O) (p10 : Option (Bid × Nat)) (l11 : SA × Nat) (k26 : Sm O) (k37 : Sm O) (k30 : Sm O) : List AV × AH O -> Option ((List AV × AH O) ⊕ ((List AV × AH O) ⊕ (AV × AH O))) := (fun r44 =>
 (AV.asI .i64 (r44.1.getD 0 .u)).bind fun n45 =>
 (bif (decide (n45 < (l16.2 : Int))) then
 let h46 := r44.2.bump 1
 (bif ((decide ((0 : Int) <= n45)) && (decide (n45 < (l16.2 : Int)))) then
 (SA.ref l16.1).bind fun q47 =>
 ldI h46 q47.1 (q47.2 + (n45.toNat * 1)) fun n49 =>
 (k36 [(.p p10), (.i .i64 n49)] h46).bind fun r50 =>
 (AV.asTup 2 r50.1).bind fun c51 =>
 (AV.asAgg 5 (c51.getD 0 .u)).bind fun c52 =>
 gtI c52 0 fun n53 =>
 gtI c52 1 fun n54 =>
 gtI c52 2 fun n55 =>
 gtI c52 3 fun n56 =>
 (AV.asB (c52.getD 4 .u)).bind fun b57 =>
 gtI c51 1 fun n58 =>
 let h59 := r50.2.put r44.2.next (.cells true 53 [(.i .i64 0), (.i .i64 0), (.i .i64 0), (.i .i64 0), (.b false)])
 (h59.st (.n r44.2.next) 0 [(.i .i64 n53), (.i .i64 n54), (.i .i64 n55), (.i .i64 n56), (.b b57)]).bind fun h60 =>
 ldI h60 (.n r44.2.next) 0 fun n62 =>
 ldI h60 (.n r44.2.next) 1 fun n64 =>
 ldI h60 (.n r44.2.next) 2 fun n66 =>
 ldI h60 (.n r44.2.next) 3 fun n68 =>
 (h60.ld (.n r44.2.next) 4).bind fun w69 =>
 (AV.asB w69).bind fun b70 =>
 (bif ((decide ((0 : Int) <= n45)) && (decide (n45 < (l16.2 : Int)))) then
 (SA.ref l16.1).bind fun q71 =>
 ldI h60 q71.1 (q71.2 + (n45.toNat * 1)) fun n73 =>
 (bif ((decide ((0 : Int) <= (IntKind.i64.wrap (n73 - 1)))) && (decide ((IntKind.i64.wrap (n73 - 1)) < (l11.2 : Int)))) then
 (SA.ref l11.1).bind fun q74 =>
 ldI h60 q74.1 (q74.2 + ((IntKind.i64.wrap (n73 - 1)).toNat * 8)) fun n76 =>
 ldI h60 q74.1 ((q74.2 + ((IntKind.i64.wrap (n73 - 1)).toNat * 8)) + 1) fun n78 =>
 ldI h60 q74.1 (((q74.2 + ((IntKind.i64.wrap (n73 - 1)).toNat * 8)) + 1) + 1) fun n80 =>
 ldI h60 q74.1 ((((q74.2 + ((IntKind.i64.wrap (n73 - 1)).toNat * 8)) + 1) + 1) + 1) fun n82 =>
 (h60.ld q74.1 (((((q74.2 + ((IntKind.i64.wrap (n73 - 1)).toNat * 8)) + 1) + 1) + 1) + 1)).bind fun w83 =>
 (AV.asB w83).bind fun b84 =>
 ((bif ((!((((n62 : Int) == n76) && (((n64 : Int) == n78) && true)) && (((n66 : Int) == n80) && (((n68 : Int) == n82) && ((b70 == b84) && true))))) == false) then
 some ([(.b ((n58 : Int) != 0))], h60)
 else some ([(.b true)], h60)) : Option (List AV × AH O)).bind fun r85 =>
 (AV.asB (r85.1.getD 0 .u)).bind fun b86 =>
 ((bif (b86 == false) then
 (bif ((decide ((0 : Int) <= n45)) && (decide (n45 < (l16.2 : Int)))) then
 (SA.ref l16.1).bind fun q87 =>
 ldI r85.2 q87.1 (q87.2 + (n45.toNat * 1)) fun n89 =>
 (bif ((decide ((0 : Int) <= n45)) && (decide (n45 < (l16.2 : Int)))) then
 (SA.ref l16.1).bind fun q90 =>
 ldI r85.2 q90.1 (q90.2 + (n45.toNat * 1)) fun n92 =>
 (k26 [(.p p10), (.i .i64 n89)] r85.2).bind fun r93 =>
 (AV.asSl r93.1).bind fun l94 =>
 (chkE (r93.2.ld q90.1 (q90.2 + (n45.toNat * 1))) (some (.i .i64 n92))).bind fun _ =>
 (k37 [(.sl l11.1 l11.2), (.i .i64 n92)] r93.2).bind fun r95 =>
 (AV.asSl r95.1).bind fun l96 =>
 (k30 [(.sl l94.1 l94.2), (.sl l96.1 l96.2)] r95.2).bind fun r97 =>
 (AV.asB r97.1).bind fun b98 =>
 some ([(.b (!b98))], r97.2)
 else none)
 else none)
 else some ([(.b true)], r85.2)) : Option (List AV × AH O)).bind fun r99 =>
 (AV.asB (r99.1.getD 0 .u)).bind fun b100 =>
 (bif b100 then
 ((some ((.b false), r99.2) : Option (AV × AH O)).map fun r => Sum.inr (Sum.inr r))
 else some (Sum.inl ([(.i .i64 (IntKind.i64.wrap (n45 + 1)))], r99.2)))
 else none)
 else none)
 else none)
 else some (Sum.inr (Sum.inl ([], r44.2)))))
def law37_ReachKeeps_L1 (l18 : SA × Nat) (k27 : Sm O) (p10 : Option (Bid × Nat)) : List AV × AH O -> Option ((List AV × AH O) ⊕ ((List AV × AH O) ⊕ (AV × AH O))) := (fun r36 =>
 (AV.asI .i64 (r36.1.getD 0 .u)).bind fun n37 =>
 (bif (decide (n37 < (l18.2 : Int))) then
 (bif ((decide ((0 : Int) <= n37)) && (decide (n37 < (l18.2 : Int)))) then
 (SA.ref l18.1).bind fun q38 =>
 ldI r36.2 q38.1 (q38.2 + (n37.toNat * 1)) fun n40 =>
 (k27 [(.p p10), (.i .i64 n40)] r36.2).bind fun r41 =>
 (AV.asB r41.1).bind fun b42 =>
 (bif b42 then
 ((some ((.b false), r41.2) : Option (AV × AH O)).map fun r => Sum.inr (Sum.inr r))
 else some (Sum.inl ([(.i .i64 (IntKind.i64.wrap (n37 + 1)))], r41.2)))
 else none)
 else some (Sum.inr (Sum.inl ([], r36.2)))))
def law37_ReachKeeps_c (k32 k21 k33 k25 k34 k35 k30 k27 k36 k26 k37 : Sm O) : Sm O := fun xs h =>
 bif Nat.beq xs.length 2 then
 gtS xs 0 fun l0 =>
 gtS xs 1 fun l1 =>
 (k32 [] h).bind fun r2 =>
 (AV.asB r2.1).bind fun b3 =>
 (bif (!b3) then
 some ((.b false), r2.2)
 else (k21 [(.sl l0.1 l0.2)] r2.2).bind fun r4 =>
 (AV.asB r4.1).bind fun b5 =>
 ((bif ((!b5) == false) then
 some ([(.b (decide ((l1.2 : Int) > 20)))], r4.2)
 else some ([(.b true)], r4.2)) : Option (List AV × AH O)).bind fun r6 =>
 (AV.asB (r6.1.getD 0 .u)).bind fun b7 =>
 (bif b7 then
 some ((.b true), r6.2)
 else (k33 [(.sl l0.1 l0.2)] r6.2).bind fun r8 =>
 (AV.asTup 3 r8.1).bind fun c9 =>
 (AV.asP (c9.getD 0 .u)).bind fun p10 =>
 gtS c9 1 fun l11 =>
 (AV.asB (c9.getD 2 .u)).bind fun b12 =>
 (bif (!b12) then
 some ((.b false), r8.2)
 else (k25 [(.p p10)] r8.2).bind fun r13 =>
 (AV.asSl r13.1).bind fun l14 =>
 (k34 [(.p p10), (.sl l1.1 l1.2)] r13.2).bind fun r15 =>
 (AV.asSl r15.1).bind fun l16 =>
 (k35 [(.p p10), (.sl l1.1 l1.2)] r15.2).bind fun r17 =>
 (AV.asSl r17.1).bind fun l18 =>
 (k25 [(.p p10)] r17.2).bind fun r19 =>
 (AV.asSl r19.1).bind fun l20 =>
 (k30 [(.sl l20.1 l20.2), (.sl l16.1 l16.2)] r19.2).bind fun r21 =>
 (AV.asB r21.1).bind fun b22 =>
 ((bif ((!b22) == false) then
 let v23 : Int := (IntKind.i64.wrap ((l16.2 : Int) + (l18.2 : Int)))
 some ([(.b ((v23 : Int) != (l14.2 : Int)))], r21.2)
 else some ([(.b true)], r21.2)) : Option (List AV × AH O)).bind fun r24 =>
 (AV.asB (r24.1.getD 0 .u)).bind fun b25 =>
 ((bif (b25 == false) then
 (k35 [(.p p10), (.sl l1.1 l1.2)] r24.2).bind fun r26 =>
 (AV.asSl r26.1).bind fun l27 =>
 some ([(.b (((l27.2 : Int) : Int) != 0))], r26.2)
 else some ([(.b true)], r24.2)) : Option (List AV × AH O)).bind fun r28 =>
 (AV.asB (r28.1.getD 0 .u)).bind fun b29 =>
 ((bif (b29 == false) then
 (k34 [(.p p10), (.sl l1.1 l1.2)] r28.2).bind fun r30 =>
 (AV.asSl r30.1).bind fun l31 =>
 (k30 [(.sl l31.1 l31.2), (.sl l16.1 l16.2)] r30.2).bind fun r32 =>
 (AV.asB r32.1).bind fun b33 =>
 some ([(.b (!b33))], r32.2)
 else some ([(.b true)], r28.2)) : Option (List AV × AH O)).bind fun r34 =>
 (AV.asB (r34.1.getD 0 .u)).bind fun b35 =>
 (bif b35 then
 some ((.b false), r34.2)
 else bindS (S := List AV × AH O) (R := (AV × AH O)) (loopF (S := List AV × AH O) (T := (List AV × AH O) ⊕ (AV × AH O)) (law37_ReachKeeps_L1 l18 k27 p10) ([(.i .i64 0)], r34.2)) fun r43 =>
 bindS (S := List AV × AH O) (R := (AV × AH O)) (loopF (S := List AV × AH O) (T := (List AV × AH O) ⊕ (AV × AH O)) (law37_ReachKeeps_L2 l16 k36 p10 l11 k26 k37 k30) ([(.i .i64 0)], r43.2)) fun r101 =>
 some ((.b true), r101.2)))))
 else none
def law37_ReachKeeps : Sm O := law37_ReachKeeps_c law37_awake law36_Few law37_made graph_Graph__Ids reach_From reach_Keep haymowref02_Same graph_Graph__Is graph_Graph__Header graph_Graph__Edges haymowref36_Edges
theorem law37_ReachKeeps_run (k32 k21 k33 k25 k34 k35 k30 k27 k36 k26 k37 : Sm O) : run (O := O) Try.prog [(32, k32), (21, k21), (33, k33), (25, k25), (34, k34), (35, k35), (30, k30), (27, k27), (36, k36), (26, k26), (37, k37)] Try.f7 (.n .z (.n (.n .z (.n .z .z)) (.n (.n (.g [(3, 3, [(24, .one .b)])]) (.n .z .z)) (.n .z (.n (.n .z (.n .z .z)) (.n .z (.n .z (.n .z (.n (.n (.g [(5, 8, [(55, .one .b)]), (15, 5, [(62, .one .b)]), (22, 6, [(70, .one .b)])]) (.n .z .z)) (.n (.n .z (.n (.lp true 0 [(11, .one (.i .i64))] [] (.n (.n .z .z) (.n (.n (.n .z (.n .z .z)) .z) .z))) .z)) (.n (.n .z (.n (.lp true 2 [(12, .one (.i .i64))] [] (.n (.n .z .z) (.n (.n (.n .z (.n (.d [(11, 2, [(112, .one .b)]), (15, 14, [(128, .one .b)])] [0, 1, 2, 3, 4, 5, 6, 7, 8, 9, 10, 11, 12, 13, 14, 15, 16, 17, 18, 19, 20, 22, 23, 24, 25, 26, 21, 27, 28, 29, 30] [0, 0, 0, 0, 12, 28, 60, 126, 254, 510, 1023, 2047, 4095, 8191, 16383, 32767, 65535, 65535, 65535, 458751, 983039, 2097151, 65535, 65535, 65535, 25231359, 58785791, 134217727, 268435455, 536870911, 1073741823]) (.n .z .z))) .z) .z))) .z)) .z))))))))))) = law37_ReachKeeps_c k32 k21 k33 k25 k34 k35 k30 k27 k36 k26 k37 := by kernel_rfl
theorem law37_ReachKeeps_sound : FSound RO Try.prog 7 law37_ReachKeeps := sdf (law37_ReachKeeps_run _ _ _ _ _ _ _ _ _ _ _) (gcons law37_awake_ent law37_awake_sound <| gcons law36_Few_ent law36_Few_sound <| gcons law37_made_ent law37_made_sound <| gcons graph_Graph__Ids_ent graph_Graph__Ids_sound <| gcons reach_From_ent reach_From_sound <| gcons reach_Keep_ent reach_Keep_sound <| gcons haymowref02_Same_ent haymowref02_Same_sound <| gcons graph_Graph__Is_ent graph_Graph__Is_sound <| gcons graph_Graph__Header_ent graph_Graph__Header_sound <| gcons graph_Graph__Edges_ent graph_Graph__Edges_sound <| gcons haymowref36_Edges_ent haymowref36_Edges_sound <| gnil) Try.func7 (by kernel_rfl)
def law37_ReachWays_L5 (l42 : SA × Nat) (n17 : Int) (l14 : SA × Nat) (n22 : Int) (n28 : Int) : List AV × AH O -> Option ((List AV × AH O) ⊕ ((List AV × AH O) ⊕ ((List AV × AH O) ⊕ ((List AV × AH O) ⊕ ((List AV × AH O) ⊕ ((List AV × AH O) ⊕ ((List AV × AH O) ⊕ ((List AV × AH O) ⊕ ((List AV × AH O) ⊕ ((List AV × AH O) ⊕ (AV × AH O))))))))))) := (fun r43 =>
 (AV.asI .i64 (r43.1.getD 0 .u)).bind fun n44 =>
 (AV.asI .i64 (r43.1.getD 1 .u)).bind fun n45 =>
 (bif (decide (n45 < (l42.2 : Int))) then
 (bif ((decide ((0 : Int) <= n45)) && (decide (n45 < (l42.2 : Int)))) then
 (SA.ref l42.1).bind fun q46 =>
 ldI r43.2 q46.1 (q46.2 + (n45.toNat * 1)) fun n48 =>
 (bif ((decide ((0 : Int) <= n17)) && (decide (n17 < (l14.2 : Int)))) then
 (SA.ref l14.1).bind fun q49 =>
 ldS r43.2 q49.1 (q49.2 + (n17.toNat * 1)) fun l51 =>
 (bif ((decide ((0 : Int) <= n22)) && (decide (n22 < (l51.2 : Int)))) then
 (SA.ref l51.1).bind fun q52 =>
 ldI r43.2 q52.1 (q52.2 + (n22.toNat * 1)) fun n54 =>
 ((bif (((n48 : Int) == n54) == true) then
 some ([(.b (decide (n28 < (IntKind.i64.wrap (n17 - 1)))))], r43.2)
 else some ([(.b false)], r43.2)) : Option (List AV × AH O)).bind fun r55 =>
 (AV.asB (r55.1.getD 0 .u)).bind fun b56 =>
 (bif b56 then
 ((((((((((some ((.b false), r55.2) : Option (AV × AH O)).map fun r => Sum.inr (Sum.inr r)) : Option ((List AV × AH O) ⊕ ((List AV × AH O) ⊕ (AV × AH O)))).map fun r => Sum.inr (Sum.inr r)) : Option ((List AV × AH O) ⊕ ((List AV × AH O) ⊕ ((List AV × AH O) ⊕ ((List AV × AH O) ⊕ (AV × AH O)))))).map fun r => Sum.inr (Sum.inr r)) : Option ((List AV × AH O) ⊕ ((List AV × AH O) ⊕ ((List AV × AH O) ⊕ ((List AV × AH O) ⊕ ((List AV × AH O) ⊕ ((List AV × AH O) ⊕ (AV × AH O)))))))).map fun r => Sum.inr (Sum.inr r)) : Option ((List AV × AH O) ⊕ ((List AV × AH O) ⊕ ((List AV × AH O) ⊕ ((List AV × AH O) ⊕ ((List AV × AH O) ⊕ ((List AV × AH O) ⊕ ((List AV × AH O) ⊕ ((List AV × AH O) ⊕ (AV × AH O)))))))))).map fun r => Sum.inr (Sum.inr r))
 else (bif ((decide ((0 : Int) <= n45)) && (decide (n45 < (l42.2 : Int)))) then
 (SA.ref l42.1).bind fun q57 =>
 ldI r55.2 q57.1 (q57.2 + (n45.toNat * 1)) fun n59 =>
 (bif ((decide ((0 : Int) <= n17)) && (decide (n17 < (l14.2 : Int)))) then
 (SA.ref l14.1).bind fun q60 =>
 ldS r55.2 q60.1 (q60.2 + (n17.toNat * 1)) fun l62 =>
 (bif ((decide ((0 : Int) <= n22)) && (decide (n22 < (l62.2 : Int)))) then
 (SA.ref l62.1).bind fun q63 =>
 ldI r55.2 q63.1 (q63.2 + (n22.toNat * 1)) fun n65 =>
 ((bif ((n59 : Int) == n65) then
 some ([(.i .i64 (IntKind.i64.wrap (n44 + 1)))], r55.2)
 else some ([(.i .i64 n44)], r55.2)) : Option (List AV × AH O)).bind fun r66 =>
 (AV.asI .i64 (r66.1.getD 0 .u)).bind fun n67 =>
 some (Sum.inl ([(.i .i64 n67), (.i .i64 (IntKind.i64.wrap (n45 + 1)))], r66.2))
 else none)
 else none)
 else none))
 else none)
 else none)
 else none)
 else some (Sum.inr (Sum.inl ([(.i .i64 n44)], r43.2)))))
def law37_ReachWays_L4 (n28 : Int) (l14 : SA × Nat) (k26 : Sm O) (p10 : Option (Bid × Nat)) (n17 : Int) (n22 : Int) : List AV × AH O -> Option ((List AV × AH O) ⊕ ((List AV × AH O) ⊕ ((List AV × AH O) ⊕ ((List AV × AH O) ⊕ ((List AV × AH O) ⊕ ((List AV × AH O) ⊕ ((List AV × AH O) ⊕ ((List AV × AH O) ⊕ (AV × AH O))))))))) := (fun r29 =>
 (AV.asI .i64 (r29.1.getD 0 .u)).bind fun n30 =>
 (AV.asI .i64 (r29.1.getD 1 .u)).bind fun n31 =>
 (bif ((decide ((0 : Int) <= n28)) && (decide (n28 < (l14.2 : Int)))) then
 (SA.ref l14.1).bind fun q32 =>
 ldS r29.2 q32.1 (q32.2 + (n28.toNat * 1)) fun l34 =>
 (bif (decide (n31 < (l34.2 : Int))) then
 (bif ((decide ((0 : Int) <= n28)) && (decide (n28 < (l14.2 : Int)))) then
 (SA.ref l14.1).bind fun q35 =>
 ldS r29.2 q35.1 (q35.2 + (n28.toNat * 1)) fun l37 =>
 (bif ((decide ((0 : Int) <= n31)) && (decide (n31 < (l37.2 : Int)))) then
 (SA.ref l37.1).bind fun q38 =>
 ldI r29.2 q38.1 (q38.2 + (n31.toNat * 1)) fun n40 =>
 (k26 [(.p p10), (.i .i64 n40)] r29.2).bind fun r41 =>
 (AV.asSl r41.1).bind fun l42 =>
 bindS (S := List AV × AH O) (R := ((List AV × AH O) ⊕ ((List AV × AH O) ⊕ ((List AV × AH O) ⊕ ((List AV × AH O) ⊕ ((List AV × AH O) ⊕ ((List AV × AH O) ⊕ ((List AV × AH O) ⊕ ((List AV × AH O) ⊕ (AV × AH O)))))))))) (loopF (S := List AV × AH O) (T := (List AV × AH O) ⊕ ((List AV × AH O) ⊕ ((List AV × AH O) ⊕ ((List AV × AH O) ⊕ ((List AV × AH O) ⊕ ((List AV × AH O) ⊕ ((List AV × AH O) ⊕ ((List AV × AH O) ⊕ ((List AV × AH O) ⊕ (AV × AH O)))))))))) (law37_ReachWays_L5 l42 n17 l14 n22 n28) ([(.i .i64 n30), (.i .i64 0)], r41.2)) fun r68 =>
 (AV.asI .i64 (r68.1.getD 0 .u)).bind fun n69 =>
 some (Sum.inl ([(.i .i64 n69), (.i .i64 (IntKind.i64.wrap (n31 + 1)))], r68.2))
 else none)
 else none)
 else some (Sum.inr (Sum.inl ([(.i .i64 n30)], r29.2))))
 else none))
def law37_ReachWays_L3 (n17 : Int) (l14 : SA × Nat) (k26 : Sm O) (p10 : Option (Bid × Nat)) (n22 : Int) : List AV × AH O -> Option ((List AV × AH O) ⊕ ((List AV × AH O) ⊕ ((List AV × AH O) ⊕ ((List AV × AH O) ⊕ ((List AV × AH O) ⊕ ((List AV × AH O) ⊕ (AV × AH O))))))) := (fun r26 =>
 (AV.asI .i64 (r26.1.getD 0 .u)).bind fun n27 =>
 (AV.asI .i64 (r26.1.getD 1 .u)).bind fun n28 =>
 (bif (decide (n28 < n17)) then
 bindS (S := List AV × AH O) (R := ((List AV × AH O) ⊕ ((List AV × AH O) ⊕ ((List AV × AH O) ⊕ ((List AV × AH O) ⊕ ((List AV × AH O) ⊕ ((List AV × AH O) ⊕ (AV × AH O)))))))) (loopF (S := List AV × AH O) (T := (List AV × AH O) ⊕ ((List AV × AH O) ⊕ ((List AV × AH O) ⊕ ((List AV × AH O) ⊕ ((List AV × AH O) ⊕ ((List AV × AH O) ⊕ ((List AV × AH O) ⊕ (AV × AH O)))))))) (law37_ReachWays_L4 n28 l14 k26 p10 n17 n22) ([(.i .i64 n27), (.i .i64 0)], r26.2)) fun r70 =>
 (AV.asI .i64 (r70.1.getD 0 .u)).bind fun n71 =>
 some (Sum.inl ([(.i .i64 n71), (.i .i64 (IntKind.i64.wrap (n28 + 1)))], r70.2))
 else some (Sum.inr (Sum.inl ([(.i .i64 n27)], r26.2)))))
def law37_ReachWays_L2 (n17 : Int) (l14 : SA × Nat) (k26 : Sm O) (p10 : Option (Bid × Nat)) : List AV × AH O -> Option ((List AV × AH O) ⊕ ((List AV × AH O) ⊕ ((List AV × AH O) ⊕ ((List AV × AH O) ⊕ (AV × AH O))))) := (fun r21 =>
 (AV.asI .i64 (r21.1.getD 0 .u)).bind fun n22 =>
 (bif ((decide ((0 : Int) <= n17)) && (decide (n17 < (l14.2 : Int)))) then
 (SA.ref l14.1).bind fun q23 =>
 ldS r21.2 q23.1 (q23.2 + (n17.toNat * 1)) fun l25 =>
 (bif (decide (n22 < (l25.2 : Int))) then
 bindS (S := List AV × AH O) (R := ((List AV × AH O) ⊕ ((List AV × AH O) ⊕ ((List AV × AH O) ⊕ ((List AV × AH O) ⊕ (AV × AH O)))))) (loopF (S := List AV × AH O) (T := (List AV × AH O) ⊕ ((List AV × AH O) ⊕ ((List AV × AH O) ⊕ ((List AV × AH O) ⊕ ((List AV × AH O) ⊕ (AV × AH O)))))) (law37_ReachWays_L3 n17 l14 k26 p10 n22) ([(.i .i64 0), (.i .i64 0)], r21.2)) fun r72 =>
 (AV.asI .i64 (r72.1.getD 0 .u)).bind fun n73 =>
 ((bif ((decide (n17 > 0)) == true) then
 some ([(.b ((n73 : Int) == 0))], r72.2)
 else some ([(.b false)], r72.2)) : Option (List AV × AH O)).bind fun r74 =>
 (AV.asB (r74.1.getD 0 .u)).bind fun b75 =>
 (bif b75 then
 ((((some ((.b false), r74.2) : Option (AV × AH O)).map fun r => Sum.inr (Sum.inr r)) : Option ((List AV × AH O) ⊕ ((List AV × AH O) ⊕ (AV × AH O)))).map fun r => Sum.inr (Sum.inr r))
 else some (Sum.inl ([(.i .i64 (IntKind.i64.wrap (n22 + 1)))], r74.2)))
 else some (Sum.inr (Sum.inl ([], r21.2))))
 else none))
def law37_ReachWays_L1 (l14 : SA × Nat) (k26 : Sm O) (p10 : Option (Bid × Nat)) : List AV × AH O -> Option ((List AV × AH O) ⊕ ((List AV × AH O) ⊕ (AV × AH O))) := (fun r15 =>
 (AV.asI .i64 (r15.1.getD 0 .u)).bind fun n16 =>
 (AV.asI .i64 (r15.1.getD 1 .u)).bind fun n17 =>
 (bif (decide (n17 < (l14.2 : Int))) then
 (bif ((decide ((0 : Int) <= n17)) && (decide (n17 < (l14.2 : Int)))) then
 (SA.ref l14.1).bind fun q18 =>
 ldS r15.2 q18.1 (q18.2 + (n17.toNat * 1)) fun l20 =>
 bindS (S := List AV × AH O) (R := ((List AV × AH O) ⊕ ((List AV × AH O) ⊕ (AV × AH O)))) (loopF (S := List AV × AH O) (T := (List AV × AH O) ⊕ ((List AV × AH O) ⊕ ((List AV × AH O) ⊕ (AV × AH O)))) (law37_ReachWays_L2 n17 l14 k26 p10) ([(.i .i64 0)], r15.2)) fun r76 =>
 some (Sum.inl ([(.i .i64 (IntKind.i64.wrap (n16 + (l20.2 : Int)))), (.i .i64 (IntKind.i64.wrap (n17 + 1)))], r76.2))
 else none)
 else some (Sum.inr (Sum.inl ([(.i .i64 n16)], r15.2)))))
def law37_ReachWays_c (k32 k21 k33 k38 k26 k34 : Sm O) : Sm O := fun xs h =>
 bif Nat.beq xs.length 2 then
 gtS xs 0 fun l0 =>
 gtS xs 1 fun l1 =>
 (k32 [] h).bind fun r2 =>
 (AV.asB r2.1).bind fun b3 =>
 (bif (!b3) then
 some ((.b false), r2.2)
 else (k21 [(.sl l0.1 l0.2)] r2.2).bind fun r4 =>
 (AV.asB r4.1).bind fun b5 =>
 ((bif ((!b5) == false) then
 some ([(.b (decide ((l1.2 : Int) > 20)))], r4.2)
 else some ([(.b true)], r4.2)) : Option (List AV × AH O)).bind fun r6 =>
 (AV.asB (r6.1.getD 0 .u)).bind fun b7 =>
 (bif b7 then
 some ((.b true), r6.2)
 else (k33 [(.sl l0.1 l0.2)] r6.2).bind fun r8 =>
 (AV.asTup 3 r8.1).bind fun c9 =>
 (AV.asP (c9.getD 0 .u)).bind fun p10 =>
 gtS c9 1 fun l11 =>
 (AV.asB (c9.getD 2 .u)).bind fun b12 =>
 (bif (!b12) then
 some ((.b false), r8.2)
 else (k38 [(.p p10), (.sl l1.1 l1.2)] r8.2).bind fun r13 =>
 (AV.asSl r13.1).bind fun l14 =>
 bindS (S := List AV × AH O) (R := (AV × AH O)) (loopF (S := List AV × AH O) (T := (List AV × AH O) ⊕ (AV × AH O)) (law37_ReachWays_L1 l14 k26 p10) ([(.i .i64 0), (.i .i64 0)], r13.2)) fun r77 =>
 (AV.asI .i64 (r77.1.getD 0 .u)).bind fun n78 =>
 (k34 [(.p p10), (.sl l1.1 l1.2)] r77.2).bind fun r79 =>
 (AV.asSl r79.1).bind fun l80 =>
 some ((.b ((n78 : Int) == (l80.2 : Int))), r79.2))))
 else none
def law37_ReachWays : Sm O := law37_ReachWays_c law37_awake law36_Few law37_made reach_Levels graph_Graph__Edges reach_From
theorem law37_ReachWays_run (k32 k21 k33 k38 k26 k34 : Sm O) : run (O := O) Try.prog [(32, k32), (21, k21), (33, k33), (38, k38), (26, k26), (34, k34)] Try.f8 (.n .z (.n (.n .z (.n .z .z)) (.n (.n (.g [(3, 3, [(26, .one .b)])]) (.n .z .z)) (.n .z (.n (.n .z (.n .z .z)) (.n .z (.n .z (.n (.n .z (.n (.lp true 0 [(9, .one (.i .i64)), (10, .one (.i .i64))] [(9, .one (.i .i64))] (.n (.n .z .z) (.n (.n (.n .z (.n .z (.n (.lp true 2 [(11, .one (.i .i64))] [] (.n (.n .z .z) (.n (.n (.n .z (.n (.n .z (.n (.lp true 4 [(12, .one (.i .i64)), (13, .one (.i .i64))] [(12, .one (.i .i64))] (.n (.n .z .z) (.n (.n (.n .z (.n (.lp true 6 [(12, .one (.i .i64)), (14, .one (.i .i64))] [(12, .one (.i .i64))] (.n (.n .z .z) (.n (.n (.n .z (.n .z (.n (.lp true 8 [(12, .one (.i .i64)), (16, .one (.i .i64))] [(12, .one (.i .i64))] (.n (.n .z .z) (.n (.n (.n (.n (.d [(12, 4, [(106, .one .b)])] [0, 1, 2, 3, 4, 5, 6, 7, 8, 9, 10, 11, 12, 13, 14, 15, 16, 17] [0, 0, 3, 7, 0, 0, 48, 112, 0, 496, 1008, 2047, 4095, 8191, 8191, 24575, 65535, 131071]) (.n .z .z)) (.n (.d [] [0, 1, 2, 3, 4, 5, 6, 7, 8, 9, 10, 11] [0, 0, 3, 7, 0, 0, 48, 112, 0, 496, 1008, 2047]) (.j false [(12, .one (.i .i64))] .z .z))) .z) .z))) .z))) .z) .z))) .z)) .z) .z))) .z)) (.n (.g [(2, 2, [(126, .one .b)])]) (.n .z .z)))) .z) .z))) .z))) .z) .z))) .z)) .z)))))))) = law37_ReachWays_c k32 k21 k33 k38 k26 k34 := by kernel_rfl
theorem law37_ReachWays_sound : FSound RO Try.prog 8 law37_ReachWays := sdf (law37_ReachWays_run _ _ _ _ _ _) (gcons law37_awake_ent law37_awake_sound <| gcons law36_Few_ent law36_Few_sound <| gcons law37_made_ent law37_made_sound <| gcons reach_Levels_ent reach_Levels_sound <| gcons graph_Graph__Edges_ent graph_Graph__Edges_sound <| gcons reach_From_ent reach_From_sound <| gnil) Try.func8 (by kernel_rfl)
end
end Go.Abs.Try
