/-
  What functions of the program do. No conditions.
-/
import Derived.Test.YtncohicmiihjiaaGreatProg
import Derived.Test.YtncohicmiihjiaaGreatS9ea
import Derived.KernelRfl
set_option linter.unusedVariables false
set_option linter.unusedSimpArgs false
set_option linter.constructorNameAsVariable false
set_option maxRecDepth 100000
namespace Go.Abs.Tryz
open Go Go.Abs Go.Proofs
noncomputable section
variable {O : Type} {RO : O -> Loc -> (Nat -> Option Obj) -> Prop}
def haymowref20_Words_c : Sm O := fun xs h =>
 bif Nat.beq xs.length 1 then
 (AV.asAgg 8 (xs.getD 0 .u)).bind fun c0 =>
 gtI c0 0 fun n1 =>
 gtI c0 1 fun n2 =>
 gtI c0 2 fun n3 =>
 gtI c0 3 fun n4 =>
 (AV.asB (c0.getD 4 .u)).bind fun b5 =>
 gtS c0 5 fun l6 =>
 gtS c0 6 fun l7 =>
 gtU c0 7 fun n8 =>
 let h9 := h.bump 1
 let h10 := h9.put h.next (.cells true 42 [(.i .i64 n1), (.i .i64 n2), (.i .i64 n3), (.i .i64 n4), (.b b5), (.sl l6.1 l6.2), (.sl l7.1 l7.2), (.i .u64 n8)])
 ldS h10 (.n h.next) 5 fun l12 =>
 ldS h10 (.n h.next) 6 fun l14 =>
 let v15 : Int := (IntKind.i64.wrap ((IntKind.i64.wrap (1 + (l12.2 : Int))) + (l14.2 : Int)))
 some ((.i .i64 v15), h10)
 else none
def haymowref20_Words : Sm O := haymowref20_Words_c
theorem haymowref20_Words_ent : Entered Tryz.prog 27 := Tryz.call27
theorem haymowref20_Words_run : run (O := O) Tryz.prog [] Tryz.f27 (.n .z .z) = haymowref20_Words_c  := by kernel_rfl
theorem haymowref20_Words_sound : FSound RO Tryz.prog 27 haymowref20_Words := sdf haymowref20_Words_run (gnil) Tryz.func27 (by kernel_rfl)
def law20_EvacSteps_L1 (n5 : Int) (l23 : SA × Nat) (k12 : Sm O) (p26 : Option (Bid × Nat)) (n45 : Int) : List AV × AH O -> Option ((List AV × AH O) ⊕ ((List AV × AH O) ⊕ (AV × AH O))) := (fun r74 =>
 (AV.asI .i64 (r74.1.getD 0 .u)).bind fun n75 =>
 let c76 : Bool := (decide (n75 < (IntKind.i64.wrap (Int.tmod n5 8))))
 (bif c76 then
 (bif (decide ((0 : Int) < (l23.2 : Int))) then
 (SA.ref l23.1).bind fun q77 =>
 ldU r74.2 q77.1 (q77.2 + 7) fun n79 =>
 (k12 [(.p p26), (.i .u64 n79)] r74.2).bind fun r80 =>
 (AV.asI .u64 r80.1).bind fun n81 =>
 (bif ((n81 : Int) != n45) then
 ((some ((.b false), r80.2) : Option (AV × AH O)).map fun r => Sum.inr (Sum.inr r))
 else some (Sum.inl ([(.i .i64 (IntKind.i64.wrap (n75 + 1)))], r80.2)))
 else none)
 else some (Sum.inr (Sum.inl ([], r74.2)))))
def law20_EvacSteps_c (k8 k9 k10 k11 k16 k17 k12 k19 k27 : Sm O) : Sm O := fun xs h =>
 bif Nat.beq xs.length 2 then
 (AV.asAgg 4 (xs.getD 0 .u)).bind fun c0 =>
 gtI c0 0 fun n1 =>
 gtI c0 1 fun n2 =>
 (AV.asI .u8 (c0.getD 2 .u)).bind fun n3 =>
 gtU c0 3 fun n4 =>
 (AV.asI .u8 (xs.getD 1 .u)).bind fun n5 =>
 let h6 := h.bump 1
 let h7 := h6.put h.next (.cells true 73 [(.i .i64 n1), (.i .i64 n2), (.i .u8 n3), (.i .u64 n4)])
 (k8 [] h7).bind fun r8 =>
 (AV.asB r8.1).bind fun b9 =>
 (bif (!b9) then
 some ((.b false), r8.2)
 else let h10 := r8.2.bump 1
 ldI h10 (.n h.next) 0 fun n12 =>
 ldI h10 (.n h.next) 1 fun n14 =>
 (h10.ld (.n h.next) 2).bind fun w15 =>
 (AV.asI .u8 w15).bind fun n16 =>
 ldU h10 (.n h.next) 3 fun n18 =>
 let h19 := h10.put r8.2.next (.cells true 73 [(.i .i64 n12), (.i .i64 n14), (.i .u8 n16), (.i .u64 n18)])
 (k9 [(.sl (.loc (.n r8.2.next) 0 4) 1)] h19).bind fun r20 =>
 (AV.asTup 3 r20.1).bind fun c21 =>
 (AV.asP (c21.getD 0 .u)).bind fun p22 =>
 gtS c21 1 fun l23 =>
 (AV.asB (c21.getD 2 .u)).bind fun b24 =>
 (bif (!b24) then
 some ((.b false), r20.2)
 else (k10 [(.p p22), (.fn none)] r20.2).bind fun r25 =>
 (AV.asP r25.1).bind fun p26 =>
 (k11 [(.p p26)] r25.2).bind fun r27 =>
 (AV.asI .i64 r27.1).bind fun n28 =>
 let h29 := r27.2.bump 1
 (k16 [(.p p22)] h29).bind fun r30 =>
 (AV.asP r30.1).bind fun p31 =>
 Option.bind p31 fun q32 =>
 ldP r30.2 q32.1 q32.2 fun p34 =>
 (k17 [(.p p34)] r30.2).bind fun r35 =>
 (AV.asAgg 2 r35.1).bind fun c36 =>
 gtU c36 0 fun n37 =>
 gtU c36 1 fun n38 =>
 let h39 := r35.2.put r27.2.next (.cells true 51 [(.i .u64 0), (.i .u64 0)])
 (h39.st (.n r27.2.next) 0 [(.i .u64 n37), (.i .u64 n38)]).bind fun h40 =>
 (bif (decide ((0 : Int) < (l23.2 : Int))) then
 (SA.ref l23.1).bind fun q41 =>
 ldU h40 q41.1 (q41.2 + 7) fun n43 =>
 (k12 [(.p p26), (.i .u64 n43)] h40).bind fun r44 =>
 (AV.asI .u64 r44.1).bind fun n45 =>
 let h46 := r44.2.bump 1
 ldU h46 (.n r27.2.next) 0 fun n48 =>
 ldU h46 (.n r27.2.next) 1 fun n50 =>
 (k16 [(.p p22)] h46).bind fun r51 =>
 (AV.asP r51.1).bind fun p52 =>
 (chkE (r51.2.ld (.n r27.2.next) 0) (some (.i .u64 n48))).bind fun _ =>
 (chkE (r51.2.ld (.n r27.2.next) 1) (some (.i .u64 n50))).bind fun _ =>
 Option.bind p52 fun q53 =>
 ldP r51.2 q53.1 q53.2 fun p55 =>
 (k19 [(.p p55), (.agg [(.i .u64 n48), (.i .u64 n50)])] r51.2).bind fun r56 =>
 (AV.asAgg 2 r56.1).bind fun c57 =>
 gtU c57 0 fun n58 =>
 gtU c57 1 fun n59 =>
 let h60 := r56.2.put r44.2.next (.cells true 51 [(.i .u64 0), (.i .u64 0)])
 (h60.st (.n r44.2.next) 0 [(.i .u64 n58), (.i .u64 n59)]).bind fun h61 =>
 let h62 := h61.bump 1
 (k16 [(.p p22)] h62).bind fun r63 =>
 (AV.asP r63.1).bind fun p64 =>
 Option.bind p64 fun q65 =>
 ldP r63.2 q65.1 q65.2 fun p67 =>
 (k17 [(.p p67)] r63.2).bind fun r68 =>
 (AV.asAgg 2 r68.1).bind fun c69 =>
 gtU c69 0 fun n70 =>
 gtU c69 1 fun n71 =>
 let h72 := r68.2.put h61.next (.cells true 51 [(.i .u64 0), (.i .u64 0)])
 (h72.st (.n h61.next) 0 [(.i .u64 n70), (.i .u64 n71)]).bind fun h73 =>
 bindS (S := List AV × AH O) (R := (AV × AH O)) (loopF (S := List AV × AH O) (T := (List AV × AH O) ⊕ (AV × AH O)) (law20_EvacSteps_L1 n5 l23 k12 p26 n45) ([(.i .i64 0)], h73)) fun r82 =>
 let h83 := r82.2.bump 1
 ldU h83 (.n h61.next) 0 fun n85 =>
 ldU h83 (.n h61.next) 1 fun n87 =>
 (k16 [(.p p22)] h83).bind fun r88 =>
 (AV.asP r88.1).bind fun p89 =>
 (chkE (r88.2.ld (.n h61.next) 0) (some (.i .u64 n85))).bind fun _ =>
 (chkE (r88.2.ld (.n h61.next) 1) (some (.i .u64 n87))).bind fun _ =>
 Option.bind p89 fun q90 =>
 ldP r88.2 q90.1 q90.2 fun p92 =>
 (k19 [(.p p92), (.agg [(.i .u64 n85), (.i .u64 n87)])] r88.2).bind fun r93 =>
 (AV.asAgg 2 r93.1).bind fun c94 =>
 gtU c94 0 fun n95 =>
 gtU c94 1 fun n96 =>
 let h97 := r93.2.put r82.2.next (.cells true 51 [(.i .u64 0), (.i .u64 0)])
 (h97.st (.n r82.2.next) 0 [(.i .u64 n95), (.i .u64 n96)]).bind fun h98 =>
 (bif (decide ((0 : Int) < (l23.2 : Int))) then
 (SA.ref l23.1).bind fun q99 =>
 (h98.ld q99.1 (q99.2 + 4)).bind fun w100 =>
 (AV.asB w100).bind fun b101 =>
 (bif b101 then
 ldU h98 (.n r44.2.next) 0 fun n103 =>
 ((bif (((n103 : Int) == 0) == true) then
 ldU h98 (.n r44.2.next) 1 fun n105 =>
 some ([(.b (decide (n105 <= 18)))], h98)
 else some ([(.b false)], h98)) : Option (List AV × AH O)).bind fun r106 =>
 (AV.asB (r106.1.getD 0 .u)).bind fun b107 =>
 ((bif (b107 == true) then
 ldU r106.2 (.n r82.2.next) 0 fun n109 =>
 some ([(.b ((n109 : Int) == 0))], r106.2)
 else some ([(.b false)], r106.2)) : Option (List AV × AH O)).bind fun r110 =>
 (AV.asB (r110.1.getD 0 .u)).bind fun b111 =>
 ((bif (b111 == true) then
 ldU r110.2 (.n r82.2.next) 1 fun n113 =>
 let v114 : Int := (IntKind.u64.wrap (2 * (IntKind.u64.wrap (Int.tmod n5 8))))
 some ([(.b (decide (n113 <= v114)))], r110.2)
 else some ([(.b false)], r110.2)) : Option (List AV × AH O)).bind fun r115 =>
 (AV.asB (r115.1.getD 0 .u)).bind fun b116 =>
 ((bif (b116 == true) then
 (bif (decide ((0 : Int) < (l23.2 : Int))) then
 (SA.ref l23.1).bind fun q117 =>
 ldU r115.2 q117.1 (q117.2 + 7) fun n119 =>
 some ([(.b ((n45 : Int) == n119))], r115.2)
 else none)
 else some ([(.b false)], r115.2)) : Option (List AV × AH O)).bind fun r120 =>
 (AV.asB (r120.1.getD 0 .u)).bind fun b121 =>
 some ((.b b121), r120.2)
 else ldU h98 (.n r44.2.next) 0 fun n123 =>
 ldU h98 (.n r44.2.next) 1 fun n125 =>
 (bif (decide ((0 : Int) < (l23.2 : Int))) then
 (SA.ref l23.1).bind fun q126 =>
 ldI h98 q126.1 q126.2 fun n128 =>
 ldI h98 q126.1 (q126.2 + 1) fun n130 =>
 ldI h98 q126.1 ((q126.2 + 1) + 1) fun n132 =>
 ldI h98 q126.1 (((q126.2 + 1) + 1) + 1) fun n134 =>
 (h98.ld q126.1 ((((q126.2 + 1) + 1) + 1) + 1)).bind fun w135 =>
 (AV.asB w135).bind fun b136 =>
 ldS h98 q126.1 (((((q126.2 + 1) + 1) + 1) + 1) + 1) fun l138 =>
 ldS h98 q126.1 ((((((q126.2 + 1) + 1) + 1) + 1) + 1) + 1) fun l140 =>
 ldU h98 q126.1 (((((((q126.2 + 1) + 1) + 1) + 1) + 1) + 1) + 1) fun n142 =>
 (k27 [(.agg [(.i .i64 n128), (.i .i64 n130), (.i .i64 n132), (.i .i64 n134), (.b b136), (.sl l138.1 l138.2), (.sl l140.1 l140.2), (.i .u64 n142)])] h98).bind fun r143 =>
 (AV.asI .i64 r143.1).bind fun n144 =>
 (chkE (r143.2.ld (.n r44.2.next) 0) (some (.i .u64 n123))).bind fun _ =>
 (chkE (r143.2.ld (.n r44.2.next) 1) (some (.i .u64 n125))).bind fun _ =>
 let v145 : Int := (IntKind.i64.wrap ((IntKind.i64.wrap (2 * n144)) + 3))
 ((bif ((((n123 : Int) == 0) && (((n125 : Int) == (IntKind.u64.wrap v145)) && true)) == true) then
 ldU r143.2 (.n r82.2.next) 0 fun n147 =>
 ldU r143.2 (.n r82.2.next) 1 fun n149 =>
 let c150 : Bool := (((n147 : Int) == 0) && (((n149 : Int) == (IntKind.u64.wrap (Int.tmod n5 8))) && true))
 some ([(.b c150)], r143.2)
 else some ([(.b false)], r143.2)) : Option (List AV × AH O)).bind fun r151 =>
 (AV.asB (r151.1.getD 0 .u)).bind fun b152 =>
 some ((.b b152), r151.2)
 else none))
 else none)
 else none)))
 else none
def law20_EvacSteps : Sm O := law20_EvacSteps_c law20_awake law20_Made evac_New evac_Mover__Begin store_Store__Mem meter_Meter__Steps evac_Mover__Move meter_Meter__Since haymowref20_Words
theorem law20_EvacSteps_run (k8 k9 k10 k11 k16 k17 k12 k19 k27 : Sm O) : run (O := O) Tryz.prog [(8, k8), (9, k9), (10, k10), (11, k11), (16, k16), (17, k17), (12, k12), (19, k19), (27, k27)] Tryz.f5 (.n .z (.n (.n .z (.n .z .z)) (.n .z (.n (.n .z (.n .z .z)) (.n .z (.n .z (.n .z (.n .z (.n (.d [] [0, 5, 1, 2, 3, 4, 6, 7, 8] [0, 1, 3, 7, 15, 0, 63, 0, 255]) (.n .z (.n (.n .z (.n (.lp true 0 [(13, .one (.i .i64))] [] (.n (.n .z .z) (.n (.n (.n .z (.n .z .z)) .z) .z))) .z)) (.n (.d [] [0, 5, 1, 2, 3, 4, 6, 7, 8] [0, 1, 3, 7, 15, 0, 63, 0, 255]) (.n (.n .z (.n (.n (.g [(3, 3, [(89, .one .b)]), (8, 3, [(94, .one .b)]), (13, 7, [(103, .one .b)]), (22, 6, [(111, .one .b)])]) .z) .z)) (.n (.d [(10, 6, [(129, .one .b)])] [0, 1, 2, 3, 4, 5, 6, 7, 8, 9, 10, 11, 12, 13, 14, 15, 16, 17, 18] [0, 0, 2, 6, 14, 30, 62, 126, 254, 511, 1023, 2047, 2047, 6143, 14335, 30719, 65535, 131071, 262143]) .z)))))))))))))) = law20_EvacSteps_c k8 k9 k10 k11 k16 k17 k12 k19 k27 := by kernel_rfl
theorem law20_EvacSteps_sound : FSound RO Tryz.prog 5 law20_EvacSteps := sdf (law20_EvacSteps_run _ _ _ _ _ _ _ _ _) (gcons law20_awake_ent law20_awake_sound <| gcons law20_Made_ent law20_Made_sound <| gcons evac_New_ent evac_New_sound <| gcons evac_Mover__Begin_ent evac_Mover__Begin_sound <| gcons store_Store__Mem_ent store_Store__Mem_sound <| gcons meter_Meter__Steps_ent meter_Meter__Steps_sound <| gcons evac_Mover__Move_ent evac_Mover__Move_sound <| gcons meter_Meter__Since_ent meter_Meter__Since_sound <| gcons haymowref20_Words_ent haymowref20_Words_sound <| gnil) Tryz.func5 (by kernel_rfl)
end
end Go.Abs.Tryz
