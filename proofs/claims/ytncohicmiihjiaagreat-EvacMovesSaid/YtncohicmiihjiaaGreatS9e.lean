/-
  What functions of the program do. No conditions.
-/
import Derived.Test.YtncohicmiihjiaaGreatProg
import Derived.Test.YtncohicmiihjiaaGreatS9ea
import Derived.KernelRfl
set_option linter.unusedVariables false
set_option linter.unusedSimpArgs false
set_option linter.constructorNameAsVariable false
set_option maxRecDepth 100000
namespace Go.Abs.Tryz
open Go Go.Abs Go.Proofs
noncomputable section
variable {O : Type} {RO : O -> Loc -> (Nat -> Option Obj) -> Prop}
def qaa (h8 : AH O) : List AV × AH O -> Option ((List AV × AH O) ⊕ ((List AV × AH O) ⊕ (AV × AH O))) := (fun r38 =>
 (AV.asI .i64 (r38.1.getD 0 .u)).bind fun n39 =>
 (bif (decide (n39 >= 0)) then
 (bif ((decide ((0 : Int) <= n39)) && (decide (n39 < 6))) then
 ldU r38.2 (.n h8.next) (0 + (n39.toNat * 1)) fun n41 =>
 (bif ((decide ((0 : Int) <= n39)) && (decide (n39 < 6))) then
 ldU r38.2 (.n (h8.next + 1)) (0 + (n39.toNat * 1)) fun n43 =>
 (bif (decide (n41 < n43)) then
 ((some ((.i .i64 (-1)), r38.2) : Option (AV × AH O)).map fun r => Sum.inr (Sum.inr r))
 else (bif ((decide ((0 : Int) <= n39)) && (decide (n39 < 6))) then
 ldU r38.2 (.n h8.next) (0 + (n39.toNat * 1)) fun n45 =>
 (bif ((decide ((0 : Int) <= n39)) && (decide (n39 < 6))) then
 ldU r38.2 (.n (h8.next + 1)) (0 + (n39.toNat * 1)) fun n47 =>
 (bif (decide (n45 > n47)) then
 ((some ((.i .i64 1), r38.2) : Option (AV × AH O)).map fun r => Sum.inr (Sum.inr r))
 else some (Sum.inl ([(.i .i64 (IntKind.i64.wrap (n39 - 1)))], r38.2)))
 else none)
 else none))
 else none)
 else none)
 else some (Sum.inr (Sum.inl ([], r38.2)))))
def qab (k60 : Sm O) : Sm O := fun xs h =>
 bif Nat.beq xs.length 2 then
 (AV.asAgg 2 (xs.getD 0 .u)).bind fun c0 =>
 gtU c0 0 fun n1 =>
 gtU c0 1 fun n2 =>
 (AV.asAgg 2 (xs.getD 1 .u)).bind fun c3 =>
 gtU c3 0 fun n4 =>
 gtU c3 1 fun n5 =>
 let h6 := h.bump 2
 let h7 := h6.put h.next (.cells true 51 [(.i .u64 n1), (.i .u64 n2)])
 let h8 := h7.put (h.next + 1) (.cells true 51 [(.i .u64 n4), (.i .u64 n5)])
 let h9 := h8.bump 2
 ldU h9 (.n h.next) 0 fun n11 =>
 ldU h9 (.n h.next) 1 fun n13 =>
 ldU h9 (.n (h.next + 1)) 0 fun n15 =>
 ldU h9 (.n (h.next + 1)) 1 fun n17 =>
 (k60 [(.agg [(.i .u64 n11), (.i .u64 n13)])] h9).bind fun r18 =>
 (AV.asAgg 6 r18.1).bind fun c19 =>
 gtU c19 0 fun n20 =>
 gtU c19 1 fun n21 =>
 gtU c19 2 fun n22 =>
 gtU c19 3 fun n23 =>
 gtU c19 4 fun n24 =>
 gtU c19 5 fun n25 =>
 (chkE (r18.2.ld (.n (h.next + 1)) 0) (some (.i .u64 n15))).bind fun _ =>
 (chkE (r18.2.ld (.n (h.next + 1)) 1) (some (.i .u64 n17))).bind fun _ =>
 (k60 [(.agg [(.i .u64 n15), (.i .u64 n17)])] r18.2).bind fun r26 =>
 (AV.asAgg 6 r26.1).bind fun c27 =>
 gtU c27 0 fun n28 =>
 gtU c27 1 fun n29 =>
 gtU c27 2 fun n30 =>
 gtU c27 3 fun n31 =>
 gtU c27 4 fun n32 =>
 gtU c27 5 fun n33 =>
 let h34 := r26.2.put h8.next (.cells true 130 [(.i .u64 0), (.i .u64 0), (.i .u64 0), (.i .u64 0), (.i .u64 0), (.i .u64 0)])
 let h35 := h34.put (h8.next + 1) (.cells true 130 [(.i .u64 0), (.i .u64 0), (.i .u64 0), (.i .u64 0), (.i .u64 0), (.i .u64 0)])
 (h35.st (.n h8.next) 0 [(.i .u64 n20), (.i .u64 n21), (.i .u64 n22), (.i .u64 n23), (.i .u64 n24), (.i .u64 n25)]).bind fun h36 =>
 (h36.st (.n (h8.next + 1)) 0 [(.i .u64 n28), (.i .u64 n29), (.i .u64 n30), (.i .u64 n31), (.i .u64 n32), (.i .u64 n33)]).bind fun h37 =>
 bindS (S := List AV × AH O) (R := (AV × AH O)) (loopF (S := List AV × AH O) (T := (List AV × AH O) ⊕ (AV × AH O)) (qaa h8) ([(.i .i64 3)], h37)) fun r48 =>
 some ((.i .i64 0), r48.2)
 else none
def qac : Sm O := qab qsf
theorem qad : Entered Tryz.prog 18 := Tryz.call18
theorem qae (k60 : Sm O) : run (O := O) Tryz.prog [(60, k60)] Tryz.f18 (.n .z (.n (.d [] [0, 2, 1, 3, 4, 5, 6, 7] [0, 1, 0, 7, 0, 0, 63, 127]) (.n (.n .z (.n (.lp true 0 [(7, .one (.i .i64))] [] (.n (.n .z .z) (.n (.n (.n (.n (.d [] [0, 1, 2, 3, 4, 5, 6] [0, 1, 3, 0, 8, 24, 63]) (.n .z .z)) (.n (.d [] [0, 1, 2, 3, 4, 5, 6] [0, 1, 3, 0, 8, 24, 63]) (.n .z .z))) .z) .z))) .z)) .z))) = qab k60 := by kernel_rfl
theorem qaf : FSound RO Tryz.prog 18 qac := sdf (qae _) (gcons qsg qsi <| gnil) Tryz.func18 (by kernel_rfl)
def qag : Sm O := fun xs h =>
 bif Nat.beq xs.length 1 then
 gtS xs 0 fun l0 =>
 let h1 := h.bump 1
 let h2 := h1.put h.next (.cells true 63 [(.sl .nil 0), (.sl .nil 0), (.i .i64 0), (.sl .nil 0), (.i .i64 0)])
 let h3 := h2.bump 1
 (bif ((((decide ((0 : Int) <= (l0.2 : Int))) && (decide ((l0.2 : Int) <= (l0.2 : Int)))) && (decide (((l0.2 : Int) * 8) <= 140737488355328))) && (decide ((l0.2 : Int) <= 140737488355328))) then
 let h4 := h3.put h2.next (.cells true 33 ((List.replicate (l0.2 : Int).toNat [(.i .u64 0)]).flatten))
 (h4.st (.n h.next) 0 [(.sl l0.1 l0.2), (.sl (.loc (.n h2.next) 0 1) (l0.2 : Int).toNat), (.i .i64 0), (.sl .nil 0), (.i .i64 0)]).bind fun h5 =>
 ldS h5 (.n h.next) 0 fun l7 =>
 ldS h5 (.n h.next) 1 fun l9 =>
 ldI h5 (.n h.next) 2 fun n11 =>
 ldS h5 (.n h.next) 3 fun l13 =>
 ldI h5 (.n h.next) 4 fun n15 =>
 some ((.agg [(.sl l7.1 l7.2), (.sl l9.1 l9.2), (.i .i64 n11), (.sl l13.1 l13.2), (.i .i64 n15)]), h5)
 else none)
 else none
def qah : Sm O := frz (qag)
theorem qai : Entered Tryz.prog 20 := Tryz.call20
theorem qaj : run (O := O) Tryz.prog [] Tryz.f20 (.n .z .z) = qag  := by kernel_rfl
theorem qak : FSound RO Tryz.prog 20 (qah) :=
   have h : FSound RO Tryz.prog 20 (qag) := (qaj) ▸ run_sound (gnil) mixed Tryz.func20 (by kernel_rfl) _
   h.frz
def qal : Sm O := fun xs h =>
 bif Nat.beq xs.length 1 then
 (AV.asAgg 8 (xs.getD 0 .u)).bind fun c0 =>
 gtI c0 0 fun n1 =>
 gtI c0 1 fun n2 =>
 gtI c0 2 fun n3 =>
 gtI c0 3 fun n4 =>
 (AV.asB (c0.getD 4 .u)).bind fun b5 =>
 gtS c0 5 fun l6 =>
 gtS c0 6 fun l7 =>
 gtU c0 7 fun n8 =>
 let h9 := h.bump 1
 let h10 := h9.put h.next (.cells true 42 [(.i .i64 n1), (.i .i64 n2), (.i .i64 n3), (.i .i64 n4), (.b b5), (.sl l6.1 l6.2), (.sl l7.1 l7.2), (.i .u64 n8)])
 ldS h10 (.n h.next) 5 fun l12 =>
 ldS h10 (.n h.next) 6 fun l14 =>
 let v15 : Int := (IntKind.i64.wrap ((IntKind.i64.wrap (1 + (l12.2 : Int))) + (l14.2 : Int)))
 some ((.i .i64 v15), h10)
 else none
def qam : Sm O := qal
theorem qan : Entered Tryz.prog 27 := Tryz.call27
theorem qao : run (O := O) Tryz.prog [] Tryz.f27 (.n .z .z) = qal  := by kernel_rfl
theorem qap : FSound RO Tryz.prog 27 qam := sdf qao (gnil) Tryz.func27 (by kernel_rfl)
def qaq (k14 k27 : Sm O) : Sm O := fun xs h =>
 bif Nat.beq xs.length 2 then
 (AV.asAgg 5 (xs.getD 0 .u)).bind fun c0 =>
 gtS c0 0 fun l1 =>
 gtS c0 1 fun l2 =>
 gtI c0 2 fun n3 =>
 gtS c0 3 fun l4 =>
 gtI c0 4 fun n5 =>
 gtI xs 1 fun n6 =>
 let h7 := h.bump 2
 let h8 := h7.put h.next (.cells true 63 [(.sl l1.1 l1.2), (.sl l2.1 l2.2), (.i .i64 n3), (.sl l4.1 l4.2), (.i .i64 n5)])
 let h9 := h8.put (h.next + 1) (.cells true 63 [(.sl .nil 0), (.sl .nil 0), (.i .i64 0), (.sl .nil 0), (.i .i64 0)])
 (bif (decide (n6 < 0)) then
 ldS h9 (.n h.next) 0 fun l11 =>
 ldS h9 (.n h.next) 1 fun l13 =>
 ldI h9 (.n h.next) 2 fun n15 =>
 ldS h9 (.n h.next) 3 fun l17 =>
 ldI h9 (.n h.next) 4 fun n19 =>
 (h9.st (.n (h.next + 1)) 0 [(.sl l11.1 l11.2), (.sl l13.1 l13.2), (.i .i64 n15), (.sl l17.1 l17.2), (.i .i64 n19)]).bind fun h20 =>
 ldS h20 (.n (h.next + 1)) 0 fun l22 =>
 ldS h20 (.n (h.next + 1)) 1 fun l24 =>
 ldI h20 (.n (h.next + 1)) 2 fun n26 =>
 ldS h20 (.n (h.next + 1)) 3 fun l28 =>
 ldI h20 (.n (h.next + 1)) 4 fun n30 =>
 some ((.tup [(.agg [(.sl l22.1 l22.2), (.sl l24.1 l24.2), (.i .i64 n26), (.sl l28.1 l28.2), (.i .i64 n30)]), (.i .u64 0)]), h20)
 else let h31 := h9.bump 1
 ldS h31 (.n h.next) 0 fun l33 =>
 (bif ((decide ((0 : Int) <= n6)) && (decide (n6 < (l33.2 : Int)))) then
 (SA.ref l33.1).bind fun q34 =>
 ldI h31 q34.1 (q34.2 + (n6.toNat * 8)) fun n36 =>
 ldI h31 q34.1 ((q34.2 + (n6.toNat * 8)) + 1) fun n38 =>
 ldI h31 q34.1 (((q34.2 + (n6.toNat * 8)) + 1) + 1) fun n40 =>
 ldI h31 q34.1 ((((q34.2 + (n6.toNat * 8)) + 1) + 1) + 1) fun n42 =>
 (h31.ld q34.1 (((((q34.2 + (n6.toNat * 8)) + 1) + 1) + 1) + 1)).bind fun w43 =>
 (AV.asB w43).bind fun b44 =>
 ldS h31 q34.1 ((((((q34.2 + (n6.toNat * 8)) + 1) + 1) + 1) + 1) + 1) fun l46 =>
 ldS h31 q34.1 (((((((q34.2 + (n6.toNat * 8)) + 1) + 1) + 1) + 1) + 1) + 1) fun l48 =>
 ldU h31 q34.1 ((((((((q34.2 + (n6.toNat * 8)) + 1) + 1) + 1) + 1) + 1) + 1) + 1) fun n50 =>
 let h51 := h31.put h9.next (.cells true 42 [(.i .i64 0), (.i .i64 0), (.i .i64 0), (.i .i64 0), (.b false), (.sl .nil 0), (.sl .nil 0), (.i .u64 0)])
 (h51.st (.n h9.next) 0 [(.i .i64 n36), (.i .i64 n38), (.i .i64 n40), (.i .i64 n42), (.b b44), (.sl l46.1 l46.2), (.sl l48.1 l48.2), (.i .u64 n50)]).bind fun h52 =>
 ldS h52 (.n h.next) 1 fun l54 =>
 (bif ((decide ((0 : Int) <= n6)) && (decide (n6 < (l54.2 : Int)))) then
 (SA.ref l54.1).bind fun q55 =>
 ldU h52 q55.1 (q55.2 + (n6.toNat * 1)) fun n57 =>
 (bif ((n57 : Int) != 0) then
 (h52.ld (.n h9.next) 4).bind fun w58 =>
 (AV.asB w58).bind fun b59 =>
 ((bif b59 then
 ldI h52 (.n h.next) 4 fun n61 =>
 (h52.st (.n h.next) 4 [(.i .i64 (IntKind.i64.wrap (n61 + 2)))]).bind fun h62 =>
 some ([], h62)
 else ldI h52 (.n h.next) 4 fun n64 =>
 (h52.st (.n h.next) 4 [(.i .i64 (IntKind.i64.wrap (n64 + 1)))]).bind fun h65 =>
 some ([], h65)) : Option (List AV × AH O)).bind fun r66 =>
 ldS r66.2 (.n h.next) 0 fun l68 =>
 ldS r66.2 (.n h.next) 1 fun l70 =>
 ldI r66.2 (.n h.next) 2 fun n72 =>
 ldS r66.2 (.n h.next) 3 fun l74 =>
 ldI r66.2 (.n h.next) 4 fun n76 =>
 ldS r66.2 (.n h.next) 1 fun l78 =>
 (bif ((decide ((0 : Int) <= n6)) && (decide (n6 < (l78.2 : Int)))) then
 (SA.ref l78.1).bind fun q79 =>
 ldU r66.2 q79.1 (q79.2 + (n6.toNat * 1)) fun n81 =>
 (r66.2.st (.n (h.next + 1)) 0 [(.sl l68.1 l68.2), (.sl l70.1 l70.2), (.i .i64 n72), (.sl l74.1 l74.2), (.i .i64 n76)]).bind fun h82 =>
 (chkE (h82.ld (.n h.next) 1) (some (.sl l78.1 l78.2))).bind fun _ =>
 (chkE (h82.ld q79.1 (q79.2 + (n6.toNat * 1))) (some (.i .u64 n81))).bind fun _ =>
 ldS h82 (.n (h.next + 1)) 0 fun l84 =>
 ldS h82 (.n (h.next + 1)) 1 fun l86 =>
 ldI h82 (.n (h.next + 1)) 2 fun n88 =>
 ldS h82 (.n (h.next + 1)) 3 fun l90 =>
 ldI h82 (.n (h.next + 1)) 4 fun n92 =>
 some ((.tup [(.agg [(.sl l84.1 l84.2), (.sl l86.1 l86.2), (.i .i64 n88), (.sl l90.1 l90.2), (.i .i64 n92)]), (.i .u64 n81)]), h82)
 else none)
 else let h93 := h52.bump 2
 let h94 := h93.put h52.next (.cells true 33 [])
 ldS h94 (.n h.next) 1 fun l96 =>
 (h94.rdSl l96.1 l96.2 1).bind fun new97 =>
 (bif (Nat.ble ((0 + l96.2) * 9) 35184372088832) then
 (h94.appSl (h52.next + 1) 33 1 (.loc (.n h52.next) 0 1) 0 l96.2 new97).bind fun r98 =>
 (AV.asSl r98.1).bind fun l99 =>
 (r98.2.st (.n h.next) 1 [(.sl l99.1 l99.2)]).bind fun h100 =>
 let h101 := h100.bump 2
 let h102 := h101.put h100.next (.cells true 42 [])
 ldS h102 (.n h.next) 0 fun l104 =>
 (h102.rdSl l104.1 l104.2 8).bind fun new105 =>
 (bif (Nat.ble ((0 + l104.2) * 97) 35184372088832) then
 (h102.appSl (h100.next + 1) 42 8 (.loc (.n h100.next) 0 8) 0 l104.2 new105).bind fun r106 =>
 (AV.asSl r106.1).bind fun l107 =>
 (r106.2.st (.n h.next) 0 [(.sl l107.1 l107.2)]).bind fun h108 =>
 ldI h108 (.n h9.next) 0 fun n110 =>
 ldI h108 (.n h9.next) 1 fun n112 =>
 ldI h108 (.n h9.next) 2 fun n114 =>
 ldI h108 (.n h9.next) 3 fun n116 =>
 (h108.ld (.n h9.next) 4).bind fun w117 =>
 (AV.asB w117).bind fun b118 =>
 (k14 [(.agg [(.i .i64 n110), (.i .i64 n112), (.i .i64 n114), (.i .i64 n116), (.b b118)])] h108).bind fun r119 =>
 (AV.asAgg 5 r119.1).bind fun c120 =>
 gtI c120 0 fun n121 =>
 gtI c120 1 fun n122 =>
 gtI c120 2 fun n123 =>
 gtI c120 3 fun n124 =>
 (AV.asB (c120.getD 4 .u)).bind fun b125 =>
 (r119.2.st (.n h9.next) 0 [(.i .i64 n121), (.i .i64 n122), (.i .i64 n123), (.i .i64 n124), (.b b125)]).bind fun h126 =>
 (h126.ld (.n h9.next) 4).bind fun w127 =>
 (AV.asB w127).bind fun b128 =>
 ((bif b128 then
 ldI h126 (.n h.next) 4 fun n130 =>
 (h126.st (.n h.next) 4 [(.i .i64 (IntKind.i64.wrap (n130 + 18)))]).bind fun h131 =>
 some ([], h131)
 else ldI h126 (.n h.next) 4 fun n133 =>
 ldI h126 (.n h9.next) 0 fun n135 =>
 ldI h126 (.n h9.next) 1 fun n137 =>
 ldI h126 (.n h9.next) 2 fun n139 =>
 ldI h126 (.n h9.next) 3 fun n141 =>
 (h126.ld (.n h9.next) 4).bind fun w142 =>
 (AV.asB w142).bind fun b143 =>
 ldS h126 (.n h9.next) 5 fun l145 =>
 ldS h126 (.n h9.next) 6 fun l147 =>
 ldU h126 (.n h9.next) 7 fun n149 =>
 (k27 [(.agg [(.i .i64 n135), (.i .i64 n137), (.i .i64 n139), (.i .i64 n141), (.b b143), (.sl l145.1 l145.2), (.sl l147.1 l147.2), (.i .u64 n149)])] h126).bind fun r150 =>
 (AV.asI .i64 r150.1).bind fun n151 =>
 (chkE (r150.2.ld (.n h.next) 4) (some (.i .i64 n133))).bind fun _ =>
 let v152 : Int := (IntKind.i64.wrap (n133 + (IntKind.i64.wrap (2 * n151))))
 (r150.2.st (.n h.next) 4 [(.i .i64 (IntKind.i64.wrap (v152 + 3)))]).bind fun h153 =>
 ldI h153 (.n h.next) 2 fun n155 =>
 let v156 : Int := (IntKind.u64.wrap ((IntKind.u64.wrap (2 * (IntKind.u64.wrap n155))) + 1))
 (h153.st (.n h9.next) 7 [(.i .u64 v156)]).bind fun h157 =>
 ldI h157 (.n h.next) 2 fun n159 =>
 ldI h157 (.n h9.next) 0 fun n161 =>
 ldI h157 (.n h9.next) 1 fun n163 =>
 ldI h157 (.n h9.next) 2 fun n165 =>
 ldI h157 (.n h9.next) 3 fun n167 =>
 (h157.ld (.n h9.next) 4).bind fun w168 =>
 (AV.asB w168).bind fun b169 =>
 ldS h157 (.n h9.next) 5 fun l171 =>
 ldS h157 (.n h9.next) 6 fun l173 =>
 ldU h157 (.n h9.next) 7 fun n175 =>
 (k27 [(.agg [(.i .i64 n161), (.i .i64 n163), (.i .i64 n165), (.i .i64 n167), (.b b169), (.sl l171.1 l171.2), (.sl l173.1 l173.2), (.i .u64 n175)])] h157).bind fun r176 =>
 (AV.asI .i64 r176.1).bind fun n177 =>
 (chkE (r176.2.ld (.n h.next) 2) (some (.i .i64 n159))).bind fun _ =>
 (r176.2.st (.n h.next) 2 [(.i .i64 (IntKind.i64.wrap (n159 + n177)))]).bind fun h178 =>
 some ([], h178)) : Option (List AV × AH O)).bind fun r179 =>
 ldS r179.2 (.n h.next) 1 fun l181 =>
 ldU r179.2 (.n h9.next) 7 fun n183 =>
 (bif ((decide ((0 : Int) <= n6)) && (decide (n6 < (l181.2 : Int)))) then
 (SA.ref l181.1).bind fun q184 =>
 (r179.2.st q184.1 (q184.2 + (n6.toNat * 1)) [(.i .u64 n183)]).bind fun h185 =>
 ldS h185 (.n h.next) 0 fun l187 =>
 ldI h185 (.n h9.next) 0 fun n189 =>
 ldI h185 (.n h9.next) 1 fun n191 =>
 ldI h185 (.n h9.next) 2 fun n193 =>
 ldI h185 (.n h9.next) 3 fun n195 =>
 (h185.ld (.n h9.next) 4).bind fun w196 =>
 (AV.asB w196).bind fun b197 =>
 ldS h185 (.n h9.next) 5 fun l199 =>
 ldS h185 (.n h9.next) 6 fun l201 =>
 ldU h185 (.n h9.next) 7 fun n203 =>
 (bif ((decide ((0 : Int) <= n6)) && (decide (n6 < (l187.2 : Int)))) then
 (SA.ref l187.1).bind fun q204 =>
 (h185.st q204.1 (q204.2 + (n6.toNat * 8)) [(.i .i64 n189), (.i .i64 n191), (.i .i64 n193), (.i .i64 n195), (.b b197), (.sl l199.1 l199.2), (.sl l201.1 l201.2), (.i .u64 n203)]).bind fun h205 =>
 let h206 := h205.bump 4
 let h207 := h206.put h205.next (.cells true 3 [])
 ldS h207 (.n h.next) 3 fun l209 =>
 (h207.rdSl l209.1 l209.2 1).bind fun new210 =>
 (bif (Nat.ble ((0 + l209.2) * 9) 35184372088832) then
 (h207.appSl (h205.next + 1) 3 1 (.loc (.n h205.next) 0 1) 0 l209.2 new210).bind fun r211 =>
 (AV.asSl r211.1).bind fun l212 =>
 let h213 := r211.2.put ((h205.next + 1) + 1) (.cells true 3 [(.i .i64 n6)])
 (h213.rdSl (.loc (.n ((h205.next + 1) + 1)) 0 1) 1 1).bind fun new214 =>
 (bif (Nat.ble ((l212.2 + 1) * 9) 35184372088832) then
 (h213.appSl (((h205.next + 1) + 1) + 1) 3 1 l212.1 l212.2 1 new214).bind fun r215 =>
 (AV.asSl r215.1).bind fun l216 =>
 (r215.2.st (.n h.next) 3 [(.sl l216.1 l216.2)]).bind fun h217 =>
 ldS h217 (.n h.next) 0 fun l219 =>
 ldS h217 (.n h.next) 1 fun l221 =>
 ldI h217 (.n h.next) 2 fun n223 =>
 ldS h217 (.n h.next) 3 fun l225 =>
 ldI h217 (.n h.next) 4 fun n227 =>
 ldU h217 (.n h9.next) 7 fun n229 =>
 (h217.st (.n (h.next + 1)) 0 [(.sl l219.1 l219.2), (.sl l221.1 l221.2), (.i .i64 n223), (.sl l225.1 l225.2), (.i .i64 n227)]).bind fun h230 =>
 (chkE (h230.ld (.n h9.next) 7) (some (.i .u64 n229))).bind fun _ =>
 ldS h230 (.n (h.next + 1)) 0 fun l232 =>
 ldS h230 (.n (h.next + 1)) 1 fun l234 =>
 ldI h230 (.n (h.next + 1)) 2 fun n236 =>
 ldS h230 (.n (h.next + 1)) 3 fun l238 =>
 ldI h230 (.n (h.next + 1)) 4 fun n240 =>
 some ((.tup [(.agg [(.sl l232.1 l232.2), (.sl l234.1 l234.2), (.i .i64 n236), (.sl l238.1 l238.2), (.i .i64 n240)]), (.i .u64 n229)]), h230)
 else none)
 else none)
 else none)
 else none)
 else none)
 else none))
 else none)
 else none))
 else none
def qar : Sm O := frz (qaq qrg qam)
theorem qas : Entered Tryz.prog 21 := Tryz.call21
theorem qat (k14 k27 : Sm O) : run (O := O) Tryz.prog [(14, k14), (27, k27)] Tryz.f21 (.n .z (.n (.n .z (.n .z .z)) (.n .z (.n (.n .z (.n (.n (.n .z (.j false [] .z .z)) (.n (.d [] [0, 1, 2, 3, 4, 5, 6, 7] [0, 0, 2, 0, 14, 30, 1, 127]) .z)) .z)) (.n .z (.n .z (.n .z (.n (.n .z (.j false [] .z (.n (.d [] [0, 1, 2, 3, 4, 5, 6, 7, 8] [0, 1, 0, 4, 12, 31, 63, 127, 255]) (.n .z (.d [] [0, 1, 2, 3, 4, 5, 6] [0, 1, 0, 4, 15, 31, 63]))))) (.n .z (.n .z (.n .z (.n (.d [] [0, 1, 2, 3, 4] [0, 0, 2, 1, 15]) .z)))))))))))) = qaq k14 k27 := by kernel_rfl
theorem qau : FSound RO Tryz.prog 21 (qar) :=
   have h : FSound RO Tryz.prog 21 (qaq qrg qam) := (qat qrg qam) ▸ run_sound (gcons qrh (qrj) <| gcons qan (qap) <| gnil) mixed Tryz.func21 (by kernel_rfl) _
   h.frz
def qav : Sm O := fun xs h =>
 bif Nat.beq xs.length 1 then
 (AV.asAgg 5 (xs.getD 0 .u)).bind fun c0 =>
 gtI c0 0 fun n1 =>
 gtI c0 1 fun n2 =>
 gtI c0 2 fun n3 =>
 gtI c0 3 fun n4 =>
 (AV.asB (c0.getD 4 .u)).bind fun b5 =>
 let h6 := h.bump 1
 let h7 := h6.put h.next (.cells true 39 [(.i .i64 n1), (.i .i64 n2), (.i .i64 n3), (.i .i64 n4), (.b b5)])
 (h7.ld (.n h.next) 4).bind fun w8 =>
 (AV.asB w8).bind fun b9 =>
 ((bif b9 then
 let v10 : Int := (IntKind.u64.wrap (4611686018427387904 + 4294967296))
 some ([(.i .u64 v10)], h7)
 else some ([(.i .u64 4611686018427387904)], h7)) : Option (List AV × AH O)).bind fun r11 =>
 (AV.asI .u64 (r11.1.getD 0 .u)).bind fun n12 =>
 ldI r11.2 (.n h.next) 3 fun n14 =>
 let v15 : Int := (IntKind.u64.wrap ((IntKind.u64.wrap n14) * 536870912))
 ldI r11.2 (.n h.next) 2 fun n17 =>
 let v18 : Int := (IntKind.u64.wrap ((IntKind.u64.wrap n17) * 16777216))
 let v19 : Int := (IntKind.u64.wrap ((IntKind.u64.wrap (n12 + v15)) + v18))
 ldI r11.2 (.n h.next) 1 fun n21 =>
 let v22 : Int := (IntKind.u64.wrap ((IntKind.u64.wrap n21) * 4096))
 ldI r11.2 (.n h.next) 0 fun n24 =>
 let v25 : Int := (IntKind.u64.wrap ((IntKind.u64.wrap (v19 + v22)) + (IntKind.u64.wrap n24)))
 some ((.i .u64 v25), r11.2)
 else none
def qaw : Sm O := qav
theorem qax : Entered Tryz.prog 67 := Tryz.call67
theorem qay : run (O := O) Tryz.prog [] Tryz.f67 (.n .z (.n .z (.n (.n .z (.j false [(3, .one (.i .u64))] .z .z)) .z))) = qav  := by kernel_rfl
theorem qaz : FSound RO Tryz.prog 67 qaw := sdf qay (gnil) Tryz.func67 (by kernel_rfl)
def qa0 (h : AH O) (k56 : Sm O) (p0 : Option (Bid × Nat)) (n1 : Int) : List AV × AH O -> Option ((List AV × AH O) ⊕ ((List AV × AH O) ⊕ (AV × AH O))) := (fun r47 =>
 (AV.asI .i64 (r47.1.getD 0 .u)).bind fun n48 =>
 ldS r47.2 (.n h.next) 6 fun l50 =>
 (bif (decide (n48 < (l50.2 : Int))) then
 ldS r47.2 (.n h.next) 5 fun l52 =>
 let v53 : Int := (IntKind.i64.wrap ((IntKind.i64.wrap (1 + (l52.2 : Int))) + n48))
 (k56 [(.p p0), (.i .u64 n1), (.i .i64 v53)] r47.2).bind fun r54 =>
 (AV.asTup 2 r54.1).bind fun c55 =>
 gtU c55 0 fun n56 =>
 gtI c55 1 fun n57 =>
 ldS r54.2 (.n h.next) 6 fun l59 =>
 (bif ((decide ((0 : Int) <= n48)) && (decide (n48 < (l59.2 : Int)))) then
 (SA.ref l59.1).bind fun q60 =>
 ldU r54.2 q60.1 (q60.2 + (n48.toNat * 1)) fun n62 =>
 ((bif (((n56 : Int) != n62) == false) then
 some ([(.b ((n57 : Int) != 0))], r54.2)
 else some ([(.b true)], r54.2)) : Option (List AV × AH O)).bind fun r63 =>
 (AV.asB (r63.1.getD 0 .u)).bind fun b64 =>
 (bif b64 then
 ((some ((.b false), r63.2) : Option (AV × AH O)).map fun r => Sum.inr (Sum.inr r))
 else some (Sum.inl ([(.i .i64 (IntKind.i64.wrap (n48 + 1)))], r63.2)))
 else none)
 else some (Sum.inr (Sum.inl ([], r47.2)))))
def qa1 (h : AH O) (k56 : Sm O) (p0 : Option (Bid × Nat)) (n1 : Int) : List AV × AH O -> Option ((List AV × AH O) ⊕ ((List AV × AH O) ⊕ (AV × AH O))) := (fun r31 =>
 (AV.asI .i64 (r31.1.getD 0 .u)).bind fun n32 =>
 ldS r31.2 (.n h.next) 5 fun l34 =>
 (bif (decide (n32 < (l34.2 : Int))) then
 (k56 [(.p p0), (.i .u64 n1), (.i .i64 (IntKind.i64.wrap (1 + n32)))] r31.2).bind fun r35 =>
 (AV.asTup 2 r35.1).bind fun c36 =>
 gtU c36 0 fun n37 =>
 gtI c36 1 fun n38 =>
 ldS r35.2 (.n h.next) 5 fun l40 =>
 (bif ((decide ((0 : Int) <= n32)) && (decide (n32 < (l40.2 : Int)))) then
 (SA.ref l40.1).bind fun q41 =>
 ldU r35.2 q41.1 (q41.2 + (n32.toNat * 1)) fun n43 =>
 ((bif (((n37 : Int) != n43) == false) then
 some ([(.b ((n38 : Int) != 0))], r35.2)
 else some ([(.b true)], r35.2)) : Option (List AV × AH O)).bind fun r44 =>
 (AV.asB (r44.1.getD 0 .u)).bind fun b45 =>
 (bif b45 then
 ((some ((.b false), r44.2) : Option (AV × AH O)).map fun r => Sum.inr (Sum.inr r))
 else some (Sum.inl ([(.i .i64 (IntKind.i64.wrap (n32 + 1)))], r44.2)))
 else none)
 else some (Sum.inr (Sum.inl ([], r31.2)))))
def qa2 (k56 k67 : Sm O) : Sm O := fun xs h =>
 bif Nat.beq xs.length 3 then
 (AV.asP (xs.getD 0 .u)).bind fun p0 =>
 gtU xs 1 fun n1 =>
 (AV.asAgg 8 (xs.getD 2 .u)).bind fun c2 =>
 gtI c2 0 fun n3 =>
 gtI c2 1 fun n4 =>
 gtI c2 2 fun n5 =>
 gtI c2 3 fun n6 =>
 (AV.asB (c2.getD 4 .u)).bind fun b7 =>
 gtS c2 5 fun l8 =>
 gtS c2 6 fun l9 =>
 gtU c2 7 fun n10 =>
 let h11 := h.bump 1
 let h12 := h11.put h.next (.cells true 42 [(.i .i64 n3), (.i .i64 n4), (.i .i64 n5), (.i .i64 n6), (.b b7), (.sl l8.1 l8.2), (.sl l9.1 l9.2), (.i .u64 n10)])
 (k56 [(.p p0), (.i .u64 n1), (.i .i64 0)] h12).bind fun r13 =>
 (AV.asTup 2 r13.1).bind fun c14 =>
 gtU c14 0 fun n15 =>
 gtI c14 1 fun n16 =>
 ldI r13.2 (.n h.next) 0 fun n18 =>
 ldI r13.2 (.n h.next) 1 fun n20 =>
 ldI r13.2 (.n h.next) 2 fun n22 =>
 ldI r13.2 (.n h.next) 3 fun n24 =>
 (r13.2.ld (.n h.next) 4).bind fun w25 =>
 (AV.asB w25).bind fun b26 =>
 (k67 [(.agg [(.i .i64 n18), (.i .i64 n20), (.i .i64 n22), (.i .i64 n24), (.b b26)])] r13.2).bind fun r27 =>
 (AV.asI .u64 r27.1).bind fun n28 =>
 ((bif (((n15 : Int) != n28) == false) then
 some ([(.b ((n16 : Int) != 0))], r27.2)
 else some ([(.b true)], r27.2)) : Option (List AV × AH O)).bind fun r29 =>
 (AV.asB (r29.1.getD 0 .u)).bind fun b30 =>
 (bif b30 then
 some ((.b false), r29.2)
 else bindS (S := List AV × AH O) (R := (AV × AH O)) (loopF (S := List AV × AH O) (T := (List AV × AH O) ⊕ (AV × AH O)) (qa1 h k56 p0 n1) ([(.i .i64 0)], r29.2)) fun r46 =>
 bindS (S := List AV × AH O) (R := (AV × AH O)) (loopF (S := List AV × AH O) (T := (List AV × AH O) ⊕ (AV × AH O)) (qa0 h k56 p0 n1) ([(.i .i64 0)], r46.2)) fun r65 =>
 some ((.b true), r65.2))
 else none
def qa3 : Sm O := qa2 qly qaw
theorem qa4 : Entered Tryz.prog 26 := Tryz.call26
theorem qa5 (k56 k67 : Sm O) : run (O := O) Tryz.prog [(56, k56), (67, k67)] Tryz.f26 (.n .z (.n .z (.n (.n (.g [(5, 2, [(29, .one .b)])]) (.n .z .z)) (.n (.n .z (.n (.lp true 0 [(9, .one (.i .i64))] [] (.n (.n .z .z) (.n (.n (.n .z (.n (.g [(7, 2, [(55, .one .b)])]) (.n .z .z))) .z) .z))) .z)) (.n (.n .z (.n (.lp true 2 [(12, .one (.i .i64))] [] (.n (.n .z .z) (.n (.n (.n .z (.n (.g [(7, 2, [(85, .one .b)])]) (.n .z .z))) .z) .z))) .z)) .z))))) = qa2 k56 k67 := by kernel_rfl
theorem qa6 : FSound RO Tryz.prog 26 qa3 := sdf (qa5 _ _) (gcons qlz ql1 <| gcons qax qaz <| gnil) Tryz.func26 (by kernel_rfl)
def qa7 (l9 : SA × Nat) (k25 : Sm O) (p14 : Option (Bid × Nat)) (h61 : AH O) (k26 : Sm O) (p8 : Option (Bid × Nat)) : List AV × AH O -> Option ((List AV × AH O) ⊕ ((List AV × AH O) ⊕ (AV × AH O))) := (fun r179 =>
 (AV.asI .i64 (r179.1.getD 0 .u)).bind fun n180 =>
 (bif (decide (n180 < (l9.2 : Int))) then
 (bif ((decide ((0 : Int) <= n180)) && (decide (n180 < (l9.2 : Int)))) then
 (SA.ref l9.1).bind fun q181 =>
 ldU r179.2 q181.1 ((q181.2 + (n180.toNat * 8)) + 7) fun n183 =>
 (k25 [(.p p14), (.i .u64 n183)] r179.2).bind fun r184 =>
 (AV.asI .u64 r184.1).bind fun n185 =>
 ldS r184.2 (.n h61.next) 1 fun l187 =>
 (bif ((decide ((0 : Int) <= n180)) && (decide (n180 < (l187.2 : Int)))) then
 (SA.ref l187.1).bind fun q188 =>
 ldU r184.2 q188.1 (q188.2 + (n180.toNat * 1)) fun n190 =>
 ((bif (((n185 : Int) != n190) == false) then
 ldS r184.2 (.n h61.next) 1 fun l192 =>
 (bif ((decide ((0 : Int) <= n180)) && (decide (n180 < (l192.2 : Int)))) then
 (SA.ref l192.1).bind fun q193 =>
 ldU r184.2 q193.1 (q193.2 + (n180.toNat * 1)) fun n195 =>
 ((bif (((n195 : Int) != 0) == true) then
 ldS r184.2 (.n h61.next) 0 fun l197 =>
 (bif ((decide ((0 : Int) <= n180)) && (decide (n180 < (l197.2 : Int)))) then
 (SA.ref l197.1).bind fun q198 =>
 ldI r184.2 q198.1 (q198.2 + (n180.toNat * 8)) fun n200 =>
 ldI r184.2 q198.1 ((q198.2 + (n180.toNat * 8)) + 1) fun n202 =>
 ldI r184.2 q198.1 (((q198.2 + (n180.toNat * 8)) + 1) + 1) fun n204 =>
 ldI r184.2 q198.1 ((((q198.2 + (n180.toNat * 8)) + 1) + 1) + 1) fun n206 =>
 (r184.2.ld q198.1 (((((q198.2 + (n180.toNat * 8)) + 1) + 1) + 1) + 1)).bind fun w207 =>
 (AV.asB w207).bind fun b208 =>
 ldS r184.2 q198.1 ((((((q198.2 + (n180.toNat * 8)) + 1) + 1) + 1) + 1) + 1) fun l210 =>
 ldS r184.2 q198.1 (((((((q198.2 + (n180.toNat * 8)) + 1) + 1) + 1) + 1) + 1) + 1) fun l212 =>
 ldU r184.2 q198.1 ((((((((q198.2 + (n180.toNat * 8)) + 1) + 1) + 1) + 1) + 1) + 1) + 1) fun n214 =>
 (k26 [(.p p8), (.i .u64 n185), (.agg [(.i .i64 n200), (.i .i64 n202), (.i .i64 n204), (.i .i64 n206), (.b b208), (.sl l210.1 l210.2), (.sl l212.1 l212.2), (.i .u64 n214)])] r184.2).bind fun r215 =>
 (AV.asB r215.1).bind fun b216 =>
 some ([(.b (!b216))], r215.2)
 else none)
 else some ([(.b false)], r184.2)) : Option (List AV × AH O)).bind fun r217 =>
 (AV.asB (r217.1.getD 0 .u)).bind fun b218 =>
 some ([(.b b218)], r217.2)
 else none)
 else some ([(.b true)], r184.2)) : Option (List AV × AH O)).bind fun r219 =>
 (AV.asB (r219.1.getD 0 .u)).bind fun b220 =>
 (bif b220 then
 ((some ((.b false), r219.2) : Option (AV × AH O)).map fun r => Sum.inr (Sum.inr r))
 else some (Sum.inl ([(.i .i64 (IntKind.i64.wrap (n180 + 1)))], r219.2)))
 else none)
 else none)
 else some (Sum.inr (Sum.inl ([], r179.2)))))
def qa8 (r6 : AV × AH O) (h61 : AH O) : List AV × AH O -> Option ((List AV × AH O) ⊕ ((List AV × AH O) ⊕ (AV × AH O))) := (fun r143 =>
 (AV.asI .i64 (r143.1.getD 0 .u)).bind fun n144 =>
 ldS r143.2 (.n r6.2.next) 0 fun l146 =>
 (bif (decide (n144 < (l146.2 : Int))) then
 ldS r143.2 (.n r6.2.next) 0 fun l148 =>
 (bif ((decide ((0 : Int) <= n144)) && (decide (n144 < (l148.2 : Int)))) then
 (SA.ref l148.1).bind fun q149 =>
 ldI r143.2 q149.1 (q149.2 + (n144.toNat * 5)) fun n151 =>
 ldI r143.2 q149.1 ((q149.2 + (n144.toNat * 5)) + 1) fun n153 =>
 ldI r143.2 q149.1 (((q149.2 + (n144.toNat * 5)) + 1) + 1) fun n155 =>
 ldI r143.2 q149.1 ((((q149.2 + (n144.toNat * 5)) + 1) + 1) + 1) fun n157 =>
 (r143.2.ld q149.1 (((((q149.2 + (n144.toNat * 5)) + 1) + 1) + 1) + 1)).bind fun w158 =>
 (AV.asB w158).bind fun b159 =>
 ldS r143.2 (.n h61.next) 0 fun l161 =>
 ldS r143.2 (.n h61.next) 3 fun l163 =>
 (bif ((decide ((0 : Int) <= n144)) && (decide (n144 < (l163.2 : Int)))) then
 (SA.ref l163.1).bind fun q164 =>
 ldI r143.2 q164.1 (q164.2 + (n144.toNat * 1)) fun n166 =>
 (bif ((decide ((0 : Int) <= n166)) && (decide (n166 < (l161.2 : Int)))) then
 (SA.ref l161.1).bind fun q167 =>
 ldI r143.2 q167.1 (q167.2 + (n166.toNat * 8)) fun n169 =>
 ldI r143.2 q167.1 ((q167.2 + (n166.toNat * 8)) + 1) fun n171 =>
 ldI r143.2 q167.1 (((q167.2 + (n166.toNat * 8)) + 1) + 1) fun n173 =>
 ldI r143.2 q167.1 ((((q167.2 + (n166.toNat * 8)) + 1) + 1) + 1) fun n175 =>
 (r143.2.ld q167.1 (((((q167.2 + (n166.toNat * 8)) + 1) + 1) + 1) + 1)).bind fun w176 =>
 (AV.asB w176).bind fun b177 =>
 (bif (!((((n151 : Int) == n169) && (((n153 : Int) == n171) && true)) && (((n155 : Int) == n173) && (((n157 : Int) == n175) && ((b159 == b177) && true))))) then
 ((some ((.b false), r143.2) : Option (AV × AH O)).map fun r => Sum.inr (Sum.inr r))
 else some (Sum.inl ([(.i .i64 (IntKind.i64.wrap (n144 + 1)))], r143.2)))
 else none)
 else none)
 else none)
 else some (Sum.inr (Sum.inl ([], r143.2)))))
def qa9 (l1 : SA × Nat) (l9 : SA × Nat) (h61 : AH O) (k21 : Sm O) (k12 : Sm O) (p14 : Option (Bid × Nat)) (k22 : Sm O) (r48 : List AV × AH O) (k16 : Sm O) (p8 : Option (Bid × Nat)) (k19 : Sm O) (k18 : Sm O) (k23 : Sm O) (k24 : Sm O) : List AV × AH O -> Option ((List AV × AH O) ⊕ ((List AV × AH O) ⊕ (AV × AH O))) := (fun r72 =>
 (AV.asI .i64 (r72.1.getD 0 .u)).bind fun n73 =>
 (bif (decide (n73 < (l1.2 : Int))) then
 (bif ((decide ((0 : Int) <= n73)) && (decide (n73 < (l1.2 : Int)))) then
 (SA.ref l1.1).bind fun q74 =>
 (r72.2.ld q74.1 (q74.2 + (n73.toNat * 1))).bind fun w75 =>
 (AV.asI .u8 w75).bind fun n76 =>
 (bif ((IntKind.i64.wrap ((l9.2 : Int) + 1)) == 0) then
 none
 else let v77 : Int := (Int.tmod (IntKind.i64.wrap n76) (IntKind.i64.wrap ((l9.2 : Int) + 1)))
 ((bif (decide ((IntKind.i64.wrap (v77 - 1)) >= 0)) then
 (bif ((decide ((0 : Int) <= (IntKind.i64.wrap (v77 - 1)))) && (decide ((IntKind.i64.wrap (v77 - 1)) < (l9.2 : Int)))) then
 (SA.ref l9.1).bind fun q78 =>
 ldU r72.2 q78.1 ((q78.2 + ((IntKind.i64.wrap (v77 - 1)).toNat * 8)) + 7) fun n80 =>
 some ([(.i .u64 n80)], r72.2)
 else none)
 else some ([(.i .u64 0)], r72.2)) : Option (List AV × AH O)).bind fun r81 =>
 (AV.asI .u64 (r81.1.getD 0 .u)).bind fun n82 =>
 ldS r81.2 (.n h61.next) 0 fun l84 =>
 ldS r81.2 (.n h61.next) 1 fun l86 =>
 ldI r81.2 (.n h61.next) 2 fun n88 =>
 ldS r81.2 (.n h61.next) 3 fun l90 =>
 ldI r81.2 (.n h61.next) 4 fun n92 =>
 (k21 [(.agg [(.sl l84.1 l84.2), (.sl l86.1 l86.2), (.i .i64 n88), (.sl l90.1 l90.2), (.i .i64 n92)]), (.i .i64 (IntKind.i64.wrap (v77 - 1)))] r81.2).bind fun r93 =>
 (AV.asTup 2 r93.1).bind fun c94 =>
 (AV.asAgg 5 (c94.getD 0 .u)).bind fun c95 =>
 gtS c95 0 fun l96 =>
 gtS c95 1 fun l97 =>
 gtI c95 2 fun n98 =>
 gtS c95 3 fun l99 =>
 gtI c95 4 fun n100 =>
 gtU c94 1 fun n101 =>
 (r93.2.st (.n h61.next) 0 [(.sl l96.1 l96.2), (.sl l97.1 l97.2), (.i .i64 n98), (.sl l99.1 l99.2), (.i .i64 n100)]).bind fun h102 =>
 (k12 [(.p p14), (.i .u64 n82)] h102).bind fun r103 =>
 (AV.asI .u64 r103.1).bind fun n104 =>
 ((bif (((n104 : Int) != n101) == false) then
 ldS r103.2 (.n h61.next) 3 fun l106 =>
 (k22 [(.p p14)] r103.2).bind fun r107 =>
 (AV.asI .i64 r107.1).bind fun n108 =>
 (chkE (r107.2.ld (.n h61.next) 3) (some (.sl l106.1 l106.2))).bind fun _ =>
 some ([(.b ((n108 : Int) != (l106.2 : Int)))], r107.2)
 else some ([(.b true)], r103.2)) : Option (List AV × AH O)).bind fun r109 =>
 (AV.asB (r109.1.getD 0 .u)).bind fun b110 =>
 ((bif (b110 == false) then
 ldU r109.2 (.n r48.2.next) 0 fun n112 =>
 ldU r109.2 (.n r48.2.next) 1 fun n114 =>
 ldI r109.2 (.n h61.next) 4 fun n116 =>
 (k16 [(.p p8)] r109.2).bind fun r117 =>
 (AV.asP r117.1).bind fun p118 =>
 (chkE (r117.2.ld (.n r48.2.next) 0) (some (.i .u64 n112))).bind fun _ =>
 (chkE (r117.2.ld (.n r48.2.next) 1) (some (.i .u64 n114))).bind fun _ =>
 (chkE (r117.2.ld (.n h61.next) 4) (some (.i .i64 n116))).bind fun _ =>
 Option.bind p118 fun q119 =>
 ldP r117.2 q119.1 q119.2 fun p121 =>
 (k19 [(.p p121), (.agg [(.i .u64 n112), (.i .u64 n114)])] r117.2).bind fun r122 =>
 (AV.asAgg 2 r122.1).bind fun c123 =>
 gtU c123 0 fun n124 =>
 gtU c123 1 fun n125 =>
 (chkE (r122.2.ld (.n h61.next) 4) (some (.i .i64 n116))).bind fun _ =>
 (k18 [(.agg [(.i .u64 n124), (.i .u64 n125)]), (.agg [(.i .u64 0), (.i .u64 (IntKind.u64.wrap n116))])] r122.2).bind fun r126 =>
 (AV.asI .i64 r126.1).bind fun n127 =>
 some ([(.b (decide (n127 > 0)))], r126.2)
 else some ([(.b true)], r109.2)) : Option (List AV × AH O)).bind fun r128 =>
 (AV.asB (r128.1.getD 0 .u)).bind fun b129 =>
 ((bif (b129 == false) then
 ldI r128.2 (.n h61.next) 2 fun n131 =>
 (k23 [(.p p8)] r128.2).bind fun r132 =>
 (AV.asP r132.1).bind fun p133 =>
 (chkE (r132.2.ld (.n h61.next) 2) (some (.i .i64 n131))).bind fun _ =>
 (k24 [(.p p133)] r132.2).bind fun r134 =>
 (AV.asI .i64 r134.1).bind fun n135 =>
 (chkE (r134.2.ld (.n h61.next) 2) (some (.i .i64 n131))).bind fun _ =>
 some ([(.b ((n135 : Int) != n131))], r134.2)
 else some ([(.b true)], r128.2)) : Option (List AV × AH O)).bind fun r136 =>
 (AV.asB (r136.1.getD 0 .u)).bind fun b137 =>
 (bif b137 then
 ((some ((.b false), r136.2) : Option (AV × AH O)).map fun r => Sum.inr (Sum.inr r))
 else some (Sum.inl ([(.i .i64 (IntKind.i64.wrap (n73 + 1)))], r136.2))))
 else none)
 else some (Sum.inr (Sum.inl ([], r72.2)))))
def qba (k8 k9 k15 k10 k16 k17 k11 k19 k18 k20 k21 k12 k22 k23 k24 k25 k26 : Sm O) : Sm O := fun xs h =>
 bif Nat.beq xs.length 2 then
 gtS xs 0 fun l0 =>
 gtS xs 1 fun l1 =>
 (k8 [] h).bind fun r2 =>
 (AV.asB r2.1).bind fun b3 =>
 (bif (!b3) then
 some ((.b false), r2.2)
 else ((bif ((decide ((l0.2 : Int) > 16)) == false) then
 some ([(.b (decide ((l1.2 : Int) > 60)))], r2.2)
 else some ([(.b true)], r2.2)) : Option (List AV × AH O)).bind fun r4 =>
 (AV.asB (r4.1.getD 0 .u)).bind fun b5 =>
 (bif b5 then
 some ((.b true), r4.2)
 else (k9 [(.sl l0.1 l0.2)] r4.2).bind fun r6 =>
 (AV.asTup 3 r6.1).bind fun c7 =>
 (AV.asP (c7.getD 0 .u)).bind fun p8 =>
 gtS c7 1 fun l9 =>
 (AV.asB (c7.getD 2 .u)).bind fun b10 =>
 (bif (!b10) then
 some ((.b false), r6.2)
 else let h11 := r6.2.bump 1
 let h12 := h11.put r6.2.next (.cells true 48 [(.sl .nil 0)])
 (k10 [(.p p8), (.fn (some (.func 15, [], [(.p (some ((.n r6.2.next), 0)))])))] h12).bind fun r13 =>
 (AV.asP r13.1).bind fun p14 =>
 let h15 := r13.2.bump 1
 (k16 [(.p p8)] h15).bind fun r16 =>
 (AV.asP r16.1).bind fun p17 =>
 Option.bind p17 fun q18 =>
 ldP r16.2 q18.1 q18.2 fun p20 =>
 (k17 [(.p p20)] r16.2).bind fun r21 =>
 (AV.asAgg 2 r21.1).bind fun c22 =>
 gtU c22 0 fun n23 =>
 gtU c22 1 fun n24 =>
 let h25 := r21.2.put r13.2.next (.cells true 51 [(.i .u64 0), (.i .u64 0)])
 (h25.st (.n r13.2.next) 0 [(.i .u64 n23), (.i .u64 n24)]).bind fun h26 =>
 (k11 [(.p p14)] h26).bind fun r27 =>
 (AV.asI .i64 r27.1).bind fun n28 =>
 ((bif (((n28 : Int) != 0) == false) then
 (k11 [(.p p14)] r27.2).bind fun r29 =>
 (AV.asI .i64 r29.1).bind fun n30 =>
 some ([(.b ((n30 : Int) != 1))], r29.2)
 else some ([(.b true)], r27.2)) : Option (List AV × AH O)).bind fun r31 =>
 (AV.asB (r31.1.getD 0 .u)).bind fun b32 =>
 ((bif (b32 == false) then
 ldU r31.2 (.n r13.2.next) 0 fun n34 =>
 ldU r31.2 (.n r13.2.next) 1 fun n36 =>
 (k16 [(.p p8)] r31.2).bind fun r37 =>
 (AV.asP r37.1).bind fun p38 =>
 (chkE (r37.2.ld (.n r13.2.next) 0) (some (.i .u64 n34))).bind fun _ =>
 (chkE (r37.2.ld (.n r13.2.next) 1) (some (.i .u64 n36))).bind fun _ =>
 Option.bind p38 fun q39 =>
 ldP r37.2 q39.1 q39.2 fun p41 =>
 (k19 [(.p p41), (.agg [(.i .u64 n34), (.i .u64 n36)])] r37.2).bind fun r42 =>
 (AV.asAgg 2 r42.1).bind fun c43 =>
 gtU c43 0 fun n44 =>
 gtU c43 1 fun n45 =>
 (k18 [(.agg [(.i .u64 n44), (.i .u64 n45)]), (.agg [(.i .u64 0), (.i .u64 2)])] r42.2).bind fun r46 =>
 (AV.asI .i64 r46.1).bind fun n47 =>
 some ([(.b (decide (n47 > 0)))], r46.2)
 else some ([(.b true)], r31.2)) : Option (List AV × AH O)).bind fun r48 =>
 (AV.asB (r48.1.getD 0 .u)).bind fun b49 =>
 (bif b49 then
 some ((.b false), r48.2)
 else let h50 := r48.2.bump 1
 (k16 [(.p p8)] h50).bind fun r51 =>
 (AV.asP r51.1).bind fun p52 =>
 Option.bind p52 fun q53 =>
 ldP r51.2 q53.1 q53.2 fun p55 =>
 (k17 [(.p p55)] r51.2).bind fun r56 =>
 (AV.asAgg 2 r56.1).bind fun c57 =>
 gtU c57 0 fun n58 =>
 gtU c57 1 fun n59 =>
 let h60 := r56.2.put r48.2.next (.cells true 51 [(.i .u64 0), (.i .u64 0)])
 (h60.st (.n r48.2.next) 0 [(.i .u64 n58), (.i .u64 n59)]).bind fun h61 =>
 let h62 := h61.bump 1
 (k20 [(.sl l9.1 l9.2)] h62).bind fun r63 =>
 (AV.asAgg 5 r63.1).bind fun c64 =>
 gtS c64 0 fun l65 =>
 gtS c64 1 fun l66 =>
 gtI c64 2 fun n67 =>
 gtS c64 3 fun l68 =>
 gtI c64 4 fun n69 =>
 let h70 := r63.2.put h61.next (.cells true 63 [(.sl .nil 0), (.sl .nil 0), (.i .i64 0), (.sl .nil 0), (.i .i64 0)])
 (h70.st (.n h61.next) 0 [(.sl l65.1 l65.2), (.sl l66.1 l66.2), (.i .i64 n67), (.sl l68.1 l68.2), (.i .i64 n69)]).bind fun h71 =>
 bindS (S := List AV × AH O) (R := (AV × AH O)) (loopF (S := List AV × AH O) (T := (List AV × AH O) ⊕ (AV × AH O)) (qa9 l1 l9 h61 k21 k12 p14 k22 r48 k16 p8 k19 k18 k23 k24) ([(.i .i64 0)], h71)) fun r138 =>
 ldS r138.2 (.n r6.2.next) 0 fun l140 =>
 ldS r138.2 (.n h61.next) 3 fun l142 =>
 (bif (((l140.2 : Int) : Int) != (l142.2 : Int)) then
 some ((.b false), r138.2)
 else bindS (S := List AV × AH O) (R := (AV × AH O)) (loopF (S := List AV × AH O) (T := (List AV × AH O) ⊕ (AV × AH O)) (qa8 r6 h61) ([(.i .i64 0)], r138.2)) fun r178 =>
 bindS (S := List AV × AH O) (R := (AV × AH O)) (loopF (S := List AV × AH O) (T := (List AV × AH O) ⊕ (AV × AH O)) (qa7 l9 k25 p14 h61 k26 p8) ([(.i .i64 0)], r178.2)) fun r221 =>
 (k25 [(.p p14), (.i .u64 0)] r221.2).bind fun r222 =>
 (AV.asI .u64 r222.1).bind fun n223 =>
 some ((.b ((n223 : Int) == 0)), r222.2))))))
 else none
def law20_EvacMoves : Sm O := qba qrb qna qps qnk qcz qrq qoe qsa qac qah qar qqw qq1 qcp qnu qq6 qa3
theorem qbb (k8 k9 k15 k10 k16 k17 k11 k19 k18 k20 k21 k12 k22 k23 k24 k25 k26 : Sm O) : run (O := O) Tryz.prog [(8, k8), (9, k9), (15, k15), (10, k10), (16, k16), (17, k17), (11, k11), (19, k19), (18, k18), (20, k20), (21, k21), (12, k12), (22, k22), (23, k23), (24, k24), (25, k25), (26, k26)] Tryz.f4 (.n .z (.n (.n .z (.n .z .z)) (.n (.n (.g [(3, 3, [(30, .one .b)])]) (.n .z .z)) (.n .z (.n (.n .z (.n .z .z)) (.n .z (.n .z (.n .z (.n (.n (.d [(3, 3, [(55, .one .b)]), (8, 10, [(67, .one .b)])] [0, 1, 2, 3, 4, 5, 6, 7, 8, 9, 14, 16, 10, 11, 12, 13, 15, 17, 18, 19] [0, 1, 3, 7, 15, 31, 63, 127, 255, 511, 1023, 2047, 4095, 8191, 511, 32767, 511, 131071, 262143, 524287]) (.n .z .z)) (.n .z (.n .z (.n (.n .z (.n (.lp true 0 [(13, .one (.i .i64))] [] (.n (.n .z .z) (.n (.n (.n .z (.n .z (.n (.n .z (.j false [(15, .one (.i .u64))] .z .z)) (.n .z (.n .z (.n .z (.n (.d [(3, 6, [(118, .one .b)]), (11, 13, [(133, .one .b)]), (26, 6, [(141, .one .b)])] [0, 1, 2, 3, 4, 6, 7, 8, 5, 9, 10, 11, 12, 17, 19, 20, 21, 22, 13, 14, 15, 16, 18, 23, 24, 25, 26, 27, 30, 31, 28, 29, 32, 33] [0, 0, 3, 7, 15, 31, 15, 79, 207, 511, 1023, 2047, 4095, 8191, 16383, 32767, 65535, 4095, 262143, 4095, 528383, 1576959, 3674111, 8388607, 16777215, 33554431, 67108863, 134217727, 268435455, 536870911, 134217727, 1207959551, 4294967295, 8589934591]) (.n .z .z)))))))) .z) .z))) .z)) (.n (.n .z (.n .z .z)) (.n (.n .z (.n (.lp true 2 [(18, .one (.i .i64))] [] (.n (.n .z .z) (.n (.n (.n (.d [] [0, 1, 2, 3, 4, 5, 6, 7, 8, 9, 10, 11, 12, 13, 14] [0, 0, 3, 7, 0, 16, 0, 64, 0, 448, 960, 2032, 4080, 8176, 16383]) (.n .z .z)) .z) .z))) .z)) (.n (.n .z (.n (.lp true 4 [(19, .one (.i .i64))] [] (.n (.n .z .z) (.n (.n (.n .z (.n (.g [(7, 17, [(207, .one .b)]), (14, 9, [(206, .one .b)])]) (.n .z .z))) .z) .z))) .z)) .z))))))))))))))) = qba k8 k9 k15 k10 k16 k17 k11 k19 k18 k20 k21 k12 k22 k23 k24 k25 k26 := by kernel_rfl
theorem law20_EvacMoves_sound : FSound RO Tryz.prog 4 law20_EvacMoves := sdf (qbb _ _ _ _ _ _ _ _ _ _ _ _ _ _ _ _ _) (gcons qrc qre <| gcons qnb qnd <| gcons qpt qpv <| gcons qnl qnn <| gcons qc0 qc2 <| gcons qrr qrt <| gcons qof qoh <| gcons qsb qsd <| gcons qad qaf <| gcons qai qak <| gcons qas qau <| gcons qqx qqz <| gcons qq2 qq4 <| gcons qcq qcs <| gcons qnv qnx <| gcons qq7 qq9 <| gcons qa4 qa6 <| gnil) Tryz.func4 (by kernel_rfl)
end
end Go.Abs.Tryz
