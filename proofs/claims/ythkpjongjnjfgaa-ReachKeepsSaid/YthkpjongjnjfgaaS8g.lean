/-
  What functions of the program do. No conditions.
-/
import Derived.Test.YthkpjongjnjfgaaAbsExtern
import Derived.Test.YthkpjongjnjfgaaAbsWord
import Derived.Test.YthkpjongjnjfgaaS8s
import Derived.Test.YthkpjongjnjfgaaProg
import Derived.KernelRfl
set_option linter.unusedVariables false
set_option linter.unusedSimpArgs false
set_option linter.constructorNameAsVariable false
set_option maxRecDepth 100000
namespace Go.Abs.Try
open Go Go.Abs Go.Proofs
noncomputable section
variable {O : Type} {RO : O -> Loc -> (Nat -> Option Obj) -> Prop}
theorem mixed : Try.prog.follows .mixedOrders = true := by kernel_rfl
theorem sdf {G : List (FuncId × Sm O)} {f : FuncId} {fn : Func} {an : Ann} {s : Sm O} (e : run Try.prog G fn an = s) (hG : GSound RO Try.prog G) (hf : Try.prog.funcs[f]? = some fn) (hk : fnOK fn = true) : FSound RO Try.prog f s := e ▸ run_sound hG mixed hf hk an
abbrev T_int : Nat := 3
abbrev T_uint64 : Nat := 54
abbrev T_law36_Op : Nat := 56
abbrev T_haymowref36_Node : Nat := 76
abbrev T_graph_Graph : Nat := 112
abbrev T_graph_node : Nat := 116
def graph_New_c : Sm O := fun xs h =>
 bif Nat.beq xs.length 0 then
 let h0 := h.bump 2
 let h1 := h0.put h.next (.map [] [] 0)
 let h2 := h1.put (h.next + 1) (.cells true 112 [(.mp (some h.next)), (.i .i64 0)])
 some ((.p (some ((.n (h.next + 1)), 0))), h2)
 else none
def graph_New : Sm O := graph_New_c
theorem graph_New_ent : Entered Try.prog 22 := Try.call22
theorem graph_New_run : run (O := O) Try.prog [] Try.f22 (.n .z .z) = graph_New_c  := by kernel_rfl
theorem graph_New_sound : FSound RO Try.prog 22 graph_New := sdf graph_New_run (gnil) Try.func22 (by kernel_rfl)
def header_within_c : Sm O := fun xs h =>
 bif Nat.beq xs.length 2 then
 gtI xs 0 fun n0 =>
 gtI xs 1 fun n1 =>
 ((bif ((decide (n0 >= 0)) == true) then
 some ([(.b (decide (n0 <= n1)))], h)
 else some ([(.b false)], h)) : Option (List AV × AH O)).bind fun r2 =>
 (AV.asB (r2.1.getD 0 .u)).bind fun b3 =>
 some ((.b b3), r2.2)
 else none
def header_within : Sm O := header_within_c
theorem header_within_ent : Entered Try.prog 101 := Try.call101
theorem header_within_run : run (O := O) Try.prog [] Try.f101 (.n .z (.n (.g [(2, 3, [(11, .one .b)])]) .z)) = header_within_c  := by kernel_rfl
theorem header_within_sound : FSound RO Try.prog 101 header_within := sdf header_within_run (gnil) Try.func101 (by kernel_rfl)
def header_Check_c (k101 : Sm O) : Sm O := fun xs h =>
 bif Nat.beq xs.length 1 then
 (AV.asAgg 5 (xs.getD 0 .u)).bind fun c0 =>
 gtI c0 0 fun n1 =>
 gtI c0 1 fun n2 =>
 gtI c0 2 fun n3 =>
 gtI c0 3 fun n4 =>
 (AV.asB (c0.getD 4 .u)).bind fun b5 =>
 let h6 := h.bump 1
 let h7 := h6.put h.next (.cells true 53 [(.i .i64 n1), (.i .i64 n2), (.i .i64 n3), (.i .i64 n4), (.b b5)])
 ldI h7 (.n h.next) 0 fun n9 =>
 (k101 [(.i .i64 n9), (.i .i64 4095)] h7).bind fun r10 =>
 (AV.asB r10.1).bind fun b11 =>
 ((bif ((!b11) == false) then
 ldI r10.2 (.n h.next) 1 fun n13 =>
 (k101 [(.i .i64 n13), (.i .i64 4095)] r10.2).bind fun r14 =>
 (AV.asB r14.1).bind fun b15 =>
 some ([(.b (!b15))], r14.2)
 else some ([(.b true)], r10.2)) : Option (List AV × AH O)).bind fun r16 =>
 (AV.asB (r16.1.getD 0 .u)).bind fun b17 =>
 (bif b17 then
 some ((.i .i64 20), r16.2)
 else ldI r16.2 (.n h.next) 2 fun n19 =>
 (k101 [(.i .i64 n19), (.i .i64 31)] r16.2).bind fun r20 =>
 (AV.asB r20.1).bind fun b21 =>
 (bif (!b21) then
 some ((.i .i64 21), r20.2)
 else ldI r20.2 (.n h.next) 3 fun n23 =>
 (k101 [(.i .i64 n23), (.i .i64 7)] r20.2).bind fun r24 =>
 (AV.asB r24.1).bind fun b25 =>
 (bif (!b25) then
 some ((.i .i64 2), r24.2)
 else some ((.i .i64 0), r24.2))))
 else none
def header_Check : Sm O := header_Check_c header_within
theorem header_Check_ent : Entered Try.prog 62 := Try.call62
theorem header_Check_run (k101 : Sm O) : run (O := O) Try.prog [(101, k101)] Try.f62 (.n .z (.n (.n (.n (.g [(5, 5, [(15, .one .b)])]) (.n .z (.n .z (.n .z (.n .z (.n .z .z)))))) .z) .z)) = header_Check_c k101 := by kernel_rfl
theorem header_Check_sound : FSound RO Try.prog 62 header_Check := sdf (header_Check_run _) (gcons header_within_ent header_within_sound <| gnil) Try.func62 (by kernel_rfl)
def graph_Graph__Add_c (k62 : Sm O) : Sm O := fun xs h =>
 bif Nat.beq xs.length 2 then
 (AV.asP (xs.getD 0 .u)).bind fun p0 =>
 (AV.asAgg 5 (xs.getD 1 .u)).bind fun c1 =>
 gtI c1 0 fun n2 =>
 gtI c1 1 fun n3 =>
 gtI c1 2 fun n4 =>
 gtI c1 3 fun n5 =>
 (AV.asB (c1.getD 4 .u)).bind fun b6 =>
 let h7 := h.bump 1
 let h8 := h7.put h.next (.cells true 53 [(.i .i64 n2), (.i .i64 n3), (.i .i64 n4), (.i .i64 n5), (.b b6)])
 ldI h8 (.n h.next) 0 fun n10 =>
 ldI h8 (.n h.next) 1 fun n12 =>
 ldI h8 (.n h.next) 2 fun n14 =>
 ldI h8 (.n h.next) 3 fun n16 =>
 (h8.ld (.n h.next) 4).bind fun w17 =>
 (AV.asB w17).bind fun b18 =>
 (k62 [(.agg [(.i .i64 n10), (.i .i64 n12), (.i .i64 n14), (.i .i64 n16), (.b b18)])] h8).bind fun r19 =>
 (AV.asI .i64 r19.1).bind fun n20 =>
 (bif ((n20 : Int) != 0) then
 some ((.tup [(.i .i64 0), (.i .i64 n20)]), r19.2)
 else Option.bind p0 fun q21 =>
 ldI r19.2 q21.1 (q21.2 + 1) fun n23 =>
 Option.bind p0 fun q24 =>
 (r19.2.st q24.1 (q24.2 + 1) [(.i .i64 (IntKind.i64.wrap (n23 + 1)))]).bind fun h25 =>
 let h26 := h25.bump 3
 Option.bind p0 fun q27 =>
 (h26.ld q27.1 q27.2).bind fun w28 =>
 (AV.asMp w28).bind fun m29 =>
 Option.bind p0 fun q30 =>
 ldI h26 q30.1 (q30.2 + 1) fun n32 =>
 ldI h26 (.n h.next) 0 fun n34 =>
 ldI h26 (.n h.next) 1 fun n36 =>
 ldI h26 (.n h.next) 2 fun n38 =>
 ldI h26 (.n h.next) 3 fun n40 =>
 (h26.ld (.n h.next) 4).bind fun w41 =>
 (AV.asB w41).bind fun b42 =>
 ldI h26 (.n h.next) 0 fun n44 =>
 ldI h26 (.n h.next) 1 fun n46 =>
 (bif ((((decide ((0 : Int) <= n44)) && (decide (n44 <= n44))) && (decide ((n44 * 8) <= 140737488355328))) && (decide (n44 <= 140737488355328))) then
 let h47 := h26.put h25.next (.cells true 3 ((List.replicate n44.toNat [(.i .i64 0)]).flatten))
 (bif ((((decide ((0 : Int) <= n46)) && (decide (n46 <= n46))) && (decide ((n46 * 8) <= 140737488355328))) && (decide (n46 <= 140737488355328))) then
 let h48 := h47.put (h25.next + 1) (.cells true 54 ((List.replicate n46.toNat [(.i .u64 0)]).flatten))
 let h49 := h48.put ((h25.next + 1) + 1) (.cells true 116 [(.i .i64 n34), (.i .i64 n36), (.i .i64 n38), (.i .i64 n40), (.b b42), (.sl (.loc (.n h25.next) 0 1) n44.toNat), (.sl (.loc (.n (h25.next + 1)) 0 1) n46.toNat)])
 Option.bind m29 fun b50 =>
 (entsOf h49 (.mp (some b50))).bind fun m51 =>
 (findM .i64 n32 m51).bind fun f52 =>
 let h53 := h49.put b50 (updB h49 b50 f52 m51 (.i .i64 n32) (.p (some ((.n ((h25.next + 1) + 1)), 0))))
 Option.bind p0 fun q54 =>
 ldI h53 q54.1 (q54.2 + 1) fun n56 =>
 some ((.tup [(.i .i64 n56), (.i .i64 0)]), h53)
 else none)
 else none))
 else none
def graph_Graph__Add : Sm O := graph_Graph__Add_c header_Check
theorem graph_Graph__Add_ent : Entered Try.prog 23 := Try.call23
theorem graph_Graph__Add_run (k62 : Sm O) : run (O := O) Try.prog [(62, k62)] Try.f23 (.n .z (.n (.n .z (.n .z (.n .z .z))) (.n .z (.n (.d [] [0, 1, 2, 3, 4, 5, 6, 7, 8, 9, 10, 11, 13, 14, 15, 12, 16, 17, 18, 19] [0, 1, 3, 7, 0, 16, 48, 112, 0, 0, 512, 1536, 3584, 0, 8192, 24576, 57344, 130816, 261888, 524287]) .z)))) = graph_Graph__Add_c k62 := by kernel_rfl
theorem graph_Graph__Add_sound : FSound RO Try.prog 23 graph_Graph__Add := sdf (graph_Graph__Add_run _) (gcons header_Check_ent header_Check_sound <| gnil) Try.func23 (by kernel_rfl)
def graph_Graph__Is_c : Sm O := fun xs h =>
 bif Nat.beq xs.length 2 then
 (AV.asP (xs.getD 0 .u)).bind fun p0 =>
 gtI xs 1 fun n1 =>
 Option.bind p0 fun q2 =>
 (h.ld q2.1 q2.2).bind fun w3 =>
 (AV.asMp w3).bind fun m4 =>
 (entsOf h (.mp m4)).bind fun m5 =>
 (findM .i64 n1 m5).bind fun f6 =>
 (AV.asP (lookV f6 (.p none))).bind fun p7 =>
 some ((.b (!(Option.isNone p7))), h)
 else none
def graph_Graph__Is : Sm O := graph_Graph__Is_c
theorem graph_Graph__Is_ent : Entered Try.prog 27 := Try.call27
theorem graph_Graph__Is_run : run (O := O) Try.prog [] Try.f27 (.n .z .z) = graph_Graph__Is_c  := by kernel_rfl
theorem graph_Graph__Is_sound : FSound RO Try.prog 27 graph_Graph__Is := sdf graph_Graph__Is_run (gnil) Try.func27 (by kernel_rfl)
def graph_Graph__Pointer_c (k27 : Sm O) : Sm O := fun xs h =>
 bif Nat.beq xs.length 3 then
 (AV.asP (xs.getD 0 .u)).bind fun p0 =>
 gtI xs 1 fun n1 =>
 gtI xs 2 fun n2 =>
 (k27 [(.p p0), (.i .i64 n1)] h).bind fun r3 =>
 (AV.asB r3.1).bind fun b4 =>
 (bif (!b4) then
 some ((.tup [(.i .i64 0), (.i .i64 4)]), r3.2)
 else ((bif ((decide (n2 < 0)) == false) then
 Option.bind p0 fun q5 =>
 (r3.2.ld q5.1 q5.2).bind fun w6 =>
 (AV.asMp w6).bind fun m7 =>
 (entsOf r3.2 (.mp m7)).bind fun m8 =>
 (findM .i64 n1 m8).bind fun f9 =>
 (AV.asP (lookV f9 (.p none))).bind fun p10 =>
 Option.bind p10 fun q11 =>
 ldS r3.2 q11.1 (q11.2 + 5) fun l13 =>
 some ([(.b (decide (n2 >= (l13.2 : Int))))], r3.2)
 else some ([(.b true)], r3.2)) : Option (List AV × AH O)).bind fun r14 =>
 (AV.asB (r14.1.getD 0 .u)).bind fun b15 =>
 (bif b15 then
 some ((.tup [(.i .i64 0), (.i .i64 32)]), r14.2)
 else Option.bind p0 fun q16 =>
 (r14.2.ld q16.1 q16.2).bind fun w17 =>
 (AV.asMp w17).bind fun m18 =>
 (entsOf r14.2 (.mp m18)).bind fun m19 =>
 (findM .i64 n1 m19).bind fun f20 =>
 (AV.asP (lookV f20 (.p none))).bind fun p21 =>
 Option.bind p21 fun q22 =>
 ldS r14.2 q22.1 (q22.2 + 5) fun l24 =>
 (bif ((decide ((0 : Int) <= n2)) && (decide (n2 < (l24.2 : Int)))) then
 (SA.ref l24.1).bind fun q25 =>
 ldI r14.2 q25.1 (q25.2 + (n2.toNat * 1)) fun n27 =>
 some ((.tup [(.i .i64 n27), (.i .i64 0)]), r14.2)
 else none)))
 else none
def graph_Graph__Pointer : Sm O := graph_Graph__Pointer_c graph_Graph__Is
theorem graph_Graph__Pointer_ent : Entered Try.prog 61 := Try.call61
theorem graph_Graph__Pointer_run (k27 : Sm O) : run (O := O) Try.prog [(27, k27)] Try.f61 (.n .z (.n (.n (.n .z (.n .z (.n (.g [(2, 12, [(29, .one .b)])]) (.n .z .z)))) .z) .z)) = graph_Graph__Pointer_c k27 := by kernel_rfl
theorem graph_Graph__Pointer_sound : FSound RO Try.prog 61 graph_Graph__Pointer := sdf (graph_Graph__Pointer_run _) (gcons graph_Graph__Is_ent graph_Graph__Is_sound <| gnil) Try.func61 (by kernel_rfl)
def graph_Graph__Link_c (k61 k27 : Sm O) : Sm O := fun xs h =>
 bif Nat.beq xs.length 4 then
 (AV.asP (xs.getD 0 .u)).bind fun p0 =>
 gtI xs 1 fun n1 =>
 gtI xs 2 fun n2 =>
 gtI xs 3 fun n3 =>
 (k61 [(.p p0), (.i .i64 n1), (.i .i64 n2)] h).bind fun r4 =>
 (AV.asTup 2 r4.1).bind fun c5 =>
 gtI c5 0 fun n6 =>
 gtI c5 1 fun n7 =>
 (bif ((n7 : Int) != 0) then
 some ((.i .i64 n7), r4.2)
 else ((bif (((n3 : Int) != 0) == true) then
 (k27 [(.p p0), (.i .i64 n3)] r4.2).bind fun r8 =>
 (AV.asB r8.1).bind fun b9 =>
 some ([(.b (!b9))], r8.2)
 else some ([(.b false)], r4.2)) : Option (List AV × AH O)).bind fun r10 =>
 (AV.asB (r10.1.getD 0 .u)).bind fun b11 =>
 (bif b11 then
 some ((.i .i64 2), r10.2)
 else Option.bind p0 fun q12 =>
 (r10.2.ld q12.1 q12.2).bind fun w13 =>
 (AV.asMp w13).bind fun m14 =>
 (entsOf r10.2 (.mp m14)).bind fun m15 =>
 (findM .i64 n1 m15).bind fun f16 =>
 (AV.asP (lookV f16 (.p none))).bind fun p17 =>
 Option.bind p17 fun q18 =>
 ldS r10.2 q18.1 (q18.2 + 5) fun l20 =>
 (bif ((decide ((0 : Int) <= n2)) && (decide (n2 < (l20.2 : Int)))) then
 (SA.ref l20.1).bind fun q21 =>
 (r10.2.st q21.1 (q21.2 + (n2.toNat * 1)) [(.i .i64 n3)]).bind fun h22 =>
 some ((.i .i64 0), h22)
 else none)))
 else none
def graph_Graph__Link : Sm O := graph_Graph__Link_c graph_Graph__Pointer graph_Graph__Is
theorem graph_Graph__Link_ent : Entered Try.prog 59 := Try.call59
theorem graph_Graph__Link_run (k61 k27 : Sm O) : run (O := O) Try.prog [(61, k61), (27, k27)] Try.f59 (.n .z (.n (.n .z (.n .z (.n .z .z))) (.n (.n (.g [(2, 4, [(28, .one .b)])]) (.n .z .z)) (.n .z .z)))) = graph_Graph__Link_c k61 k27 := by kernel_rfl
theorem graph_Graph__Link_sound : FSound RO Try.prog 59 graph_Graph__Link := sdf (graph_Graph__Link_run _ _) (gcons graph_Graph__Pointer_ent graph_Graph__Pointer_sound <| gcons graph_Graph__Is_ent graph_Graph__Is_sound <| gnil) Try.func59 (by kernel_rfl)
def graph_Graph__Drop_L1 (l26 : SA × Nat) (n1 : Int) (p23 : Option (Bid × Nat)) : List AV × AH O -> Option ((List AV × AH O) ⊕ (List AV × AH O)) := (fun r27 =>
 (AV.asI .i64 (r27.1.getD 0 .u)).bind fun n28 =>
 (bif (decide (n28 < (l26.2 : Int))) then
 (bif ((decide ((0 : Int) <= n28)) && (decide (n28 < (l26.2 : Int)))) then
 (SA.ref l26.1).bind fun q29 =>
 ldI r27.2 q29.1 (q29.2 + (n28.toNat * 1)) fun n31 =>
 ((bif ((n31 : Int) == n1) then
 Option.bind p23 fun q32 =>
 ldS r27.2 q32.1 (q32.2 + 5) fun l34 =>
 (bif ((decide ((0 : Int) <= n28)) && (decide (n28 < (l34.2 : Int)))) then
 (SA.ref l34.1).bind fun q35 =>
 (r27.2.st q35.1 (q35.2 + (n28.toNat * 1)) [(.i .i64 0)]).bind fun h36 =>
 some ([], h36)
 else none)
 else some ([], r27.2)) : Option (List AV × AH O)).bind fun r37 =>
 some (Sum.inl ([(.i .i64 (IntKind.i64.wrap (n28 + 1)))], r37.2))
 else none)
 else some (Sum.inr ([], r27.2))))
def graph_Graph__Drop_c (k27 : Sm O) : Sm O := fun xs h =>
 bif Nat.beq xs.length 2 then
 (AV.asP (xs.getD 0 .u)).bind fun p0 =>
 gtI xs 1 fun n1 =>
 (k27 [(.p p0), (.i .i64 n1)] h).bind fun r2 =>
 (AV.asB r2.1).bind fun b3 =>
 (bif (!b3) then
 some ((.i .i64 4), r2.2)
 else Option.bind p0 fun q4 =>
 (r2.2.ld q4.1 q4.2).bind fun w5 =>
 (AV.asMp w5).bind fun m6 =>
 Option.bind m6 fun b7 =>
 (entsOf r2.2 (.mp (some b7))).bind fun m8 =>
 (findM .i64 n1 m8).bind fun f9 =>
 let h10 := r2.2.put b7 (delB r2.2 b7 f9 m8)
 let h11 := h10.bump 1
 Option.bind p0 fun q12 =>
 (h11.ld q12.1 q12.2).bind fun w13 =>
 (AV.asMp w13).bind fun m14 =>
 (rangeM h11 (.mp m14)).bind fun q15 =>
 let h16 := h11.put h10.next (.iter q15.1 [] q15.2.1 q15.2.2)
 (itOf h16 (.p (some ((.n h10.next), 0)))).bind fun q17 =>
 (itOK h16 q17.1 q17.2.1 [] q17.2.2.1 q17.2.2.2).bind fun _ =>
 (foldAny (S := List AV × AH O) (fun i18 dn19 r20 =>
 let h21 := r20.2.put q17.1 (.iter q17.2.1 (dn19 ++ [i18]) q17.2.2.1 q17.2.2.2)
 (entA h21 (.p (some ((.n h10.next), 0)))).bind fun q22 =>
 (AV.asP q22.2).bind fun p23 =>
 Option.bind p23 fun q24 =>
 ldS h21 q24.1 (q24.2 + 5) fun l26 =>
 (loopF (S := List AV × AH O) (T := List AV × AH O) (graph_Graph__Drop_L1 l26 n1 p23) ([(.i .i64 0)], h21)).bind fun r38 =>
 (itOK r38.2 q17.1 q17.2.1 (dn19 ++ [i18]) q17.2.2.1 q17.2.2.2).bind fun _ =>
 some ([], r38.2.put q17.1 (.iter q17.2.1 [] q17.2.2.1 q17.2.2.2))) q17.2.2.1.length ([], h16)).bind fun r39 =>
 let h40 := r39.2.kill q17.1
 some ((.i .i64 0), h40))
 else none
def graph_Graph__Drop : Sm O := graph_Graph__Drop_c graph_Graph__Is
theorem graph_Graph__Drop_ent : Entered Try.prog 60 := Try.call60
theorem graph_Graph__Drop_run (k27 : Sm O) : run (O := O) Try.prog [(27, k27)] Try.f60 (.n .z (.n (.n .z (.n .z .z)) (.n .z (.n (.n .z (.n (.lm [] (.n (.n .z (.n .z (.n (.lp false 2 [(32, .one (.i .i64))] [] (.n .z (.n .z (.n (.n (.n .z (.n .z (.j false [] .z .z))) .z) .z)))) .z))) .z)) .z)) .z)))) = graph_Graph__Drop_c k27 := by kernel_rfl
theorem graph_Graph__Drop_sound : FSound RO Try.prog 60 graph_Graph__Drop := sdf (graph_Graph__Drop_run _) (gcons graph_Graph__Is_ent graph_Graph__Is_sound <| gnil) Try.func60 (by kernel_rfl)
def law36_Few_L1 (l0 : SA × Nat) : List AV × AH O -> Option ((List AV × AH O) ⊕ ((List AV × AH O) ⊕ (AV × AH O))) := (fun r1 =>
 (AV.asI .i64 (r1.1.getD 0 .u)).bind fun n2 =>
 (bif (decide (n2 < (l0.2 : Int))) then
 let h3 := r1.2.bump 1
 (bif ((decide ((0 : Int) <= n2)) && (decide (n2 < (l0.2 : Int)))) then
 (SA.ref l0.1).bind fun q4 =>
 ldI h3 q4.1 ((q4.2 + (n2.toNat * 10)) + 4) fun n6 =>
 ldI h3 q4.1 (((q4.2 + (n2.toNat * 10)) + 4) + 1) fun n8 =>
 let h9 := h3.put r1.2.next (.cells true 51 [(.i .i64 0), (.i .i64 0)])
 (h9.st (.n r1.2.next) 0 [(.i .i64 n6), (.i .i64 n8)]).bind fun h10 =>
 ldI h10 (.n r1.2.next) 0 fun n12 =>
 ((bif ((decide (n12 > 300)) == true) then
 ldI h10 (.n r1.2.next) 0 fun n14 =>
 some ([(.b (decide (n14 < 4096)))], h10)
 else some ([(.b false)], h10)) : Option (List AV × AH O)).bind fun r15 =>
 (AV.asB (r15.1.getD 0 .u)).bind fun b16 =>
 ((bif (b16 == false) then
 ldI r15.2 (.n r1.2.next) 1 fun n18 =>
 ((bif ((decide (n18 > 300)) == true) then
 ldI r15.2 (.n r1.2.next) 1 fun n20 =>
 some ([(.b (decide (n20 < 4096)))], r15.2)
 else some ([(.b false)], r15.2)) : Option (List AV × AH O)).bind fun r21 =>
 (AV.asB (r21.1.getD 0 .u)).bind fun b22 =>
 some ([(.b b22)], r21.2)
 else some ([(.b true)], r15.2)) : Option (List AV × AH O)).bind fun r23 =>
 (AV.asB (r23.1.getD 0 .u)).bind fun b24 =>
 (bif b24 then
 ((some ((.b false), r23.2) : Option (AV × AH O)).map fun r => Sum.inr (Sum.inr r))
 else some (Sum.inl ([(.i .i64 (IntKind.i64.wrap (n2 + 1)))], r23.2)))
 else none)
 else some (Sum.inr (Sum.inl ([], r1.2)))))
def law36_Few_c : Sm O := fun xs h =>
 bif Nat.beq xs.length 1 then
 gtS xs 0 fun l0 =>
 (bif (decide ((l0.2 : Int) > 60)) then
 some ((.b false), h)
 else bindS (S := List AV × AH O) (R := (AV × AH O)) (loopF (S := List AV × AH O) (T := (List AV × AH O) ⊕ (AV × AH O)) (law36_Few_L1 l0) ([(.i .i64 0)], h)) fun r25 =>
 some ((.b true), r25.2))
 else none
def law36_Few : Sm O := law36_Few_c
theorem law36_Few_ent : Entered Try.prog 21 := Try.call21
theorem law36_Few_run : run (O := O) Try.prog [] Try.f21 (.n .z (.n (.n .z (.n .z .z)) (.n (.n .z (.n (.lp true 0 [(3, .one (.i .i64))] [] (.n (.n .z .z) (.n (.n (.n .z (.n (.g [(3, 3, [(27, .one .b)]), (8, 8, [(37, .one .b)]), (12, 3, [(36, .one .b)])]) (.n .z .z))) .z) .z))) .z)) .z))) = law36_Few_c  := by kernel_rfl
theorem law36_Few_sound : FSound RO Try.prog 21 law36_Few := sdf law36_Few_run (gnil) Try.func21 (by kernel_rfl)
def haymowref12_Check_c : Sm O := fun xs h =>
 bif Nat.beq xs.length 1 then
 (AV.asAgg 5 (xs.getD 0 .u)).bind fun c0 =>
 gtI c0 0 fun n1 =>
 gtI c0 1 fun n2 =>
 gtI c0 2 fun n3 =>
 gtI c0 3 fun n4 =>
 (AV.asB (c0.getD 4 .u)).bind fun b5 =>
 let h6 := h.bump 1
 let h7 := h6.put h.next (.cells true 53 [(.i .i64 n1), (.i .i64 n2), (.i .i64 n3), (.i .i64 n4), (.b b5)])
 ldI h7 (.n h.next) 0 fun n9 =>
 ldI h7 (.n h.next) 1 fun n11 =>
 ((bif ((decide (n9 < 0)) == false) then
 some ([(.b (decide (n9 > 4095)))], h7)
 else some ([(.b true)], h7)) : Option (List AV × AH O)).bind fun r12 =>
 (AV.asB (r12.1.getD 0 .u)).bind fun b13 =>
 ((bif (b13 == false) then
 some ([(.b (decide (n11 < 0)))], r12.2)
 else some ([(.b true)], r12.2)) : Option (List AV × AH O)).bind fun r14 =>
 (AV.asB (r14.1.getD 0 .u)).bind fun b15 =>
 ((bif (b15 == false) then
 some ([(.b (decide (n11 > 4095)))], r14.2)
 else some ([(.b true)], r14.2)) : Option (List AV × AH O)).bind fun r16 =>
 (AV.asB (r16.1.getD 0 .u)).bind fun b17 =>
 (bif b17 then
 some ((.i .i64 20), r16.2)
 else ldI r16.2 (.n h.next) 2 fun n19 =>
 ((bif ((decide (n19 < 0)) == false) then
 ldI r16.2 (.n h.next) 2 fun n21 =>
 some ([(.b (decide (n21 > 31)))], r16.2)
 else some ([(.b true)], r16.2)) : Option (List AV × AH O)).bind fun r22 =>
 (AV.asB (r22.1.getD 0 .u)).bind fun b23 =>
 (bif b23 then
 some ((.i .i64 21), r22.2)
 else ldI r22.2 (.n h.next) 3 fun n25 =>
 ((bif ((decide (n25 < 0)) == false) then
 ldI r22.2 (.n h.next) 3 fun n27 =>
 some ([(.b (decide (n27 > 7)))], r22.2)
 else some ([(.b true)], r22.2)) : Option (List AV × AH O)).bind fun r28 =>
 (AV.asB (r28.1.getD 0 .u)).bind fun b29 =>
 (bif b29 then
 some ((.i .i64 2), r28.2)
 else some ((.i .i64 0), r28.2))))
 else none
def haymowref12_Check : Sm O := haymowref12_Check_c
theorem haymowref12_Check_ent : Entered Try.prog 56 := Try.call56
theorem haymowref12_Check_run : run (O := O) Try.prog [] Try.f56 (.n .z (.n (.d [] [0, 1, 2, 3, 4, 5, 6, 7] [0, 1, 3, 0, 8, 24, 7, 127]) (.n (.n (.g [(2, 2, [(16, .one .b)]), (6, 2, [(20, .one .b)]), (10, 2, [(24, .one .b)])]) (.n .z .z)) (.n (.n (.g [(3, 3, [(32, .one .b)])]) (.n .z .z)) (.n (.n (.g [(3, 3, [(40, .one .b)])]) (.n .z .z)) .z))))) = haymowref12_Check_c  := by kernel_rfl
theorem haymowref12_Check_sound : FSound RO Try.prog 56 haymowref12_Check := sdf haymowref12_Check_run (gnil) Try.func56 (by kernel_rfl)
def haymowref36_Add_c (k56 : Sm O) : Sm O := fun xs h =>
 bif Nat.beq xs.length 2 then
 gtS xs 0 fun l0 =>
 (AV.asAgg 5 (xs.getD 1 .u)).bind fun c1 =>
 gtI c1 0 fun n2 =>
 gtI c1 1 fun n3 =>
 gtI c1 2 fun n4 =>
 gtI c1 3 fun n5 =>
 (AV.asB (c1.getD 4 .u)).bind fun b6 =>
 let h7 := h.bump 1
 let h8 := h7.put h.next (.cells true 53 [(.i .i64 n2), (.i .i64 n3), (.i .i64 n4), (.i .i64 n5), (.b b6)])
 ldI h8 (.n h.next) 0 fun n10 =>
 ldI h8 (.n h.next) 1 fun n12 =>
 ldI h8 (.n h.next) 2 fun n14 =>
 ldI h8 (.n h.next) 3 fun n16 =>
 (h8.ld (.n h.next) 4).bind fun w17 =>
 (AV.asB w17).bind fun b18 =>
 (k56 [(.agg [(.i .i64 n10), (.i .i64 n12), (.i .i64 n14), (.i .i64 n16), (.b b18)])] h8).bind fun r19 =>
 (AV.asI .i64 r19.1).bind fun n20 =>
 (bif ((n20 : Int) != 0) then
 some ((.tup [(.sl l0.1 l0.2), (.i .i64 0), (.i .i64 n20)]), r19.2)
 else let h21 := r19.2.bump 3
 ldI h21 (.n h.next) 0 fun n23 =>
 ldI h21 (.n h.next) 1 fun n25 =>
 ldI h21 (.n h.next) 2 fun n27 =>
 ldI h21 (.n h.next) 3 fun n29 =>
 (h21.ld (.n h.next) 4).bind fun w30 =>
 (AV.asB w30).bind fun b31 =>
 ldI h21 (.n h.next) 0 fun n33 =>
 ldI h21 (.n h.next) 1 fun n35 =>
 (bif ((((decide ((0 : Int) <= n33)) && (decide (n33 <= n33))) && (decide ((n33 * 8) <= 140737488355328))) && (decide (n33 <= 140737488355328))) then
 let h36 := h21.put r19.2.next (.cells true 3 ((List.replicate n33.toNat [(.i .i64 0)]).flatten))
 (bif ((((decide ((0 : Int) <= n35)) && (decide (n35 <= n35))) && (decide ((n35 * 8) <= 140737488355328))) && (decide (n35 <= 140737488355328))) then
 let h37 := h36.put (r19.2.next + 1) (.cells true 54 ((List.replicate n35.toNat [(.i .u64 0)]).flatten))
 let h38 := h37.put ((r19.2.next + 1) + 1) (.cells true 76 [(.i .i64 0), (.i .i64 0), (.i .i64 0), (.i .i64 0), (.b false), (.sl .nil 0), (.sl .nil 0), (.b false)])
 (h38.st (.n ((r19.2.next + 1) + 1)) 0 [(.i .i64 n23), (.i .i64 n25), (.i .i64 n27), (.i .i64 n29), (.b b31), (.sl (.loc (.n r19.2.next) 0 1) n33.toNat), (.sl (.loc (.n (r19.2.next + 1)) 0 1) n35.toNat), (.b false)]).bind fun h39 =>
 let h40 := h39.bump 4
 ldI h40 (.n ((r19.2.next + 1) + 1)) 0 fun n42 =>
 ldI h40 (.n ((r19.2.next + 1) + 1)) 1 fun n44 =>
 ldI h40 (.n ((r19.2.next + 1) + 1)) 2 fun n46 =>
 ldI h40 (.n ((r19.2.next + 1) + 1)) 3 fun n48 =>
 (h40.ld (.n ((r19.2.next + 1) + 1)) 4).bind fun w49 =>
 (AV.asB w49).bind fun b50 =>
 ldS h40 (.n ((r19.2.next + 1) + 1)) 5 fun l52 =>
 ldS h40 (.n ((r19.2.next + 1) + 1)) 6 fun l54 =>
 (h40.ld (.n ((r19.2.next + 1) + 1)) 7).bind fun w55 =>
 (AV.asB w55).bind fun b56 =>
 let h57 := h40.put h39.next (.cells true 76 [])
 (h57.rdSl l0.1 l0.2 8).bind fun new58 =>
 (bif (Nat.ble ((0 + l0.2) * 97) 35184372088832) then
 (h57.appSl (h39.next + 1) 76 8 (.loc (.n h39.next) 0 8) 0 l0.2 new58).bind fun r59 =>
 (AV.asSl r59.1).bind fun l60 =>
 (chkE (r59.2.ld (.n ((r19.2.next + 1) + 1)) 0) (some (.i .i64 n42))).bind fun _ =>
 (chkE (r59.2.ld (.n ((r19.2.next + 1) + 1)) 1) (some (.i .i64 n44))).bind fun _ =>
 (chkE (r59.2.ld (.n ((r19.2.next + 1) + 1)) 2) (some (.i .i64 n46))).bind fun _ =>
 (chkE (r59.2.ld (.n ((r19.2.next + 1) + 1)) 3) (some (.i .i64 n48))).bind fun _ =>
 (chkE (r59.2.ld (.n ((r19.2.next + 1) + 1)) 4) (some (.b b50))).bind fun _ =>
 (chkE (r59.2.ld (.n ((r19.2.next + 1) + 1)) 5) (some (.sl l52.1 l52.2))).bind fun _ =>
 (chkE (r59.2.ld (.n ((r19.2.next + 1) + 1)) 6) (some (.sl l54.1 l54.2))).bind fun _ =>
 (chkE (r59.2.ld (.n ((r19.2.next + 1) + 1)) 7) (some (.b b56))).bind fun _ =>
 let h61 := r59.2.put ((h39.next + 1) + 1) (.cells true 76 [(.i .i64 n42), (.i .i64 n44), (.i .i64 n46), (.i .i64 n48), (.b b50), (.sl l52.1 l52.2), (.sl l54.1 l54.2), (.b b56)])
 (h61.rdSl (.loc (.n ((h39.next + 1) + 1)) 0 8) 1 8).bind fun new62 =>
 (bif (Nat.ble ((l60.2 + 1) * 97) 35184372088832) then
 (h61.appSl (((h39.next + 1) + 1) + 1) 76 8 l60.1 l60.2 1 new62).bind fun r63 =>
 (AV.asSl r63.1).bind fun l64 =>
 some ((.tup [(.sl l64.1 l64.2), (.i .i64 (IntKind.i64.wrap ((l0.2 : Int) + 1))), (.i .i64 0)]), r63.2)
 else none)
 else none)
 else none)
 else none))
 else none
def haymowref36_Add : Sm O := frz (haymowref36_Add_c haymowref12_Check)
theorem haymowref36_Add_ent : Entered Try.prog 63 := Try.call63
theorem haymowref36_Add_run (k56 : Sm O) : run (O := O) Try.prog [(56, k56)] Try.f63 (.n .z (.n (.n .z (.n .z (.n .z .z))) (.n (.d [] [0, 1, 2, 3, 5, 6, 7, 4, 8, 9, 10, 11] [0, 0, 2, 6, 14, 0, 32, 96, 224, 511, 0, 2047]) (.n (.d [] [1, 3, 6, 7, 8, 0, 2, 4, 5, 9, 10, 11] [0, 0, 3, 0, 8, 31, 0, 64, 192, 63, 1023, 2047]) .z)))) = haymowref36_Add_c k56 := by kernel_rfl
theorem haymowref36_Add_sound : FSound RO Try.prog 63 (haymowref36_Add) :=
   have h : FSound RO Try.prog 63 (haymowref36_Add_c haymowref12_Check) := (haymowref36_Add_run haymowref12_Check) ▸ run_sound (gcons haymowref12_Check_ent (haymowref12_Check_sound) <| gnil) mixed Try.func63 (by kernel_rfl) _
   h.frz
def haymowref36_Is_c : Sm O := fun xs h =>
 bif Nat.beq xs.length 2 then
 gtS xs 0 fun l0 =>
 gtI xs 1 fun n1 =>
 ((bif ((decide (n1 >= 1)) == true) then
 some ([(.b (decide (n1 <= (l0.2 : Int))))], h)
 else some ([(.b false)], h)) : Option (List AV × AH O)).bind fun r2 =>
 (AV.asB (r2.1.getD 0 .u)).bind fun b3 =>
 ((bif (b3 == true) then
 (bif ((decide ((0 : Int) <= (IntKind.i64.wrap (n1 - 1)))) && (decide ((IntKind.i64.wrap (n1 - 1)) < (l0.2 : Int)))) then
 (SA.ref l0.1).bind fun q4 =>
 (r2.2.ld q4.1 ((q4.2 + ((IntKind.i64.wrap (n1 - 1)).toNat * 8)) + 7)).bind fun w5 =>
 (AV.asB w5).bind fun b6 =>
 some ([(.b (!b6))], r2.2)
 else none)
 else some ([(.b false)], r2.2)) : Option (List AV × AH O)).bind fun r7 =>
 (AV.asB (r7.1.getD 0 .u)).bind fun b8 =>
 some ((.b b8), r7.2)
 else none
def haymowref36_Is : Sm O := haymowref36_Is_c
theorem haymowref36_Is_ent : Entered Try.prog 72 := Try.call72
theorem haymowref36_Is_run : run (O := O) Try.prog [] Try.f72 (.n .z (.n (.g [(2, 4, [(12, .one .b)]), (8, 7, [(21, .one .b)])]) .z)) = haymowref36_Is_c  := by kernel_rfl
theorem haymowref36_Is_sound : FSound RO Try.prog 72 haymowref36_Is := sdf haymowref36_Is_run (gnil) Try.func72 (by kernel_rfl)
def haymowref36_copied_L1 (l5 : SA × Nat) : List AV × AH O -> Option ((List AV × AH O) ⊕ (List AV × AH O)) := (fun r6 =>
 (AV.asI .i64 (r6.1.getD 0 .u)).bind fun n7 =>
 (bif (decide (n7 < (l5.2 : Int))) then
 let h8 := r6.2.bump 2
 let h9 := h8.put r6.2.next (.cells true 3 [])
 (bif ((decide ((0 : Int) <= n7)) && (decide (n7 < (l5.2 : Int)))) then
 (SA.ref l5.1).bind fun q10 =>
 ldS h9 q10.1 ((q10.2 + (n7.toNat * 8)) + 5) fun l12 =>
 (h9.rdSl l12.1 l12.2 1).bind fun new13 =>
 (bif (Nat.ble ((0 + l12.2) * 9) 35184372088832) then
 (h9.appSl (r6.2.next + 1) 3 1 (.loc (.n r6.2.next) 0 1) 0 l12.2 new13).bind fun r14 =>
 (AV.asSl r14.1).bind fun l15 =>
 (bif ((decide ((0 : Int) <= n7)) && (decide (n7 < (l5.2 : Int)))) then
 (SA.ref l5.1).bind fun q16 =>
 (r14.2.st q16.1 ((q16.2 + (n7.toNat * 8)) + 5) [(.sl l15.1 l15.2)]).bind fun h17 =>
 let h18 := h17.bump 2
 let h19 := h18.put h17.next (.cells true 54 [])
 (bif ((decide ((0 : Int) <= n7)) && (decide (n7 < (l5.2 : Int)))) then
 (SA.ref l5.1).bind fun q20 =>
 ldS h19 q20.1 ((q20.2 + (n7.toNat * 8)) + 6) fun l22 =>
 (h19.rdSl l22.1 l22.2 1).bind fun new23 =>
 (bif (Nat.ble ((0 + l22.2) * 9) 35184372088832) then
 (h19.appSl (h17.next + 1) 54 1 (.loc (.n h17.next) 0 1) 0 l22.2 new23).bind fun r24 =>
 (AV.asSl r24.1).bind fun l25 =>
 (bif ((decide ((0 : Int) <= n7)) && (decide (n7 < (l5.2 : Int)))) then
 (SA.ref l5.1).bind fun q26 =>
 (r24.2.st q26.1 ((q26.2 + (n7.toNat * 8)) + 6) [(.sl l25.1 l25.2)]).bind fun h27 =>
 some (Sum.inl ([(.i .i64 (IntKind.i64.wrap (n7 + 1)))], h27))
 else none)
 else none)
 else none)
 else none)
 else none)
 else none)
 else some (Sum.inr ([], r6.2))))
def haymowref36_copied_c : Sm O := fun xs h =>
 bif Nat.beq xs.length 1 then
 gtS xs 0 fun l0 =>
 let h1 := h.bump 2
 let h2 := h1.put h.next (.cells true 76 [])
 (h2.rdSl l0.1 l0.2 8).bind fun new3 =>
 (bif (Nat.ble ((0 + l0.2) * 97) 35184372088832) then
 (h2.appSl (h.next + 1) 76 8 (.loc (.n h.next) 0 8) 0 l0.2 new3).bind fun r4 =>
 (AV.asSl r4.1).bind fun l5 =>
 (loopF (S := List AV × AH O) (T := List AV × AH O) (haymowref36_copied_L1 l5) ([(.i .i64 0)], r4.2)).bind fun r28 =>
 some ((.sl l5.1 l5.2), r28.2)
 else none)
 else none
def haymowref36_copied : Sm O := haymowref36_copied_c
theorem haymowref36_copied_ent : Entered Try.prog 102 := Try.call102
theorem haymowref36_copied_run : run (O := O) Try.prog [] Try.f102 (.n .z (.n .z (.n (.n .z (.n (.lp false 0 [(4, .one (.i .i64))] [] (.n (.n .z .z) (.n (.n .z .z) .z))) .z)) .z))) = haymowref36_copied_c  := by kernel_rfl
theorem haymowref36_copied_sound : FSound RO Try.prog 102 haymowref36_copied := sdf haymowref36_copied_run (gnil) Try.func102 (by kernel_rfl)
def haymowref36_Drop_L2 (n9 : Int) (l5 : SA × Nat) (n1 : Int) : List AV × AH O -> Option ((List AV × AH O) ⊕ (List AV × AH O)) := (fun r10 =>
 (AV.asI .i64 (r10.1.getD 0 .u)).bind fun n11 =>
 (bif ((decide ((0 : Int) <= n9)) && (decide (n9 < (l5.2 : Int)))) then
 (SA.ref l5.1).bind fun q12 =>
 ldS r10.2 q12.1 ((q12.2 + (n9.toNat * 8)) + 5) fun l14 =>
 (bif (decide (n11 < (l14.2 : Int))) then
 (bif ((decide ((0 : Int) <= n9)) && (decide (n9 < (l5.2 : Int)))) then
 (SA.ref l5.1).bind fun q15 =>
 ldS r10.2 q15.1 ((q15.2 + (n9.toNat * 8)) + 5) fun l17 =>
 (bif ((decide ((0 : Int) <= n11)) && (decide (n11 < (l17.2 : Int)))) then
 (SA.ref l17.1).bind fun q18 =>
 ldI r10.2 q18.1 (q18.2 + (n11.toNat * 1)) fun n20 =>
 ((bif ((n20 : Int) == n1) then
 (bif ((decide ((0 : Int) <= n9)) && (decide (n9 < (l5.2 : Int)))) then
 (SA.ref l5.1).bind fun q21 =>
 ldS r10.2 q21.1 ((q21.2 + (n9.toNat * 8)) + 5) fun l23 =>
 (bif ((decide ((0 : Int) <= n11)) && (decide (n11 < (l23.2 : Int)))) then
 (SA.ref l23.1).bind fun q24 =>
 (r10.2.st q24.1 (q24.2 + (n11.toNat * 1)) [(.i .i64 0)]).bind fun h25 =>
 some ([], h25)
 else none)
 else none)
 else some ([], r10.2)) : Option (List AV × AH O)).bind fun r26 =>
 some (Sum.inl ([(.i .i64 (IntKind.i64.wrap (n11 + 1)))], r26.2))
 else none)
 else none)
 else some (Sum.inr ([], r10.2)))
 else none))
def haymowref36_Drop_L1 (l5 : SA × Nat) (n1 : Int) : List AV × AH O -> Option ((List AV × AH O) ⊕ (List AV × AH O)) := (fun r8 =>
 (AV.asI .i64 (r8.1.getD 0 .u)).bind fun n9 =>
 (bif (decide (n9 < (l5.2 : Int))) then
 (loopF (S := List AV × AH O) (T := List AV × AH O) (haymowref36_Drop_L2 n9 l5 n1) ([(.i .i64 0)], r8.2)).bind fun r27 =>
 some (Sum.inl ([(.i .i64 (IntKind.i64.wrap (n9 + 1)))], r27.2))
 else some (Sum.inr ([], r8.2))))
def haymowref36_Drop_c (k72 k102 : Sm O) : Sm O := fun xs h =>
 bif Nat.beq xs.length 2 then
 gtS xs 0 fun l0 =>
 gtI xs 1 fun n1 =>
 (k72 [(.sl l0.1 l0.2), (.i .i64 n1)] h).bind fun r2 =>
 (AV.asB r2.1).bind fun b3 =>
 (bif (!b3) then
 some ((.tup [(.sl l0.1 l0.2), (.i .i64 4)]), r2.2)
 else (k102 [(.sl l0.1 l0.2)] r2.2).bind fun r4 =>
 (AV.asSl r4.1).bind fun l5 =>
 (bif ((decide ((0 : Int) <= (IntKind.i64.wrap (n1 - 1)))) && (decide ((IntKind.i64.wrap (n1 - 1)) < (l5.2 : Int)))) then
 (SA.ref l5.1).bind fun q6 =>
 (r4.2.st q6.1 ((q6.2 + ((IntKind.i64.wrap (n1 - 1)).toNat * 8)) + 7) [(.b true)]).bind fun h7 =>
 (loopF (S := List AV × AH O) (T := List AV × AH O) (haymowref36_Drop_L1 l5 n1) ([(.i .i64 0)], h7)).bind fun r28 =>
 some ((.tup [(.sl l5.1 l5.2), (.i .i64 0)]), r28.2)
 else none))
 else none
def haymowref36_Drop : Sm O := frz (haymowref36_Drop_c haymowref36_Is haymowref36_copied)
theorem haymowref36_Drop_ent : Entered Try.prog 64 := Try.call64
theorem haymowref36_Drop_run (k72 k102 : Sm O) : run (O := O) Try.prog [(72, k72), (102, k102)] Try.f64 (.n .z (.n (.n .z (.n .z .z)) (.n .z (.n .z (.n (.n .z (.n (.lp false 0 [(6, .one (.i .i64))] [] (.n (.n .z .z) (.n (.n (.n .z (.n (.lp false 2 [(7, .one (.i .i64))] [] (.n (.n .z .z) (.n (.n (.n .z (.j false [] .z .z)) .z) .z))) .z)) .z) .z))) .z)) .z))))) = haymowref36_Drop_c k72 k102 := by kernel_rfl
theorem haymowref36_Drop_sound : FSound RO Try.prog 64 (haymowref36_Drop) :=
   have h : FSound RO Try.prog 64 (haymowref36_Drop_c haymowref36_Is haymowref36_copied) := (haymowref36_Drop_run haymowref36_Is haymowref36_copied) ▸ run_sound (gcons haymowref36_Is_ent (haymowref36_Is_sound) <| gcons haymowref36_copied_ent (haymowref36_copied_sound) <| gnil) mixed Try.func64 (by kernel_rfl) _
   h.frz
def graph_Graph__Grow_c (k27 : Sm O) : Sm O := fun xs h =>
 bif Nat.beq xs.length 2 then
 (AV.asP (xs.getD 0 .u)).bind fun p0 =>
 gtI xs 1 fun n1 =>
 (k27 [(.p p0), (.i .i64 n1)] h).bind fun r2 =>
 (AV.asB r2.1).bind fun b3 =>
 (bif (!b3) then
 some ((.i .i64 4), r2.2)
 else Option.bind p0 fun q4 =>
 (r2.2.ld q4.1 q4.2).bind fun w5 =>
 (AV.asMp w5).bind fun m6 =>
 (entsOf r2.2 (.mp m6)).bind fun m7 =>
 (findM .i64 n1 m7).bind fun f8 =>
 (AV.asP (lookV f8 (.p none))).bind fun p9 =>
 Option.bind p9 fun q10 =>
 ldI r2.2 q10.1 (q10.2 + 3) fun n12 =>
 let v13 : Int := (if 7 < (IntKind.i64.wrap (n12 + 1)) then 7 else (IntKind.i64.wrap (n12 + 1)))
 Option.bind p9 fun q14 =>
 (r2.2.st q14.1 (q14.2 + 3) [(.i .i64 v13)]).bind fun h15 =>
 some ((.i .i64 0), h15))
 else none
def graph_Graph__Grow : Sm O := graph_Graph__Grow_c graph_Graph__Is
theorem graph_Graph__Grow_ent : Entered Try.prog 65 := Try.call65
theorem graph_Graph__Grow_run (k27 : Sm O) : run (O := O) Try.prog [(27, k27)] Try.f65 (.n .z (.n (.n .z (.n .z .z)) (.n .z (.n .z .z)))) = graph_Graph__Grow_c k27 := by kernel_rfl
theorem graph_Graph__Grow_sound : FSound RO Try.prog 65 graph_Graph__Grow := sdf (graph_Graph__Grow_run _) (gcons graph_Graph__Is_ent graph_Graph__Is_sound <| gnil) Try.func65 (by kernel_rfl)
def haymowref12_Older_c : Sm O := fun xs h =>
 bif Nat.beq xs.length 1 then
 (AV.asAgg 5 (xs.getD 0 .u)).bind fun c0 =>
 gtI c0 0 fun n1 =>
 gtI c0 1 fun n2 =>
 gtI c0 2 fun n3 =>
 gtI c0 3 fun n4 =>
 (AV.asB (c0.getD 4 .u)).bind fun b5 =>
 let h6 := h.bump 2
 let h7 := h6.put h.next (.cells true 53 [(.i .i64 n1), (.i .i64 n2), (.i .i64 n3), (.i .i64 n4), (.b b5)])
 let h8 := h7.put (h.next + 1) (.cells true 53 [(.i .i64 0), (.i .i64 0), (.i .i64 0), (.i .i64 0), (.b false)])
 ldI h8 (.n h.next) 3 fun n10 =>
 ((bif (decide (n10 < 7)) then
 ldI h8 (.n h.next) 3 fun n12 =>
 (h8.st (.n h.next) 3 [(.i .i64 (IntKind.i64.wrap (n12 + 1)))]).bind fun h13 =>
 some ([], h13)
 else some ([], h8)) : Option (List AV × AH O)).bind fun r14 =>
 ldI r14.2 (.n h.next) 0 fun n16 =>
 ldI r14.2 (.n h.next) 1 fun n18 =>
 ldI r14.2 (.n h.next) 2 fun n20 =>
 ldI r14.2 (.n h.next) 3 fun n22 =>
 (r14.2.ld (.n h.next) 4).bind fun w23 =>
 (AV.asB w23).bind fun b24 =>
 (r14.2.st (.n (h.next + 1)) 0 [(.i .i64 n16), (.i .i64 n18), (.i .i64 n20), (.i .i64 n22), (.b b24)]).bind fun h25 =>
 ldI h25 (.n (h.next + 1)) 0 fun n27 =>
 ldI h25 (.n (h.next + 1)) 1 fun n29 =>
 ldI h25 (.n (h.next + 1)) 2 fun n31 =>
 ldI h25 (.n (h.next + 1)) 3 fun n33 =>
 (h25.ld (.n (h.next + 1)) 4).bind fun w34 =>
 (AV.asB w34).bind fun b35 =>
 some ((.agg [(.i .i64 n27), (.i .i64 n29), (.i .i64 n31), (.i .i64 n33), (.b b35)]), h25)
 else none
def haymowref12_Older : Sm O := haymowref12_Older_c
theorem haymowref12_Older_ent : Entered Try.prog 103 := Try.call103
theorem haymowref12_Older_run : run (O := O) Try.prog [] Try.f103 (.n .z (.n (.n .z (.j false [] .z .z)) .z)) = haymowref12_Older_c  := by kernel_rfl
theorem haymowref12_Older_sound : FSound RO Try.prog 103 haymowref12_Older := sdf haymowref12_Older_run (gnil) Try.func103 (by kernel_rfl)
def haymowref36_Grow_c (k72 k102 k103 : Sm O) : Sm O := fun xs h =>
 bif Nat.beq xs.length 2 then
 gtS xs 0 fun l0 =>
 gtI xs 1 fun n1 =>
 (k72 [(.sl l0.1 l0.2), (.i .i64 n1)] h).bind fun r2 =>
 (AV.asB r2.1).bind fun b3 =>
 (bif (!b3) then
 some ((.tup [(.sl l0.1 l0.2), (.i .i64 4)]), r2.2)
 else (k102 [(.sl l0.1 l0.2)] r2.2).bind fun r4 =>
 (AV.asSl r4.1).bind fun l5 =>
 (bif ((decide ((0 : Int) <= (IntKind.i64.wrap (n1 - 1)))) && (decide ((IntKind.i64.wrap (n1 - 1)) < (l5.2 : Int)))) then
 (SA.ref l5.1).bind fun q6 =>
 ldI r4.2 q6.1 (q6.2 + ((IntKind.i64.wrap (n1 - 1)).toNat * 8)) fun n8 =>
 ldI r4.2 q6.1 ((q6.2 + ((IntKind.i64.wrap (n1 - 1)).toNat * 8)) + 1) fun n10 =>
 ldI r4.2 q6.1 (((q6.2 + ((IntKind.i64.wrap (n1 - 1)).toNat * 8)) + 1) + 1) fun n12 =>
 ldI r4.2 q6.1 ((((q6.2 + ((IntKind.i64.wrap (n1 - 1)).toNat * 8)) + 1) + 1) + 1) fun n14 =>
 (r4.2.ld q6.1 (((((q6.2 + ((IntKind.i64.wrap (n1 - 1)).toNat * 8)) + 1) + 1) + 1) + 1)).bind fun w15 =>
 (AV.asB w15).bind fun b16 =>
 (k103 [(.agg [(.i .i64 n8), (.i .i64 n10), (.i .i64 n12), (.i .i64 n14), (.b b16)])] r4.2).bind fun r17 =>
 (AV.asAgg 5 r17.1).bind fun c18 =>
 gtI c18 0 fun n19 =>
 gtI c18 1 fun n20 =>
 gtI c18 2 fun n21 =>
 gtI c18 3 fun n22 =>
 (AV.asB (c18.getD 4 .u)).bind fun b23 =>
 (bif ((decide ((0 : Int) <= (IntKind.i64.wrap (n1 - 1)))) && (decide ((IntKind.i64.wrap (n1 - 1)) < (l5.2 : Int)))) then
 (SA.ref l5.1).bind fun q24 =>
 (r17.2.st q24.1 (q24.2 + ((IntKind.i64.wrap (n1 - 1)).toNat * 8)) [(.i .i64 n19), (.i .i64 n20), (.i .i64 n21), (.i .i64 n22), (.b b23)]).bind fun h25 =>
 some ((.tup [(.sl l5.1 l5.2), (.i .i64 0)]), h25)
 else none)
 else none))
 else none
def haymowref36_Grow : Sm O := frz (haymowref36_Grow_c haymowref36_Is haymowref36_copied haymowref12_Older)
theorem haymowref36_Grow_ent : Entered Try.prog 66 := Try.call66
theorem haymowref36_Grow_run (k72 k102 k103 : Sm O) : run (O := O) Try.prog [(72, k72), (102, k102), (103, k103)] Try.f66 (.n .z (.n (.n .z (.n .z .z)) (.n .z (.n .z .z)))) = haymowref36_Grow_c k72 k102 k103 := by kernel_rfl
theorem haymowref36_Grow_sound : FSound RO Try.prog 66 (haymowref36_Grow) :=
   have h : FSound RO Try.prog 66 (haymowref36_Grow_c haymowref36_Is haymowref36_copied haymowref12_Older) := (haymowref36_Grow_run haymowref36_Is haymowref36_copied haymowref12_Older) ▸ run_sound (gcons haymowref36_Is_ent (haymowref36_Is_sound) <| gcons haymowref36_copied_ent (haymowref36_copied_sound) <| gcons haymowref12_Older_ent (haymowref12_Older_sound) <| gnil) mixed Try.func66 (by kernel_rfl) _
   h.frz
def haymowref36_Pointer_c (k72 : Sm O) : Sm O := fun xs h =>
 bif Nat.beq xs.length 3 then
 gtS xs 0 fun l0 =>
 gtI xs 1 fun n1 =>
 gtI xs 2 fun n2 =>
 (k72 [(.sl l0.1 l0.2), (.i .i64 n1)] h).bind fun r3 =>
 (AV.asB r3.1).bind fun b4 =>
 (bif (!b4) then
 some ((.tup [(.i .i64 0), (.i .i64 4)]), r3.2)
 else ((bif ((decide (n2 < 0)) == false) then
 (bif ((decide ((0 : Int) <= (IntKind.i64.wrap (n1 - 1)))) && (decide ((IntKind.i64.wrap (n1 - 1)) < (l0.2 : Int)))) then
 (SA.ref l0.1).bind fun q5 =>
 ldS r3.2 q5.1 ((q5.2 + ((IntKind.i64.wrap (n1 - 1)).toNat * 8)) + 5) fun l7 =>
 some ([(.b (decide (n2 >= (l7.2 : Int))))], r3.2)
 else none)
 else some ([(.b true)], r3.2)) : Option (List AV × AH O)).bind fun r8 =>
 (AV.asB (r8.1.getD 0 .u)).bind fun b9 =>
 (bif b9 then
 some ((.tup [(.i .i64 0), (.i .i64 32)]), r8.2)
 else (bif ((decide ((0 : Int) <= (IntKind.i64.wrap (n1 - 1)))) && (decide ((IntKind.i64.wrap (n1 - 1)) < (l0.2 : Int)))) then
 (SA.ref l0.1).bind fun q10 =>
 ldS r8.2 q10.1 ((q10.2 + ((IntKind.i64.wrap (n1 - 1)).toNat * 8)) + 5) fun l12 =>
 (bif ((decide ((0 : Int) <= n2)) && (decide (n2 < (l12.2 : Int)))) then
 (SA.ref l12.1).bind fun q13 =>
 ldI r8.2 q13.1 (q13.2 + (n2.toNat * 1)) fun n15 =>
 some ((.tup [(.i .i64 n15), (.i .i64 0)]), r8.2)
 else none)
 else none)))
 else none
def haymowref36_Pointer : Sm O := haymowref36_Pointer_c haymowref36_Is
theorem haymowref36_Pointer_ent : Entered Try.prog 74 := Try.call74
theorem haymowref36_Pointer_run (k72 : Sm O) : run (O := O) Try.prog [(72, k72)] Try.f74 (.n .z (.n (.n .z (.n .z .z)) (.n (.n (.g [(2, 9, [(24, .one .b)])]) (.n .z .z)) .z))) = haymowref36_Pointer_c k72 := by kernel_rfl
theorem haymowref36_Pointer_sound : FSound RO Try.prog 74 haymowref36_Pointer := sdf (haymowref36_Pointer_run _) (gcons haymowref36_Is_ent haymowref36_Is_sound <| gnil) Try.func74 (by kernel_rfl)
def haymowref36_Link_c (k74 k72 k102 : Sm O) : Sm O := fun xs h =>
 bif Nat.beq xs.length 4 then
 gtS xs 0 fun l0 =>
 gtI xs 1 fun n1 =>
 gtI xs 2 fun n2 =>
 gtI xs 3 fun n3 =>
 (k74 [(.sl l0.1 l0.2), (.i .i64 n1), (.i .i64 n2)] h).bind fun r4 =>
 (AV.asTup 2 r4.1).bind fun c5 =>
 gtI c5 0 fun n6 =>
 gtI c5 1 fun n7 =>
 (bif ((n7 : Int) != 0) then
 some ((.tup [(.sl l0.1 l0.2), (.i .i64 n7)]), r4.2)
 else ((bif (((n3 : Int) != 0) == true) then
 (k72 [(.sl l0.1 l0.2), (.i .i64 n3)] r4.2).bind fun r8 =>
 (AV.asB r8.1).bind fun b9 =>
 some ([(.b (!b9))], r8.2)
 else some ([(.b false)], r4.2)) : Option (List AV × AH O)).bind fun r10 =>
 (AV.asB (r10.1.getD 0 .u)).bind fun b11 =>
 (bif b11 then
 some ((.tup [(.sl l0.1 l0.2), (.i .i64 2)]), r10.2)
 else (k102 [(.sl l0.1 l0.2)] r10.2).bind fun r12 =>
 (AV.asSl r12.1).bind fun l13 =>
 (bif ((decide ((0 : Int) <= (IntKind.i64.wrap (n1 - 1)))) && (decide ((IntKind.i64.wrap (n1 - 1)) < (l13.2 : Int)))) then
 (SA.ref l13.1).bind fun q14 =>
 ldS r12.2 q14.1 ((q14.2 + ((IntKind.i64.wrap (n1 - 1)).toNat * 8)) + 5) fun l16 =>
 (bif ((decide ((0 : Int) <= n2)) && (decide (n2 < (l16.2 : Int)))) then
 (SA.ref l16.1).bind fun q17 =>
 (r12.2.st q17.1 (q17.2 + (n2.toNat * 1)) [(.i .i64 n3)]).bind fun h18 =>
 some ((.tup [(.sl l13.1 l13.2), (.i .i64 0)]), h18)
 else none)
 else none)))
 else none
def haymowref36_Link : Sm O := frz (haymowref36_Link_c haymowref36_Pointer haymowref36_Is haymowref36_copied)
theorem haymowref36_Link_ent : Entered Try.prog 67 := Try.call67
theorem haymowref36_Link_run (k74 k72 k102 : Sm O) : run (O := O) Try.prog [(74, k74), (72, k72), (102, k102)] Try.f67 (.n .z (.n (.n .z (.n .z (.n .z .z))) (.n (.n (.g [(2, 4, [(30, .one .b)])]) (.n .z .z)) (.n .z (.n .z .z))))) = haymowref36_Link_c k74 k72 k102 := by kernel_rfl
theorem haymowref36_Link_sound : FSound RO Try.prog 67 (haymowref36_Link) :=
   have h : FSound RO Try.prog 67 (haymowref36_Link_c haymowref36_Pointer haymowref36_Is haymowref36_copied) := (haymowref36_Link_run haymowref36_Pointer haymowref36_Is haymowref36_copied) ▸ run_sound (gcons haymowref36_Pointer_ent (haymowref36_Pointer_sound) <| gcons haymowref36_Is_ent (haymowref36_Is_sound) <| gcons haymowref36_copied_ent (haymowref36_copied_sound) <| gnil) mixed Try.func67 (by kernel_rfl) _
   h.frz
def graph_Graph__Raw_c (k27 : Sm O) : Sm O := fun xs h =>
 bif Nat.beq xs.length 3 then
 (AV.asP (xs.getD 0 .u)).bind fun p0 =>
 gtI xs 1 fun n1 =>
 gtI xs 2 fun n2 =>
 (k27 [(.p p0), (.i .i64 n1)] h).bind fun r3 =>
 (AV.asB r3.1).bind fun b4 =>
 (bif (!b4) then
 some ((.tup [(.i .u64 0), (.i .i64 4)]), r3.2)
 else ((bif ((decide (n2 < 0)) == false) then
 Option.bind p0 fun q5 =>
 (r3.2.ld q5.1 q5.2).bind fun w6 =>
 (AV.asMp w6).bind fun m7 =>
 (entsOf r3.2 (.mp m7)).bind fun m8 =>
 (findM .i64 n1 m8).bind fun f9 =>
 (AV.asP (lookV f9 (.p none))).bind fun p10 =>
 Option.bind p10 fun q11 =>
 ldS r3.2 q11.1 (q11.2 + 6) fun l13 =>
 some ([(.b (decide (n2 >= (l13.2 : Int))))], r3.2)
 else some ([(.b true)], r3.2)) : Option (List AV × AH O)).bind fun r14 =>
 (AV.asB (r14.1.getD 0 .u)).bind fun b15 =>
 (bif b15 then
 some ((.tup [(.i .u64 0), (.i .i64 32)]), r14.2)
 else Option.bind p0 fun q16 =>
 (r14.2.ld q16.1 q16.2).bind fun w17 =>
 (AV.asMp w17).bind fun m18 =>
 (entsOf r14.2 (.mp m18)).bind fun m19 =>
 (findM .i64 n1 m19).bind fun f20 =>
 (AV.asP (lookV f20 (.p none))).bind fun p21 =>
 Option.bind p21 fun q22 =>
 ldS r14.2 q22.1 (q22.2 + 6) fun l24 =>
 (bif ((decide ((0 : Int) <= n2)) && (decide (n2 < (l24.2 : Int)))) then
 (SA.ref l24.1).bind fun q25 =>
 ldU r14.2 q25.1 (q25.2 + (n2.toNat * 1)) fun n27 =>
 some ((.tup [(.i .u64 n27), (.i .i64 0)]), r14.2)
 else none)))
 else none
def graph_Graph__Raw : Sm O := graph_Graph__Raw_c graph_Graph__Is
theorem graph_Graph__Raw_ent : Entered Try.prog 73 := Try.call73
theorem graph_Graph__Raw_run (k27 : Sm O) : run (O := O) Try.prog [(27, k27)] Try.f73 (.n .z (.n (.n (.n .z (.n .z (.n (.g [(2, 12, [(29, .one .b)])]) (.n .z .z)))) .z) .z)) = graph_Graph__Raw_c k27 := by kernel_rfl
theorem graph_Graph__Raw_sound : FSound RO Try.prog 73 graph_Graph__Raw := sdf (graph_Graph__Raw_run _) (gcons graph_Graph__Is_ent graph_Graph__Is_sound <| gnil) Try.func73 (by kernel_rfl)
def graph_Graph__Write_c (k73 : Sm O) : Sm O := fun xs h =>
 bif Nat.beq xs.length 4 then
 (AV.asP (xs.getD 0 .u)).bind fun p0 =>
 gtI xs 1 fun n1 =>
 gtI xs 2 fun n2 =>
 gtU xs 3 fun n3 =>
 (k73 [(.p p0), (.i .i64 n1), (.i .i64 n2)] h).bind fun r4 =>
 (AV.asTup 2 r4.1).bind fun c5 =>
 gtU c5 0 fun n6 =>
 gtI c5 1 fun n7 =>
 (bif ((n7 : Int) != 0) then
 some ((.i .i64 n7), r4.2)
 else Option.bind p0 fun q8 =>
 (r4.2.ld q8.1 q8.2).bind fun w9 =>
 (AV.asMp w9).bind fun m10 =>
 (entsOf r4.2 (.mp m10)).bind fun m11 =>
 (findM .i64 n1 m11).bind fun f12 =>
 (AV.asP (lookV f12 (.p none))).bind fun p13 =>
 Option.bind p13 fun q14 =>
 ldS r4.2 q14.1 (q14.2 + 6) fun l16 =>
 (bif ((decide ((0 : Int) <= n2)) && (decide (n2 < (l16.2 : Int)))) then
 (SA.ref l16.1).bind fun q17 =>
 (r4.2.st q17.1 (q17.2 + (n2.toNat * 1)) [(.i .u64 n3)]).bind fun h18 =>
 some ((.i .i64 0), h18)
 else none))
 else none
def graph_Graph__Write : Sm O := graph_Graph__Write_c graph_Graph__Raw
theorem graph_Graph__Write_ent : Entered Try.prog 68 := Try.call68
theorem graph_Graph__Write_run (k73 : Sm O) : run (O := O) Try.prog [(73, k73)] Try.f68 (.n .z (.n (.n .z (.n .z (.n .z .z))) (.n .z .z))) = graph_Graph__Write_c k73 := by kernel_rfl
theorem graph_Graph__Write_sound : FSound RO Try.prog 68 graph_Graph__Write := sdf (graph_Graph__Write_run _) (gcons graph_Graph__Raw_ent graph_Graph__Raw_sound <| gnil) Try.func68 (by kernel_rfl)
def haymowref36_Raw_c (k72 : Sm O) : Sm O := fun xs h =>
 bif Nat.beq xs.length 3 then
 gtS xs 0 fun l0 =>
 gtI xs 1 fun n1 =>
 gtI xs 2 fun n2 =>
 (k72 [(.sl l0.1 l0.2), (.i .i64 n1)] h).bind fun r3 =>
 (AV.asB r3.1).bind fun b4 =>
 (bif (!b4) then
 some ((.tup [(.i .u64 0), (.i .i64 4)]), r3.2)
 else ((bif ((decide (n2 < 0)) == false) then
 (bif ((decide ((0 : Int) <= (IntKind.i64.wrap (n1 - 1)))) && (decide ((IntKind.i64.wrap (n1 - 1)) < (l0.2 : Int)))) then
 (SA.ref l0.1).bind fun q5 =>
 ldS r3.2 q5.1 ((q5.2 + ((IntKind.i64.wrap (n1 - 1)).toNat * 8)) + 6) fun l7 =>
 some ([(.b (decide (n2 >= (l7.2 : Int))))], r3.2)
 else none)
 else some ([(.b true)], r3.2)) : Option (List AV × AH O)).bind fun r8 =>
 (AV.asB (r8.1.getD 0 .u)).bind fun b9 =>
 (bif b9 then
 some ((.tup [(.i .u64 0), (.i .i64 32)]), r8.2)
 else (bif ((decide ((0 : Int) <= (IntKind.i64.wrap (n1 - 1)))) && (decide ((IntKind.i64.wrap (n1 - 1)) < (l0.2 : Int)))) then
 (SA.ref l0.1).bind fun q10 =>
 ldS r8.2 q10.1 ((q10.2 + ((IntKind.i64.wrap (n1 - 1)).toNat * 8)) + 6) fun l12 =>
 (bif ((decide ((0 : Int) <= n2)) && (decide (n2 < (l12.2 : Int)))) then
 (SA.ref l12.1).bind fun q13 =>
 ldU r8.2 q13.1 (q13.2 + (n2.toNat * 1)) fun n15 =>
 some ((.tup [(.i .u64 n15), (.i .i64 0)]), r8.2)
 else none)
 else none)))
 else none
def haymowref36_Raw : Sm O := haymowref36_Raw_c haymowref36_Is
theorem haymowref36_Raw_ent : Entered Try.prog 75 := Try.call75
theorem haymowref36_Raw_run (k72 : Sm O) : run (O := O) Try.prog [(72, k72)] Try.f75 (.n .z (.n (.n .z (.n .z .z)) (.n (.n (.g [(2, 9, [(24, .one .b)])]) (.n .z .z)) .z))) = haymowref36_Raw_c k72 := by kernel_rfl
theorem haymowref36_Raw_sound : FSound RO Try.prog 75 haymowref36_Raw := sdf (haymowref36_Raw_run _) (gcons haymowref36_Is_ent haymowref36_Is_sound <| gnil) Try.func75 (by kernel_rfl)
def haymowref36_Write_c (k75 k102 : Sm O) : Sm O := fun xs h =>
 bif Nat.beq xs.length 4 then
 gtS xs 0 fun l0 =>
 gtI xs 1 fun n1 =>
 gtI xs 2 fun n2 =>
 gtU xs 3 fun n3 =>
 (k75 [(.sl l0.1 l0.2), (.i .i64 n1), (.i .i64 n2)] h).bind fun r4 =>
 (AV.asTup 2 r4.1).bind fun c5 =>
 gtU c5 0 fun n6 =>
 gtI c5 1 fun n7 =>
 (bif ((n7 : Int) != 0) then
 some ((.tup [(.sl l0.1 l0.2), (.i .i64 n7)]), r4.2)
 else (k102 [(.sl l0.1 l0.2)] r4.2).bind fun r8 =>
 (AV.asSl r8.1).bind fun l9 =>
 (bif ((decide ((0 : Int) <= (IntKind.i64.wrap (n1 - 1)))) && (decide ((IntKind.i64.wrap (n1 - 1)) < (l9.2 : Int)))) then
 (SA.ref l9.1).bind fun q10 =>
 ldS r8.2 q10.1 ((q10.2 + ((IntKind.i64.wrap (n1 - 1)).toNat * 8)) + 6) fun l12 =>
 (bif ((decide ((0 : Int) <= n2)) && (decide (n2 < (l12.2 : Int)))) then
 (SA.ref l12.1).bind fun q13 =>
 (r8.2.st q13.1 (q13.2 + (n2.toNat * 1)) [(.i .u64 n3)]).bind fun h14 =>
 some ((.tup [(.sl l9.1 l9.2), (.i .i64 0)]), h14)
 else none)
 else none))
 else none
def haymowref36_Write : Sm O := frz (haymowref36_Write_c haymowref36_Raw haymowref36_copied)
theorem haymowref36_Write_ent : Entered Try.prog 69 := Try.call69
theorem haymowref36_Write_run (k75 k102 : Sm O) : run (O := O) Try.prog [(75, k75), (102, k102)] Try.f69 (.n .z (.n (.n .z (.n .z (.n .z .z))) (.n .z (.n .z .z)))) = haymowref36_Write_c k75 k102 := by kernel_rfl
theorem haymowref36_Write_sound : FSound RO Try.prog 69 (haymowref36_Write) :=
   have h : FSound RO Try.prog 69 (haymowref36_Write_c haymowref36_Raw haymowref36_copied) := (haymowref36_Write_run haymowref36_Raw haymowref36_copied) ▸ run_sound (gcons haymowref36_Raw_ent (haymowref36_Raw_sound) <| gcons haymowref36_copied_ent (haymowref36_copied_sound) <| gnil) mixed Try.func69 (by kernel_rfl) _
   h.frz
def graph_Graph__Header_c (k27 : Sm O) : Sm O := fun xs h =>
 bif Nat.beq xs.length 2 then
 (AV.asP (xs.getD 0 .u)).bind fun p0 =>
 gtI xs 1 fun n1 =>
 let h2 := h.bump 1
 let h3 := h2.put h.next (.cells true 53 [(.i .i64 0), (.i .i64 0), (.i .i64 0), (.i .i64 0), (.b false)])
 (k27 [(.p p0), (.i .i64 n1)] h3).bind fun r4 =>
 (AV.asB r4.1).bind fun b5 =>
 (bif (!b5) then
 (r4.2.st (.n h.next) 0 [(.i .i64 0), (.i .i64 0), (.i .i64 0), (.i .i64 0), (.b false)]).bind fun h6 =>
 ldI h6 (.n h.next) 0 fun n8 =>
 ldI h6 (.n h.next) 1 fun n10 =>
 ldI h6 (.n h.next) 2 fun n12 =>
 ldI h6 (.n h.next) 3 fun n14 =>
 (h6.ld (.n h.next) 4).bind fun w15 =>
 (AV.asB w15).bind fun b16 =>
 some ((.tup [(.agg [(.i .i64 n8), (.i .i64 n10), (.i .i64 n12), (.i .i64 n14), (.b b16)]), (.i .i64 4)]), h6)
 else Option.bind p0 fun q17 =>
 (r4.2.ld q17.1 q17.2).bind fun w18 =>
 (AV.asMp w18).bind fun m19 =>
 (entsOf r4.2 (.mp m19)).bind fun m20 =>
 (findM .i64 n1 m20).bind fun f21 =>
 (AV.asP (lookV f21 (.p none))).bind fun p22 =>
 Option.bind p22 fun q23 =>
 ldI r4.2 q23.1 q23.2 fun n25 =>
 ldI r4.2 q23.1 (q23.2 + 1) fun n27 =>
 ldI r4.2 q23.1 ((q23.2 + 1) + 1) fun n29 =>
 ldI r4.2 q23.1 (((q23.2 + 1) + 1) + 1) fun n31 =>
 (r4.2.ld q23.1 ((((q23.2 + 1) + 1) + 1) + 1)).bind fun w32 =>
 (AV.asB w32).bind fun b33 =>
 (r4.2.st (.n h.next) 0 [(.i .i64 n25), (.i .i64 n27), (.i .i64 n29), (.i .i64 n31), (.b b33)]).bind fun h34 =>
 ldI h34 (.n h.next) 0 fun n36 =>
 ldI h34 (.n h.next) 1 fun n38 =>
 ldI h34 (.n h.next) 2 fun n40 =>
 ldI h34 (.n h.next) 3 fun n42 =>
 (h34.ld (.n h.next) 4).bind fun w43 =>
 (AV.asB w43).bind fun b44 =>
 some ((.tup [(.agg [(.i .i64 n36), (.i .i64 n38), (.i .i64 n40), (.i .i64 n42), (.b b44)]), (.i .i64 0)]), h34))
 else none
def graph_Graph__Header : Sm O := graph_Graph__Header_c graph_Graph__Is
theorem graph_Graph__Header_ent : Entered Try.prog 36 := Try.call36
theorem graph_Graph__Header_run (k27 : Sm O) : run (O := O) Try.prog [(27, k27)] Try.f36 (.n .z (.n (.n .z (.n .z .z)) .z)) = graph_Graph__Header_c k27 := by kernel_rfl
theorem graph_Graph__Header_sound : FSound RO Try.prog 36 graph_Graph__Header := sdf (graph_Graph__Header_run _) (gcons graph_Graph__Is_ent graph_Graph__Is_sound <| gnil) Try.func36 (by kernel_rfl)
def graph_Graph__Edges_L1 (l12 : SA × Nat) : List AV × AH O -> Option ((List AV × AH O) ⊕ (List AV × AH O)) := (fun r13 =>
 (AV.asSl (r13.1.getD 0 .u)).bind fun l14 =>
 (AV.asI .i64 (r13.1.getD 1 .u)).bind fun n15 =>
 (bif (decide (n15 < (l12.2 : Int))) then
 (bif ((decide ((0 : Int) <= n15)) && (decide (n15 < (l12.2 : Int)))) then
 (SA.ref l12.1).bind fun q16 =>
 ldI r13.2 q16.1 (q16.2 + (n15.toNat * 1)) fun n18 =>
 ((bif ((n18 : Int) != 0) then
 let h19 := r13.2.bump 2
 let h20 := h19.put r13.2.next (.cells true 3 [(.i .i64 n18)])
 (h20.rdSl (.loc (.n r13.2.next) 0 1) 1 1).bind fun new21 =>
 (bif (Nat.ble ((l14.2 + 1) * 9) 35184372088832) then
 (h20.appSl (r13.2.next + 1) 3 1 l14.1 l14.2 1 new21).bind fun r22 =>
 (AV.asSl r22.1).bind fun l23 =>
 some ([(.sl l23.1 l23.2)], r22.2)
 else none)
 else some ([(.sl l14.1 l14.2)], r13.2)) : Option (List AV × AH O)).bind fun r24 =>
 (AV.asSl (r24.1.getD 0 .u)).bind fun l25 =>
 some (Sum.inl ([(.sl l25.1 l25.2), (.i .i64 (IntKind.i64.wrap (n15 + 1)))], r24.2))
 else none)
 else some (Sum.inr ([(.sl l14.1 l14.2)], r13.2))))
def graph_Graph__Edges_c (k27 : Sm O) : Sm O := fun xs h =>
 bif Nat.beq xs.length 2 then
 (AV.asP (xs.getD 0 .u)).bind fun p0 =>
 gtI xs 1 fun n1 =>
 (k27 [(.p p0), (.i .i64 n1)] h).bind fun r2 =>
 (AV.asB r2.1).bind fun b3 =>
 (bif (!b3) then
 some ((.sl .nil 0), r2.2)
 else Option.bind p0 fun q4 =>
 (r2.2.ld q4.1 q4.2).bind fun w5 =>
 (AV.asMp w5).bind fun m6 =>
 (entsOf r2.2 (.mp m6)).bind fun m7 =>
 (findM .i64 n1 m7).bind fun f8 =>
 (AV.asP (lookV f8 (.p none))).bind fun p9 =>
 Option.bind p9 fun q10 =>
 ldS r2.2 q10.1 (q10.2 + 5) fun l12 =>
 (loopF (S := List AV × AH O) (T := List AV × AH O) (graph_Graph__Edges_L1 l12) ([(.sl .nil 0), (.i .i64 0)], r2.2)).bind fun r26 =>
 (AV.asSl (r26.1.getD 0 .u)).bind fun l27 =>
 some ((.sl l27.1 l27.2), r26.2))
 else none
def graph_Graph__Edges : Sm O := graph_Graph__Edges_c graph_Graph__Is
theorem graph_Graph__Edges_ent : Entered Try.prog 26 := Try.call26
theorem graph_Graph__Edges_run (k27 : Sm O) : run (O := O) Try.prog [(27, k27)] Try.f26 (.n .z (.n (.n .z (.n .z .z)) (.n .z (.n (.n .z (.n (.lp false 0 [(5, .one .sl), (22, .one (.i .i64))] [(5, .one .sl)] (.n .z (.n .z (.n (.n (.n .z (.n .z (.j false [(5, .one .sl)] .z .z))) .z) .z)))) .z)) .z)))) = graph_Graph__Edges_c k27 := by kernel_rfl
theorem graph_Graph__Edges_sound : FSound RO Try.prog 26 graph_Graph__Edges := sdf (graph_Graph__Edges_run _) (gcons graph_Graph__Is_ent graph_Graph__Is_sound <| gnil) Try.func26 (by kernel_rfl)
def haymowref36_Edges_L1 (n1 : Int) (l0 : SA × Nat) : List AV × AH O -> Option ((List AV × AH O) ⊕ (List AV × AH O)) := (fun r4 =>
 (AV.asSl (r4.1.getD 0 .u)).bind fun l5 =>
 (AV.asI .i64 (r4.1.getD 1 .u)).bind fun n6 =>
 (bif ((decide ((0 : Int) <= (IntKind.i64.wrap (n1 - 1)))) && (decide ((IntKind.i64.wrap (n1 - 1)) < (l0.2 : Int)))) then
 (SA.ref l0.1).bind fun q7 =>
 ldS r4.2 q7.1 ((q7.2 + ((IntKind.i64.wrap (n1 - 1)).toNat * 8)) + 5) fun l9 =>
 (bif (decide (n6 < (l9.2 : Int))) then
 (bif ((decide ((0 : Int) <= (IntKind.i64.wrap (n1 - 1)))) && (decide ((IntKind.i64.wrap (n1 - 1)) < (l0.2 : Int)))) then
 (SA.ref l0.1).bind fun q10 =>
 ldS r4.2 q10.1 ((q10.2 + ((IntKind.i64.wrap (n1 - 1)).toNat * 8)) + 5) fun l12 =>
 (bif ((decide ((0 : Int) <= n6)) && (decide (n6 < (l12.2 : Int)))) then
 (SA.ref l12.1).bind fun q13 =>
 ldI r4.2 q13.1 (q13.2 + (n6.toNat * 1)) fun n15 =>
 ((bif ((n15 : Int) != 0) then
 let h16 := r4.2.bump 2
 (bif ((decide ((0 : Int) <= (IntKind.i64.wrap (n1 - 1)))) && (decide ((IntKind.i64.wrap (n1 - 1)) < (l0.2 : Int)))) then
 (SA.ref l0.1).bind fun q17 =>
 ldS h16 q17.1 ((q17.2 + ((IntKind.i64.wrap (n1 - 1)).toNat * 8)) + 5) fun l19 =>
 (bif ((decide ((0 : Int) <= n6)) && (decide (n6 < (l19.2 : Int)))) then
 (SA.ref l19.1).bind fun q20 =>
 ldI h16 q20.1 (q20.2 + (n6.toNat * 1)) fun n22 =>
 let h23 := h16.put r4.2.next (.cells true 3 [(.i .i64 n22)])
 (h23.rdSl (.loc (.n r4.2.next) 0 1) 1 1).bind fun new24 =>
 (bif (Nat.ble ((l5.2 + 1) * 9) 35184372088832) then
 (h23.appSl (r4.2.next + 1) 3 1 l5.1 l5.2 1 new24).bind fun r25 =>
 (AV.asSl r25.1).bind fun l26 =>
 some ([(.sl l26.1 l26.2)], r25.2)
 else none)
 else none)
 else none)
 else some ([(.sl l5.1 l5.2)], r4.2)) : Option (List AV × AH O)).bind fun r27 =>
 (AV.asSl (r27.1.getD 0 .u)).bind fun l28 =>
 some (Sum.inl ([(.sl l28.1 l28.2), (.i .i64 (IntKind.i64.wrap (n6 + 1)))], r27.2))
 else none)
 else none)
 else some (Sum.inr ([(.sl l5.1 l5.2)], r4.2)))
 else none))
def haymowref36_Edges_c (k72 : Sm O) : Sm O := fun xs h =>
 bif Nat.beq xs.length 2 then
 gtS xs 0 fun l0 =>
 gtI xs 1 fun n1 =>
 (k72 [(.sl l0.1 l0.2), (.i .i64 n1)] h).bind fun r2 =>
 (AV.asB r2.1).bind fun b3 =>
 (bif (!b3) then
 some ((.sl .nil 0), r2.2)
 else (loopF (S := List AV × AH O) (T := List AV × AH O) (haymowref36_Edges_L1 n1 l0) ([(.sl .nil 0), (.i .i64 0)], r2.2)).bind fun r29 =>
 (AV.asSl (r29.1.getD 0 .u)).bind fun l30 =>
 some ((.sl l30.1 l30.2), r29.2))
 else none
def haymowref36_Edges : Sm O := haymowref36_Edges_c haymowref36_Is
theorem haymowref36_Edges_ent : Entered Try.prog 37 := Try.call37
theorem haymowref36_Edges_run (k72 : Sm O) : run (O := O) Try.prog [(72, k72)] Try.f37 (.n .z (.n .z (.n (.n .z (.n .z .z)) (.n (.n .z (.n (.lp false 0 [(5, .one .sl), (6, .one (.i .i64))] [(5, .one .sl)] (.n (.n .z .z) (.n (.n (.n .z (.j false [(5, .one .sl)] .z .z)) .z) .z))) .z)) .z)))) = haymowref36_Edges_c k72 := by kernel_rfl
theorem haymowref36_Edges_sound : FSound RO Try.prog 37 haymowref36_Edges := sdf (haymowref36_Edges_run _) (gcons haymowref36_Is_ent haymowref36_Is_sound <| gnil) Try.func37 (by kernel_rfl)
def haymowref02_Same_L1 (l0 : SA × Nat) (l1 : SA × Nat) : List AV × AH O -> Option ((List AV × AH O) ⊕ ((List AV × AH O) ⊕ (AV × AH O))) := (fun r2 =>
 (AV.asI .i64 (r2.1.getD 0 .u)).bind fun n3 =>
 (bif (decide (n3 < (l0.2 : Int))) then
 (bif ((decide ((0 : Int) <= n3)) && (decide (n3 < (l0.2 : Int)))) then
 (SA.ref l0.1).bind fun q4 =>
 ldI r2.2 q4.1 (q4.2 + (n3.toNat * 1)) fun n6 =>
 (bif ((decide ((0 : Int) <= n3)) && (decide (n3 < (l1.2 : Int)))) then
 (SA.ref l1.1).bind fun q7 =>
 ldI r2.2 q7.1 (q7.2 + (n3.toNat * 1)) fun n9 =>
 (bif ((n6 : Int) != n9) then
 ((some ((.b false), r2.2) : Option (AV × AH O)).map fun r => Sum.inr (Sum.inr r))
 else some (Sum.inl ([(.i .i64 (IntKind.i64.wrap (n3 + 1)))], r2.2)))
 else none)
 else none)
 else some (Sum.inr (Sum.inl ([], r2.2)))))
def haymowref02_Same_c : Sm O := fun xs h =>
 bif Nat.beq xs.length 2 then
 gtS xs 0 fun l0 =>
 gtS xs 1 fun l1 =>
 (bif (((l0.2 : Int) : Int) != (l1.2 : Int)) then
 some ((.b false), h)
 else bindS (S := List AV × AH O) (R := (AV × AH O)) (loopF (S := List AV × AH O) (T := (List AV × AH O) ⊕ (AV × AH O)) (haymowref02_Same_L1 l0 l1) ([(.i .i64 0)], h)) fun r10 =>
 some ((.b true), r10.2))
 else none
def haymowref02_Same : Sm O := haymowref02_Same_c
theorem haymowref02_Same_ent : Entered Try.prog 30 := Try.call30
theorem haymowref02_Same_run : run (O := O) Try.prog [] Try.f30 (.n .z (.n (.n .z (.n .z .z)) (.n (.n .z (.n (.lp true 0 [(5, .one (.i .i64))] [] (.n (.n .z .z) (.n (.n (.n (.d [] [0, 1, 2, 3, 4, 5, 6, 7, 8] [0, 0, 3, 7, 0, 0, 48, 112, 255]) (.n .z .z)) .z) .z))) .z)) .z))) = haymowref02_Same_c  := by kernel_rfl
theorem haymowref02_Same_sound : FSound RO Try.prog 30 haymowref02_Same := sdf haymowref02_Same_run (gnil) Try.func30 (by kernel_rfl)
def law36_known_c (k36 k61 k73 k74 k75 k26 k37 k30 k72 k27 : Sm O) : Sm O := fun xs h =>
 bif Nat.beq xs.length 4 then
 (AV.asP (xs.getD 0 .u)).bind fun p0 =>
 gtS xs 1 fun l1 =>
 gtI xs 2 fun n2 =>
 gtI xs 3 fun n3 =>
 let h4 := h.bump 1
 (k36 [(.p p0), (.i .i64 n2)] h4).bind fun r5 =>
 (AV.asTup 2 r5.1).bind fun c6 =>
 (AV.asAgg 5 (c6.getD 0 .u)).bind fun c7 =>
 gtI c7 0 fun n8 =>
 gtI c7 1 fun n9 =>
 gtI c7 2 fun n10 =>
 gtI c7 3 fun n11 =>
 (AV.asB (c7.getD 4 .u)).bind fun b12 =>
 gtI c6 1 fun n13 =>
 let h14 := r5.2.put h.next (.cells true 53 [(.i .i64 0), (.i .i64 0), (.i .i64 0), (.i .i64 0), (.b false)])
 (h14.st (.n h.next) 0 [(.i .i64 n8), (.i .i64 n9), (.i .i64 n10), (.i .i64 n11), (.b b12)]).bind fun h15 =>
 (k61 [(.p p0), (.i .i64 n2), (.i .i64 n3)] h15).bind fun r16 =>
 (AV.asTup 2 r16.1).bind fun c17 =>
 gtI c17 0 fun n18 =>
 gtI c17 1 fun n19 =>
 (k73 [(.p p0), (.i .i64 n2), (.i .i64 n3)] r16.2).bind fun r20 =>
 (AV.asTup 2 r20.1).bind fun c21 =>
 gtU c21 0 fun n22 =>
 gtI c21 1 fun n23 =>
 (k74 [(.sl l1.1 l1.2), (.i .i64 n2), (.i .i64 n3)] r20.2).bind fun r24 =>
 (AV.asTup 2 r24.1).bind fun c25 =>
 gtI c25 0 fun n26 =>
 gtI c25 1 fun n27 =>
 (k75 [(.sl l1.1 l1.2), (.i .i64 n2), (.i .i64 n3)] r24.2).bind fun r28 =>
 (AV.asTup 2 r28.1).bind fun c29 =>
 gtU c29 0 fun n30 =>
 gtI c29 1 fun n31 =>
 ((bif (((n18 : Int) != n26) == false) then
 some ([(.b ((n19 : Int) != n27))], r28.2)
 else some ([(.b true)], r28.2)) : Option (List AV × AH O)).bind fun r32 =>
 (AV.asB (r32.1.getD 0 .u)).bind fun b33 =>
 ((bif (b33 == false) then
 some ([(.b ((n22 : Int) != n30))], r32.2)
 else some ([(.b true)], r32.2)) : Option (List AV × AH O)).bind fun r34 =>
 (AV.asB (r34.1.getD 0 .u)).bind fun b35 =>
 ((bif (b35 == false) then
 some ([(.b ((n23 : Int) != n31))], r34.2)
 else some ([(.b true)], r34.2)) : Option (List AV × AH O)).bind fun r36 =>
 (AV.asB (r36.1.getD 0 .u)).bind fun b37 =>
 ((bif (b37 == false) then
 (k26 [(.p p0), (.i .i64 n2)] r36.2).bind fun r38 =>
 (AV.asSl r38.1).bind fun l39 =>
 (k37 [(.sl l1.1 l1.2), (.i .i64 n2)] r38.2).bind fun r40 =>
 (AV.asSl r40.1).bind fun l41 =>
 (k30 [(.sl l39.1 l39.2), (.sl l41.1 l41.2)] r40.2).bind fun r42 =>
 (AV.asB r42.1).bind fun b43 =>
 some ([(.b (!b43))], r42.2)
 else some ([(.b true)], r36.2)) : Option (List AV × AH O)).bind fun r44 =>
 (AV.asB (r44.1.getD 0 .u)).bind fun b45 =>
 (bif b45 then
 some ((.b false), r44.2)
 else (k72 [(.sl l1.1 l1.2), (.i .i64 n2)] r44.2).bind fun r46 =>
 (AV.asB r46.1).bind fun b47 =>
 (bif (!b47) then
 (k27 [(.p p0), (.i .i64 n2)] r46.2).bind fun r48 =>
 (AV.asB r48.1).bind fun b49 =>
 ((bif ((!b49) == true) then
 ldI r48.2 (.n h.next) 0 fun n51 =>
 ldI r48.2 (.n h.next) 1 fun n53 =>
 ldI r48.2 (.n h.next) 2 fun n55 =>
 ldI r48.2 (.n h.next) 3 fun n57 =>
 (r48.2.ld (.n h.next) 4).bind fun w58 =>
 (AV.asB w58).bind fun b59 =>
 let c60 : Bool := ((((n51 : Int) == 0) && (((n53 : Int) == 0) && true)) && (((n55 : Int) == 0) && (((n57 : Int) == 0) && ((b59 == false) && true))))
 some ([(.b c60)], r48.2)
 else some ([(.b false)], r48.2)) : Option (List AV × AH O)).bind fun r61 =>
 (AV.asB (r61.1.getD 0 .u)).bind fun b62 =>
 ((bif (b62 == true) then
 some ([(.b ((n13 : Int) == 4))], r61.2)
 else some ([(.b false)], r61.2)) : Option (List AV × AH O)).bind fun r63 =>
 (AV.asB (r63.1.getD 0 .u)).bind fun b64 =>
 some ((.b b64), r63.2)
 else (k27 [(.p p0), (.i .i64 n2)] r46.2).bind fun r65 =>
 (AV.asB r65.1).bind fun b66 =>
 ((bif (b66 == true) then
 ldI r65.2 (.n h.next) 0 fun n68 =>
 ldI r65.2 (.n h.next) 1 fun n70 =>
 ldI r65.2 (.n h.next) 2 fun n72 =>
 ldI r65.2 (.n h.next) 3 fun n74 =>
 (r65.2.ld (.n h.next) 4).bind fun w75 =>
 (AV.asB w75).bind fun b76 =>
 (bif ((decide ((0 : Int) <= (IntKind.i64.wrap (n2 - 1)))) && (decide ((IntKind.i64.wrap (n2 - 1)) < (l1.2 : Int)))) then
 (SA.ref l1.1).bind fun q77 =>
 ldI r65.2 q77.1 (q77.2 + ((IntKind.i64.wrap (n2 - 1)).toNat * 8)) fun n79 =>
 ldI r65.2 q77.1 ((q77.2 + ((IntKind.i64.wrap (n2 - 1)).toNat * 8)) + 1) fun n81 =>
 ldI r65.2 q77.1 (((q77.2 + ((IntKind.i64.wrap (n2 - 1)).toNat * 8)) + 1) + 1) fun n83 =>
 ldI r65.2 q77.1 ((((q77.2 + ((IntKind.i64.wrap (n2 - 1)).toNat * 8)) + 1) + 1) + 1) fun n85 =>
 (r65.2.ld q77.1 (((((q77.2 + ((IntKind.i64.wrap (n2 - 1)).toNat * 8)) + 1) + 1) + 1) + 1)).bind fun w86 =>
 (AV.asB w86).bind fun b87 =>
 let c88 : Bool := ((((n68 : Int) == n79) && (((n70 : Int) == n81) && true)) && (((n72 : Int) == n83) && (((n74 : Int) == n85) && ((b76 == b87) && true))))
 some ([(.b c88)], r65.2)
 else none)
 else some ([(.b false)], r65.2)) : Option (List AV × AH O)).bind fun r89 =>
 (AV.asB (r89.1.getD 0 .u)).bind fun b90 =>
 ((bif (b90 == true) then
 some ([(.b ((n13 : Int) == 0))], r89.2)
 else some ([(.b false)], r89.2)) : Option (List AV × AH O)).bind fun r91 =>
 (AV.asB (r91.1.getD 0 .u)).bind fun b92 =>
 some ((.b b92), r91.2)))
 else none
def law36_known : Sm O := law36_known_c graph_Graph__Header graph_Graph__Pointer graph_Graph__Raw haymowref36_Pointer haymowref36_Raw graph_Graph__Edges haymowref36_Edges haymowref02_Same haymowref36_Is graph_Graph__Is
theorem law36_known_ent : Entered Try.prog 31 := Try.call31
theorem law36_known_run (k36 k61 k73 k74 k75 k26 k37 k30 k72 k27 : Sm O) : run (O := O) Try.prog [(36, k36), (61, k61), (73, k73), (74, k74), (75, k75), (26, k26), (37, k37), (30, k30), (72, k72), (27, k27)] Try.f31 (.n .z (.n .z (.n .z (.n .z (.n .z (.n .z (.n (.n (.g [(3, 3, [(60, .one .b)]), (8, 3, [(65, .one .b)]), (13, 3, [(70, .one .b)]), (18, 8, [(80, .one .b)])]) (.n .z .z)) (.n (.n .z (.n (.n (.g [(4, 3, [(93, .one .b)]), (9, 2, [(97, .one .b)])]) .z) .z)) (.n (.d [(3, 8, [(110, .one .b)]), (13, 2, [(114, .one .b)])] [0, 1, 2, 3, 4, 5, 6, 7, 8, 9, 10, 11, 12, 13, 14, 15, 16, 17] [0, 0, 3, 7, 15, 15, 15, 79, 239, 495, 1007, 2047, 4095, 8191, 16383, 32767, 65535, 131071]) .z))))))))) = law36_known_c k36 k61 k73 k74 k75 k26 k37 k30 k72 k27 := by kernel_rfl
theorem law36_known_sound : FSound RO Try.prog 31 law36_known := sdf (law36_known_run _ _ _ _ _ _ _ _ _ _) (gcons graph_Graph__Header_ent graph_Graph__Header_sound <| gcons graph_Graph__Pointer_ent graph_Graph__Pointer_sound <| gcons graph_Graph__Raw_ent graph_Graph__Raw_sound <| gcons haymowref36_Pointer_ent haymowref36_Pointer_sound <| gcons haymowref36_Raw_ent haymowref36_Raw_sound <| gcons graph_Graph__Edges_ent graph_Graph__Edges_sound <| gcons haymowref36_Edges_ent haymowref36_Edges_sound <| gcons haymowref02_Same_ent haymowref02_Same_sound <| gcons haymowref36_Is_ent haymowref36_Is_sound <| gcons graph_Graph__Is_ent graph_Graph__Is_sound <| gnil) Try.func31 (by kernel_rfl)
def law36_Do_c (k23 k63 k60 k64 k65 k66 k59 k67 k68 k69 k31 : Sm O) : Sm O := fun xs h =>
 bif Nat.beq xs.length 3 then
 (AV.asP (xs.getD 0 .u)).bind fun p0 =>
 gtS xs 1 fun l1 =>
 (AV.asAgg 10 (xs.getD 2 .u)).bind fun c2 =>
 gtI c2 0 fun n3 =>
 gtI c2 1 fun n4 =>
 gtI c2 2 fun n5 =>
 gtI c2 3 fun n6 =>
 gtI c2 4 fun n7 =>
 gtI c2 5 fun n8 =>
 gtI c2 6 fun n9 =>
 gtI c2 7 fun n10 =>
 (AV.asB (c2.getD 8 .u)).bind fun b11 =>
 gtU c2 9 fun n12 =>
 let h13 := h.bump 1
 let h14 := h13.put h.next (.cells true 56 [(.i .i64 n3), (.i .i64 n4), (.i .i64 n5), (.i .i64 n6), (.i .i64 n7), (.i .i64 n8), (.i .i64 n9), (.i .i64 n10), (.b b11), (.i .u64 n12)])
 ldI h14 (.n h.next) 0 fun n16 =>
 (bif ((n16 : Int) == 0) then
 ldI h14 (.n h.next) 4 fun n18 =>
 ldI h14 (.n h.next) 5 fun n20 =>
 ldI h14 (.n h.next) 6 fun n22 =>
 ldI h14 (.n h.next) 7 fun n24 =>
 (h14.ld (.n h.next) 8).bind fun w25 =>
 (AV.asB w25).bind fun b26 =>
 (k23 [(.p p0), (.agg [(.i .i64 n18), (.i .i64 n20), (.i .i64 n22), (.i .i64 n24), (.b b26)])] h14).bind fun r27 =>
 (AV.asTup 2 r27.1).bind fun c28 =>
 gtI c28 0 fun n29 =>
 gtI c28 1 fun n30 =>
 ldI r27.2 (.n h.next) 4 fun n32 =>
 ldI r27.2 (.n h.next) 5 fun n34 =>
 ldI r27.2 (.n h.next) 6 fun n36 =>
 ldI r27.2 (.n h.next) 7 fun n38 =>
 (r27.2.ld (.n h.next) 8).bind fun w39 =>
 (AV.asB w39).bind fun b40 =>
 (k63 [(.sl l1.1 l1.2), (.agg [(.i .i64 n32), (.i .i64 n34), (.i .i64 n36), (.i .i64 n38), (.b b40)])] r27.2).bind fun r41 =>
 (AV.asTup 3 r41.1).bind fun c42 =>
 gtS c42 0 fun l43 =>
 gtI c42 1 fun n44 =>
 gtI c42 2 fun n45 =>
 ((bif (((n29 : Int) == n44) == true) then
 some ([(.b ((n30 : Int) == n45))], r41.2)
 else some ([(.b false)], r41.2)) : Option (List AV × AH O)).bind fun r46 =>
 (AV.asB (r46.1.getD 0 .u)).bind fun b47 =>
 some ((.tup [(.sl l43.1 l43.2), (.b b47)]), r46.2)
 else (bif ((n16 : Int) == 1) then
 ldI h14 (.n h.next) 1 fun n49 =>
 (k60 [(.p p0), (.i .i64 n49)] h14).bind fun r50 =>
 (AV.asI .i64 r50.1).bind fun n51 =>
 ldI r50.2 (.n h.next) 1 fun n53 =>
 (k64 [(.sl l1.1 l1.2), (.i .i64 n53)] r50.2).bind fun r54 =>
 (AV.asTup 2 r54.1).bind fun c55 =>
 gtS c55 0 fun l56 =>
 gtI c55 1 fun n57 =>
 some ((.tup [(.sl l56.1 l56.2), (.b ((n51 : Int) == n57))]), r54.2)
 else (bif ((n16 : Int) == 2) then
 ldI h14 (.n h.next) 1 fun n59 =>
 (k65 [(.p p0), (.i .i64 n59)] h14).bind fun r60 =>
 (AV.asI .i64 r60.1).bind fun n61 =>
 ldI r60.2 (.n h.next) 1 fun n63 =>
 (k66 [(.sl l1.1 l1.2), (.i .i64 n63)] r60.2).bind fun r64 =>
 (AV.asTup 2 r64.1).bind fun c65 =>
 gtS c65 0 fun l66 =>
 gtI c65 1 fun n67 =>
 some ((.tup [(.sl l66.1 l66.2), (.b ((n61 : Int) == n67))]), r64.2)
 else (bif ((n16 : Int) == 3) then
 ldI h14 (.n h.next) 1 fun n69 =>
 ldI h14 (.n h.next) 2 fun n71 =>
 ldI h14 (.n h.next) 3 fun n73 =>
 (k59 [(.p p0), (.i .i64 n69), (.i .i64 n71), (.i .i64 n73)] h14).bind fun r74 =>
 (AV.asI .i64 r74.1).bind fun n75 =>
 ldI r74.2 (.n h.next) 1 fun n77 =>
 ldI r74.2 (.n h.next) 2 fun n79 =>
 ldI r74.2 (.n h.next) 3 fun n81 =>
 (k67 [(.sl l1.1 l1.2), (.i .i64 n77), (.i .i64 n79), (.i .i64 n81)] r74.2).bind fun r82 =>
 (AV.asTup 2 r82.1).bind fun c83 =>
 gtS c83 0 fun l84 =>
 gtI c83 1 fun n85 =>
 some ((.tup [(.sl l84.1 l84.2), (.b ((n75 : Int) == n85))]), r82.2)
 else (bif ((n16 : Int) == 4) then
 ldI h14 (.n h.next) 1 fun n87 =>
 ldI h14 (.n h.next) 2 fun n89 =>
 ldU h14 (.n h.next) 9 fun n91 =>
 (k68 [(.p p0), (.i .i64 n87), (.i .i64 n89), (.i .u64 n91)] h14).bind fun r92 =>
 (AV.asI .i64 r92.1).bind fun n93 =>
 ldI r92.2 (.n h.next) 1 fun n95 =>
 ldI r92.2 (.n h.next) 2 fun n97 =>
 ldU r92.2 (.n h.next) 9 fun n99 =>
 (k69 [(.sl l1.1 l1.2), (.i .i64 n95), (.i .i64 n97), (.i .u64 n99)] r92.2).bind fun r100 =>
 (AV.asTup 2 r100.1).bind fun c101 =>
 gtS c101 0 fun l102 =>
 gtI c101 1 fun n103 =>
 some ((.tup [(.sl l102.1 l102.2), (.b ((n93 : Int) == n103))]), r100.2)
 else ldI h14 (.n h.next) 1 fun n105 =>
 ldI h14 (.n h.next) 2 fun n107 =>
 (k31 [(.p p0), (.sl l1.1 l1.2), (.i .i64 n105), (.i .i64 n107)] h14).bind fun r108 =>
 (AV.asB r108.1).bind fun b109 =>
 some ((.tup [(.sl l1.1 l1.2), (.b b109)]), r108.2))))))
 else none
def law36_Do : Sm O := law36_Do_c graph_Graph__Add haymowref36_Add graph_Graph__Drop haymowref36_Drop graph_Graph__Grow haymowref36_Grow graph_Graph__Link haymowref36_Link graph_Graph__Write haymowref36_Write law36_known
theorem law36_Do_ent : Entered Try.prog 24 := Try.call24
theorem law36_Do_run (k23 k63 k60 k64 k65 k66 k59 k67 k68 k69 k31 : Sm O) : run (O := O) Try.prog [(23, k23), (63, k63), (60, k60), (64, k64), (65, k65), (66, k66), (59, k59), (67, k67), (68, k68), (69, k69), (31, k31)] Try.f24 (.n .z (.n .z (.n (.n .z (.n (.n .z (.n (.n .z (.n .z (.n (.g [(4, 3, [(43, .one .b)])]) .z))) (.n .z (.n (.n .z (.n .z .z)) (.n .z (.n (.n .z (.n .z .z)) (.n .z (.n (.n .z (.n .z .z)) (.n .z (.n (.n .z (.n .z .z)) .z)))))))))) .z)) .z))) = law36_Do_c k23 k63 k60 k64 k65 k66 k59 k67 k68 k69 k31 := by kernel_rfl
theorem law36_Do_sound : FSound RO Try.prog 24 law36_Do := sdf (law36_Do_run _ _ _ _ _ _ _ _ _ _ _) (gcons graph_Graph__Add_ent graph_Graph__Add_sound <| gcons haymowref36_Add_ent haymowref36_Add_sound <| gcons graph_Graph__Drop_ent graph_Graph__Drop_sound <| gcons haymowref36_Drop_ent haymowref36_Drop_sound <| gcons graph_Graph__Grow_ent graph_Graph__Grow_sound <| gcons haymowref36_Grow_ent haymowref36_Grow_sound <| gcons graph_Graph__Link_ent graph_Graph__Link_sound <| gcons haymowref36_Link_ent haymowref36_Link_sound <| gcons graph_Graph__Write_ent graph_Graph__Write_sound <| gcons haymowref36_Write_ent haymowref36_Write_sound <| gcons law36_known_ent law36_known_sound <| gnil) Try.func24 (by kernel_rfl)
end
end Go.Abs.Try
