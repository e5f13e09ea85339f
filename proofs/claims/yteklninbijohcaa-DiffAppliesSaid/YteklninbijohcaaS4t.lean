/-
  What functions of the program do. No conditions.
-/
import Derived.Test.YteklninbijohcaaS4s
import Derived.Test.YteklninbijohcaaProg
import Derived.KernelRfl
set_option linter.unusedVariables false
set_option linter.unusedSimpArgs false
set_option linter.constructorNameAsVariable false
set_option maxRecDepth 100000
namespace Go.Abs.Try
open Go Go.Abs Go.Proofs

/-- haymow/haymowlaw40.Ref -/
noncomputable def law40_Ref_L1 {O : Type} (σ : AH O) (σ6 : AH O) : List AV × AH O → Option ((List AV × AH O) ⊕ (List AV × AH O)) := (fun r14 =>
 (AV.asI .i64 (r14.1.getD 0 .u)).bind fun n15 =>
 (r14.2.ld (.n σ.next) 0).bind fun w16 =>
 (AV.asSl w16).bind fun l17 =>
 (bif (decide (n15 < (l17.2 : Int))) then
 let σ18 := r14.2.bump 2
 (σ18.ld (.n σ6.next) 0).bind fun w19 =>
 (AV.asSl w19).bind fun l20 =>
 (σ18.ld (.n σ.next) 0).bind fun w21 =>
 (AV.asSl w21).bind fun l22 =>
 (bif ((decide ((0 : Int) ≤ n15)) && (decide (n15 < (l22.2 : Int)))) then
 (SA.ref l22.1).bind fun q23 =>
 (σ18.ld q23.1 (q23.2 + (n15.toNat * 7))).bind fun w24 =>
 (AV.asI .i64 w24).bind fun n25 =>
 (σ18.ld q23.1 ((q23.2 + (n15.toNat * 7)) + 1)).bind fun w26 =>
 (AV.asI .i64 w26).bind fun n27 =>
 (σ18.ld q23.1 (((q23.2 + (n15.toNat * 7)) + 1) + 1)).bind fun w28 =>
 (AV.asI .i64 w28).bind fun n29 =>
 (σ18.ld q23.1 ((((q23.2 + (n15.toNat * 7)) + 1) + 1) + 1)).bind fun w30 =>
 (AV.asI .i64 w30).bind fun n31 =>
 (σ18.ld q23.1 (((((q23.2 + (n15.toNat * 7)) + 1) + 1) + 1) + 1)).bind fun w32 =>
 (AV.asB w32).bind fun b33 =>
 (σ18.ld (.n σ.next) 0).bind fun w34 =>
 (AV.asSl w34).bind fun l35 =>
 (bif ((decide ((0 : Int) ≤ n15)) && (decide (n15 < (l35.2 : Int)))) then
 (SA.ref l35.1).bind fun q36 =>
 (σ18.ld q36.1 ((q36.2 + (n15.toNat * 7)) + 5)).bind fun w37 =>
 (AV.asSl w37).bind fun l38 =>
 (σ18.ld (.n σ.next) 0).bind fun w39 =>
 (AV.asSl w39).bind fun l40 =>
 (bif ((decide ((0 : Int) ≤ n15)) && (decide (n15 < (l40.2 : Int)))) then
 (SA.ref l40.1).bind fun q41 =>
 (σ18.ld q41.1 ((q41.2 + (n15.toNat * 7)) + 6)).bind fun w42 =>
 (AV.asSl w42).bind fun l43 =>
 let σ44 := σ18.put r14.2.next (.cells true 78 [(.i .i64 n25), (.i .i64 n27), (.i .i64 n29), (.i .i64 n31), (.b b33), (.sl l38.1 l38.2), (.sl l43.1 l43.2)])
 (σ44.rdSl (.loc (.n r14.2.next) 0 7) 1 7).bind fun new45 =>
 (bif (Nat.ble ((l20.2 + 1) * 89) 35184372088832) then
 (σ44.appSl (r14.2.next + 1) 78 7 l20.1 l20.2 1 new45).bind fun r46 =>
 (AV.asSl r46.1).bind fun l47 =>
 (r46.2.st (.n σ6.next) 0 [(.sl l47.1 l47.2)]).bind fun σ48 =>
 some (Sum.inl ([(.i .i64 (IntKind.i64.wrap (n15 + 1)))], σ48))
 else none)
 else none)
 else none)
 else none)
 else some (Sum.inr ([], r14.2))))
noncomputable def law40_Ref_c {O : Type} : Sm O := fun xs σ =>
 bif Nat.beq xs.length 1 then
 (AV.asAgg 3 (xs.getD 0 .u)).bind fun c0 =>
 (AV.asSl (c0.getD 0 .u)).bind fun l1 =>
 (AV.asSl (c0.getD 1 .u)).bind fun l2 =>
 (AV.asSl (c0.getD 2 .u)).bind fun l3 =>
 let σ4 := σ.bump 2
 let σ5 := σ4.put σ.next (.cells true 39 [(.sl l1.1 l1.2), (.sl l2.1 l2.2), (.sl l3.1 l3.2)])
 let σ6 := σ5.put (σ.next + 1) (.cells true 52 [(.sl .nil 0), (.sl .nil 0), (.sl .nil 0)])
 let σ7 := σ6.bump 1
 (σ7.ld (.n σ.next) 1).bind fun w8 =>
 (AV.asSl w8).bind fun l9 =>
 (σ7.ld (.n σ.next) 2).bind fun w10 =>
 (AV.asSl w10).bind fun l11 =>
 let σ12 := σ7.put σ6.next (.cells true 52 [(.sl .nil 0), (.sl .nil 0), (.sl .nil 0)])
 (σ12.st (.n σ6.next) 0 [(.sl .nil 0), (.sl l9.1 l9.2), (.sl l11.1 l11.2)]).bind fun σ13 =>
 (loopF (S := List AV × AH O) (T := List AV × AH O) (law40_Ref_L1 σ σ6) ([(.i .i64 0)], σ13)).bind fun r49 =>
 (r49.2.ld (.n σ6.next) 0).bind fun w50 =>
 (AV.asSl w50).bind fun l51 =>
 (r49.2.ld (.n σ6.next) 1).bind fun w52 =>
 (AV.asSl w52).bind fun l53 =>
 (r49.2.ld (.n σ6.next) 2).bind fun w54 =>
 (AV.asSl w54).bind fun l55 =>
 (r49.2.st (.n (σ.next + 1)) 0 [(.sl l51.1 l51.2), (.sl l53.1 l53.2), (.sl l55.1 l55.2)]).bind fun σ56 =>
 (σ56.ld (.n (σ.next + 1)) 0).bind fun w57 =>
 (AV.asSl w57).bind fun l58 =>
 (σ56.ld (.n (σ.next + 1)) 1).bind fun w59 =>
 (AV.asSl w59).bind fun l60 =>
 (σ56.ld (.n (σ.next + 1)) 2).bind fun w61 =>
 (AV.asSl w61).bind fun l62 =>
 some ((.agg [(.sl l58.1 l58.2), (.sl l60.1 l60.2), (.sl l62.1 l62.2)]), σ56)
 else none
noncomputable def law40_Ref {O : Type} : Sm O := frz (law40_Ref_c)
theorem law40_Ref_ent : Entered Try.prog 35 := Try.call35
theorem law40_Ref_run {O : Type} : run (O := O) Try.prog [] Try.f35 (.n .z (.n .z (.n (.n .z (.n (.lp false 0 [(4, .one (.i .i64))] [] (.n (.n .z .z) (.n (.n (.d [] [0, 1, 2, 3, 4, 5, 6, 7, 8, 9, 10, 11, 12, 13, 14, 15, 16, 17, 18, 19, 20, 21, 22, 23, 24] [0, 1, 0, 4, 0, 28, 60, 124, 0, 256, 0, 1792, 3840, 7936, 0, 16384, 0, 114688, 245760, 507904, 1048572, 2097148, 4194303, 8388607, 16777215]) .z) .z))) .z)) .z))) = law40_Ref_c  := by kernel_rfl
theorem law40_Ref_sound {O : Type} {RO : O → Loc → (Nat → Option Obj) → Prop} : FSound RO Try.prog 35 (law40_Ref) :=
   have h : FSound RO Try.prog 35 (law40_Ref_c) := (law40_Ref_run) ▸ run_sound (gnil) mixed Try.func35 (by kernel_rfl) _
   h.frz

/-- haymow/haymowref47.same -/
noncomputable def haymowref47_same_L1 {O : Type} (l0 : SA × Nat) (l1 : SA × Nat) : List AV × AH O → Option ((List AV × AH O) ⊕ ((List AV × AH O) ⊕ (AV × AH O))) := (fun r2 =>
 (AV.asI .i64 (r2.1.getD 0 .u)).bind fun n3 =>
 (bif (decide (n3 < (l0.2 : Int))) then
 (bif ((decide ((0 : Int) ≤ n3)) && (decide (n3 < (l0.2 : Int)))) then
 (SA.ref l0.1).bind fun q4 =>
 (r2.2.ld q4.1 (q4.2 + (n3.toNat * 1))).bind fun w5 =>
 (AV.asI .i64 w5).bind fun n6 =>
 (bif ((decide ((0 : Int) ≤ n3)) && (decide (n3 < (l1.2 : Int)))) then
 (SA.ref l1.1).bind fun q7 =>
 (r2.2.ld q7.1 (q7.2 + (n3.toNat * 1))).bind fun w8 =>
 (AV.asI .i64 w8).bind fun n9 =>
 (bif ((n6 : Int) != n9) then
 ((some ((.b false), r2.2) : Option (AV × AH O)).map fun r => Sum.inr (Sum.inr r))
 else some (Sum.inl ([(.i .i64 (IntKind.i64.wrap (n3 + 1)))], r2.2)))
 else none)
 else none)
 else some (Sum.inr (Sum.inl ([], r2.2)))))
noncomputable def haymowref47_same_c {O : Type} : Sm O := fun xs σ =>
 bif Nat.beq xs.length 2 then
 (AV.asSl (xs.getD 0 .u)).bind fun l0 =>
 (AV.asSl (xs.getD 1 .u)).bind fun l1 =>
 (bif (((l0.2 : Int) : Int) != (l1.2 : Int)) then
 some ((.b false), σ)
 else bindS (S := List AV × AH O) (R := (AV × AH O)) (loopF (S := List AV × AH O) (T := (List AV × AH O) ⊕ (AV × AH O)) (haymowref47_same_L1 l0 l1) ([(.i .i64 0)], σ)) fun r10 =>
 some ((.b true), r10.2))
 else none
noncomputable def haymowref47_same {O : Type} : Sm O := haymowref47_same_c
theorem haymowref47_same_ent : Entered Try.prog 80 := Try.call80
theorem haymowref47_same_run {O : Type} : run (O := O) Try.prog [] Try.f80 (.n .z (.n (.n .z (.n .z .z)) (.n (.n .z (.n (.lp true 0 [(5, .one (.i .i64))] [] (.n (.n .z .z) (.n (.n (.n (.d [] [0, 1, 2, 3, 4, 5, 6, 7, 8] [0, 0, 3, 7, 0, 0, 48, 112, 255]) (.n .z .z)) .z) .z))) .z)) .z))) = haymowref47_same_c  := by kernel_rfl
theorem haymowref47_same_sound {O : Type} {RO : O → Loc → (Nat → Option Obj) → Prop} : FSound RO Try.prog 80 (haymowref47_same) :=
   have h : FSound RO Try.prog 80 (haymowref47_same_c) := (haymowref47_same_run) ▸ run_sound (gnil) mixed Try.func80 (by kernel_rfl) _
   h

/-- haymow/haymowref47.Of -/
noncomputable def haymowref47_Of_L3 {O : Type} (r24 : List AV × AH O) (n26 : Int) : List AV × AH O → Option ((List AV × AH O) ⊕ (List AV × AH O)) := (fun r152 =>
 (AV.asSl (r152.1.getD 0 .u)).bind fun l153 =>
 (AV.asI .i64 (r152.1.getD 1 .u)).bind fun n154 =>
 (r152.2.ld (.n (r24.2.next + 1)) 6).bind fun w155 =>
 (AV.asSl w155).bind fun l156 =>
 (bif (decide (n154 < (l156.2 : Int))) then
 (r152.2.ld (.n r24.2.next) 6).bind fun w157 =>
 (AV.asSl w157).bind fun l158 =>
 (bif ((decide ((0 : Int) ≤ n154)) && (decide (n154 < (l158.2 : Int)))) then
 (SA.ref l158.1).bind fun q159 =>
 (r152.2.ld q159.1 (q159.2 + (n154.toNat * 1))).bind fun w160 =>
 (AV.asI .u64 w160).bind fun n161 =>
 (r152.2.ld (.n (r24.2.next + 1)) 6).bind fun w162 =>
 (AV.asSl w162).bind fun l163 =>
 (bif ((decide ((0 : Int) ≤ n154)) && (decide (n154 < (l163.2 : Int)))) then
 (SA.ref l163.1).bind fun q164 =>
 (r152.2.ld q164.1 (q164.2 + (n154.toNat * 1))).bind fun w165 =>
 (AV.asI .u64 w165).bind fun n166 =>
 ((bif ((n161 : Int) != n166) then
 let σ167 := r152.2.bump 2
 (σ167.ld (.n (r24.2.next + 1)) 6).bind fun w168 =>
 (AV.asSl w168).bind fun l169 =>
 (bif ((decide ((0 : Int) ≤ n154)) && (decide (n154 < (l169.2 : Int)))) then
 (SA.ref l169.1).bind fun q170 =>
 (σ167.ld q170.1 (q170.2 + (n154.toNat * 1))).bind fun w171 =>
 (AV.asI .u64 w171).bind fun n172 =>
 let σ173 := σ167.put r152.2.next (.cells true 80 [(.i .i64 3), (.i .i64 (IntKind.i64.wrap (n26 + 1))), (.i .i64 n154), (.i .i64 0), (.i .u64 n172), (.i .i64 0), (.i .i64 0), (.i .i64 0), (.i .i64 0), (.b false), (.sl .nil 0), (.sl .nil 0), (.sl .nil 0)])
 (σ173.rdSl (.loc (.n r152.2.next) 0 13) 1 13).bind fun new174 =>
 (bif (Nat.ble ((l153.2 + 1) * 153) 35184372088832) then
 (σ173.appSl (r152.2.next + 1) 80 13 l153.1 l153.2 1 new174).bind fun r175 =>
 (AV.asSl r175.1).bind fun l176 =>
 some ([(.sl l176.1 l176.2)], r175.2)
 else none)
 else none)
 else some ([(.sl l153.1 l153.2)], r152.2)) : Option (List AV × AH O)).bind fun r177 =>
 (AV.asSl (r177.1.getD 0 .u)).bind fun l178 =>
 some (Sum.inl ([(.sl l178.1 l178.2), (.i .i64 (IntKind.i64.wrap (n154 + 1)))], r177.2))
 else none)
 else none)
 else some (Sum.inr ([(.sl l153.1 l153.2)], r152.2))))
noncomputable def haymowref47_Of_L2 {O : Type} (r24 : List AV × AH O) (n26 : Int) : List AV × AH O → Option ((List AV × AH O) ⊕ (List AV × AH O)) := (fun r123 =>
 (AV.asSl (r123.1.getD 0 .u)).bind fun l124 =>
 (AV.asI .i64 (r123.1.getD 1 .u)).bind fun n125 =>
 (r123.2.ld (.n (r24.2.next + 1)) 5).bind fun w126 =>
 (AV.asSl w126).bind fun l127 =>
 (bif (decide (n125 < (l127.2 : Int))) then
 (r123.2.ld (.n r24.2.next) 5).bind fun w128 =>
 (AV.asSl w128).bind fun l129 =>
 (bif ((decide ((0 : Int) ≤ n125)) && (decide (n125 < (l129.2 : Int)))) then
 (SA.ref l129.1).bind fun q130 =>
 (r123.2.ld q130.1 (q130.2 + (n125.toNat * 1))).bind fun w131 =>
 (AV.asI .i64 w131).bind fun n132 =>
 (r123.2.ld (.n (r24.2.next + 1)) 5).bind fun w133 =>
 (AV.asSl w133).bind fun l134 =>
 (bif ((decide ((0 : Int) ≤ n125)) && (decide (n125 < (l134.2 : Int)))) then
 (SA.ref l134.1).bind fun q135 =>
 (r123.2.ld q135.1 (q135.2 + (n125.toNat * 1))).bind fun w136 =>
 (AV.asI .i64 w136).bind fun n137 =>
 ((bif ((n132 : Int) != n137) then
 let σ138 := r123.2.bump 2
 (σ138.ld (.n (r24.2.next + 1)) 5).bind fun w139 =>
 (AV.asSl w139).bind fun l140 =>
 (bif ((decide ((0 : Int) ≤ n125)) && (decide (n125 < (l140.2 : Int)))) then
 (SA.ref l140.1).bind fun q141 =>
 (σ138.ld q141.1 (q141.2 + (n125.toNat * 1))).bind fun w142 =>
 (AV.asI .i64 w142).bind fun n143 =>
 let σ144 := σ138.put r123.2.next (.cells true 80 [(.i .i64 2), (.i .i64 (IntKind.i64.wrap (n26 + 1))), (.i .i64 n125), (.i .i64 n143), (.i .u64 0), (.i .i64 0), (.i .i64 0), (.i .i64 0), (.i .i64 0), (.b false), (.sl .nil 0), (.sl .nil 0), (.sl .nil 0)])
 (σ144.rdSl (.loc (.n r123.2.next) 0 13) 1 13).bind fun new145 =>
 (bif (Nat.ble ((l124.2 + 1) * 153) 35184372088832) then
 (σ144.appSl (r123.2.next + 1) 80 13 l124.1 l124.2 1 new145).bind fun r146 =>
 (AV.asSl r146.1).bind fun l147 =>
 some ([(.sl l147.1 l147.2)], r146.2)
 else none)
 else none)
 else some ([(.sl l124.1 l124.2)], r123.2)) : Option (List AV × AH O)).bind fun r148 =>
 (AV.asSl (r148.1.getD 0 .u)).bind fun l149 =>
 some (Sum.inl ([(.sl l149.1 l149.2), (.i .i64 (IntKind.i64.wrap (n125 + 1)))], r148.2))
 else none)
 else none)
 else some (Sum.inr ([(.sl l124.1 l124.2)], r123.2))))
noncomputable def haymowref47_Of_L1 {O : Type} (σ : AH O) : List AV × AH O → Option ((List AV × AH O) ⊕ (List AV × AH O)) := (fun r24 =>
 (AV.asSl (r24.1.getD 0 .u)).bind fun l25 =>
 (AV.asI .i64 (r24.1.getD 1 .u)).bind fun n26 =>
 (r24.2.ld (.n (σ.next + 1)) 0).bind fun w27 =>
 (AV.asSl w27).bind fun l28 =>
 (bif (decide (n26 < (l28.2 : Int))) then
 (let σ29 := r24.2.bump 2
 (σ29.ld (.n (σ.next + 1)) 0).bind fun w30 =>
 (AV.asSl w30).bind fun l31 =>
 (bif ((decide ((0 : Int) ≤ n26)) && (decide (n26 < (l31.2 : Int)))) then
 (SA.ref l31.1).bind fun q32 =>
 (σ29.ld q32.1 (q32.2 + (n26.toNat * 7))).bind fun w33 =>
 (AV.asI .i64 w33).bind fun n34 =>
 (σ29.ld q32.1 ((q32.2 + (n26.toNat * 7)) + 1)).bind fun w35 =>
 (AV.asI .i64 w35).bind fun n36 =>
 (σ29.ld q32.1 (((q32.2 + (n26.toNat * 7)) + 1) + 1)).bind fun w37 =>
 (AV.asI .i64 w37).bind fun n38 =>
 (σ29.ld q32.1 ((((q32.2 + (n26.toNat * 7)) + 1) + 1) + 1)).bind fun w39 =>
 (AV.asI .i64 w39).bind fun n40 =>
 (σ29.ld q32.1 (((((q32.2 + (n26.toNat * 7)) + 1) + 1) + 1) + 1)).bind fun w41 =>
 (AV.asB w41).bind fun b42 =>
 (σ29.ld q32.1 ((((((q32.2 + (n26.toNat * 7)) + 1) + 1) + 1) + 1) + 1)).bind fun w43 =>
 (AV.asSl w43).bind fun l44 =>
 (σ29.ld q32.1 (((((((q32.2 + (n26.toNat * 7)) + 1) + 1) + 1) + 1) + 1) + 1)).bind fun w45 =>
 (AV.asSl w45).bind fun l46 =>
 let σ47 := σ29.put r24.2.next (.cells true 78 [(.i .i64 0), (.i .i64 0), (.i .i64 0), (.i .i64 0), (.b false), (.sl .nil 0), (.sl .nil 0)])
 let σ48 := σ47.put (r24.2.next + 1) (.cells true 78 [(.i .i64 0), (.i .i64 0), (.i .i64 0), (.i .i64 0), (.b false), (.sl .nil 0), (.sl .nil 0)])
 (σ48.st (.n r24.2.next) 0 [(.i .i64 0), (.i .i64 0), (.i .i64 0), (.i .i64 0), (.b false), (.sl .nil 0), (.sl .nil 0)]).bind fun σ49 =>
 (chk (σ49.ld (.n (σ.next + 1)) 0 = some (.sl l31.1 l31.2))).bind fun _ =>
 (chk (σ49.ld q32.1 (q32.2 + (n26.toNat * 7)) = some (.i .i64 n34))).bind fun _ =>
 (chk (σ49.ld q32.1 ((q32.2 + (n26.toNat * 7)) + 1) = some (.i .i64 n36))).bind fun _ =>
 (chk (σ49.ld q32.1 (((q32.2 + (n26.toNat * 7)) + 1) + 1) = some (.i .i64 n38))).bind fun _ =>
 (chk (σ49.ld q32.1 ((((q32.2 + (n26.toNat * 7)) + 1) + 1) + 1) = some (.i .i64 n40))).bind fun _ =>
 (chk (σ49.ld q32.1 (((((q32.2 + (n26.toNat * 7)) + 1) + 1) + 1) + 1) = some (.b b42))).bind fun _ =>
 (chk (σ49.ld q32.1 ((((((q32.2 + (n26.toNat * 7)) + 1) + 1) + 1) + 1) + 1) = some (.sl l44.1 l44.2))).bind fun _ =>
 (chk (σ49.ld q32.1 (((((((q32.2 + (n26.toNat * 7)) + 1) + 1) + 1) + 1) + 1) + 1) = some (.sl l46.1 l46.2))).bind fun _ =>
 (σ49.st (.n (r24.2.next + 1)) 0 [(.i .i64 n34), (.i .i64 n36), (.i .i64 n38), (.i .i64 n40), (.b b42), (.sl l44.1 l44.2), (.sl l46.1 l46.2)]).bind fun σ50 =>
 (σ50.ld (.n σ.next) 0).bind fun w51 =>
 (AV.asSl w51).bind fun l52 =>
 ((bif (decide (n26 < (l52.2 : Int))) then
 (σ50.ld (.n σ.next) 0).bind fun w53 =>
 (AV.asSl w53).bind fun l54 =>
 (bif ((decide ((0 : Int) ≤ n26)) && (decide (n26 < (l54.2 : Int)))) then
 (SA.ref l54.1).bind fun q55 =>
 (σ50.ld q55.1 (q55.2 + (n26.toNat * 7))).bind fun w56 =>
 (AV.asI .i64 w56).bind fun n57 =>
 (σ50.ld q55.1 ((q55.2 + (n26.toNat * 7)) + 1)).bind fun w58 =>
 (AV.asI .i64 w58).bind fun n59 =>
 (σ50.ld q55.1 (((q55.2 + (n26.toNat * 7)) + 1) + 1)).bind fun w60 =>
 (AV.asI .i64 w60).bind fun n61 =>
 (σ50.ld q55.1 ((((q55.2 + (n26.toNat * 7)) + 1) + 1) + 1)).bind fun w62 =>
 (AV.asI .i64 w62).bind fun n63 =>
 (σ50.ld q55.1 (((((q55.2 + (n26.toNat * 7)) + 1) + 1) + 1) + 1)).bind fun w64 =>
 (AV.asB w64).bind fun b65 =>
 (σ50.ld q55.1 ((((((q55.2 + (n26.toNat * 7)) + 1) + 1) + 1) + 1) + 1)).bind fun w66 =>
 (AV.asSl w66).bind fun l67 =>
 (σ50.ld q55.1 (((((((q55.2 + (n26.toNat * 7)) + 1) + 1) + 1) + 1) + 1) + 1)).bind fun w68 =>
 (AV.asSl w68).bind fun l69 =>
 (σ50.st (.n r24.2.next) 0 [(.i .i64 n57), (.i .i64 n59), (.i .i64 n61), (.i .i64 n63), (.b b65), (.sl l67.1 l67.2), (.sl l69.1 l69.2)]).bind fun σ70 =>
 some ([], σ70)
 else none)
 else some ([], σ50)) : Option (List AV × AH O)).bind fun r71 =>
 (r71.2.ld (.n r24.2.next) 0).bind fun w72 =>
 (AV.asI .i64 w72).bind fun n73 =>
 (r71.2.ld (.n r24.2.next) 1).bind fun w74 =>
 (AV.asI .i64 w74).bind fun n75 =>
 (r71.2.ld (.n r24.2.next) 2).bind fun w76 =>
 (AV.asI .i64 w76).bind fun n77 =>
 (r71.2.ld (.n r24.2.next) 3).bind fun w78 =>
 (AV.asI .i64 w78).bind fun n79 =>
 (r71.2.ld (.n r24.2.next) 4).bind fun w80 =>
 (AV.asB w80).bind fun b81 =>
 (r71.2.ld (.n (r24.2.next + 1)) 0).bind fun w82 =>
 (AV.asI .i64 w82).bind fun n83 =>
 (r71.2.ld (.n (r24.2.next + 1)) 1).bind fun w84 =>
 (AV.asI .i64 w84).bind fun n85 =>
 (r71.2.ld (.n (r24.2.next + 1)) 2).bind fun w86 =>
 (AV.asI .i64 w86).bind fun n87 =>
 (r71.2.ld (.n (r24.2.next + 1)) 3).bind fun w88 =>
 (AV.asI .i64 w88).bind fun n89 =>
 (r71.2.ld (.n (r24.2.next + 1)) 4).bind fun w90 =>
 (AV.asB w90).bind fun b91 =>
 ((bif ((!((((n73 : Int) == n83) && (((n75 : Int) == n85) && true)) && (((n77 : Int) == n87) && (((n79 : Int) == n89) && ((b81 == b91) && true))))) == false) then
 (r71.2.ld (.n r24.2.next) 5).bind fun w92 =>
 (AV.asSl w92).bind fun l93 =>
 (r71.2.ld (.n (r24.2.next + 1)) 5).bind fun w94 =>
 (AV.asSl w94).bind fun l95 =>
 some ([(.b (((l93.2 : Int) : Int) != (l95.2 : Int)))], r71.2)
 else some ([(.b true)], r71.2)) : Option (List AV × AH O)).bind fun r96 =>
 (AV.asB (r96.1.getD 0 .u)).bind fun b97 =>
 ((bif (b97 == false) then
 (r96.2.ld (.n r24.2.next) 6).bind fun w98 =>
 (AV.asSl w98).bind fun l99 =>
 (r96.2.ld (.n (r24.2.next + 1)) 6).bind fun w100 =>
 (AV.asSl w100).bind fun l101 =>
 some ([(.b (((l99.2 : Int) : Int) != (l101.2 : Int)))], r96.2)
 else some ([(.b true)], r96.2)) : Option (List AV × AH O)).bind fun r102 =>
 (AV.asB (r102.1.getD 0 .u)).bind fun b103 =>
 (bif b103 then
 let σ104 := r102.2.bump 2
 (σ104.ld (.n (r24.2.next + 1)) 0).bind fun w105 =>
 (AV.asI .i64 w105).bind fun n106 =>
 (σ104.ld (.n (r24.2.next + 1)) 1).bind fun w107 =>
 (AV.asI .i64 w107).bind fun n108 =>
 (σ104.ld (.n (r24.2.next + 1)) 2).bind fun w109 =>
 (AV.asI .i64 w109).bind fun n110 =>
 (σ104.ld (.n (r24.2.next + 1)) 3).bind fun w111 =>
 (AV.asI .i64 w111).bind fun n112 =>
 (σ104.ld (.n (r24.2.next + 1)) 4).bind fun w113 =>
 (AV.asB w113).bind fun b114 =>
 (σ104.ld (.n (r24.2.next + 1)) 5).bind fun w115 =>
 (AV.asSl w115).bind fun l116 =>
 (σ104.ld (.n (r24.2.next + 1)) 6).bind fun w117 =>
 (AV.asSl w117).bind fun l118 =>
 let σ119 := σ104.put r102.2.next (.cells true 80 [(.i .i64 1), (.i .i64 (IntKind.i64.wrap (n26 + 1))), (.i .i64 0), (.i .i64 0), (.i .u64 0), (.i .i64 n106), (.i .i64 n108), (.i .i64 n110), (.i .i64 n112), (.b b114), (.sl l116.1 l116.2), (.sl l118.1 l118.2), (.sl .nil 0)])
 (σ119.rdSl (.loc (.n r102.2.next) 0 13) 1 13).bind fun new120 =>
 (bif (Nat.ble ((l25.2 + 1) * 153) 35184372088832) then
 (σ119.appSl (r102.2.next + 1) 80 13 l25.1 l25.2 1 new120).bind fun r121 =>
 (AV.asSl r121.1).bind fun l122 =>
 some ([(.sl l122.1 l122.2)], r121.2)
 else none)
 else (loopF (S := List AV × AH O) (T := List AV × AH O) (haymowref47_Of_L2 r24 n26) ([(.sl l25.1 l25.2), (.i .i64 0)], r102.2)).bind fun r150 =>
 (AV.asSl (r150.1.getD 0 .u)).bind fun l151 =>
 (loopF (S := List AV × AH O) (T := List AV × AH O) (haymowref47_Of_L3 r24 n26) ([(.sl l151.1 l151.2), (.i .i64 0)], r150.2)).bind fun r179 =>
 (AV.asSl (r179.1.getD 0 .u)).bind fun l180 =>
 some ([(.sl l180.1 l180.2)], r179.2))
 else none) : Option (List AV × AH O)).bind fun r181 =>
 (AV.asSl (r181.1.getD 0 .u)).bind fun l182 =>
 some (Sum.inl ([(.sl l182.1 l182.2), (.i .i64 (IntKind.i64.wrap (n26 + 1)))], r181.2))
 else some (Sum.inr ([(.sl l25.1 l25.2)], r24.2))))
noncomputable def haymowref47_Of_c {O : Type} (k80 : Sm O) : Sm O := fun xs σ =>
 bif Nat.beq xs.length 2 then
 (AV.asAgg 3 (xs.getD 0 .u)).bind fun c0 =>
 (AV.asSl (c0.getD 0 .u)).bind fun l1 =>
 (AV.asSl (c0.getD 1 .u)).bind fun l2 =>
 (AV.asSl (c0.getD 2 .u)).bind fun l3 =>
 (AV.asAgg 3 (xs.getD 1 .u)).bind fun c4 =>
 (AV.asSl (c4.getD 0 .u)).bind fun l5 =>
 (AV.asSl (c4.getD 1 .u)).bind fun l6 =>
 (AV.asSl (c4.getD 2 .u)).bind fun l7 =>
 let σ8 := σ.bump 2
 let σ9 := σ8.put σ.next (.cells true 52 [(.sl l1.1 l1.2), (.sl l2.1 l2.2), (.sl l3.1 l3.2)])
 let σ10 := σ9.put (σ.next + 1) (.cells true 52 [(.sl l5.1 l5.2), (.sl l6.1 l6.2), (.sl l7.1 l7.2)])
 (σ10.ld (.n σ.next) 0).bind fun w11 =>
 (AV.asSl w11).bind fun l12 =>
 (σ10.ld (.n (σ.next + 1)) 0).bind fun w13 =>
 (AV.asSl w13).bind fun l14 =>
 ((bif (((l12.2 : Int) : Int) != (l14.2 : Int)) then
 let σ15 := σ10.bump 2
 (σ15.ld (.n (σ.next + 1)) 0).bind fun w16 =>
 (AV.asSl w16).bind fun l17 =>
 let σ18 := σ15.put σ10.next (.cells true 80 [(.i .i64 0), (.i .i64 0), (.i .i64 0), (.i .i64 (l17.2 : Int)), (.i .u64 0), (.i .i64 0), (.i .i64 0), (.i .i64 0), (.i .i64 0), (.b false), (.sl .nil 0), (.sl .nil 0), (.sl .nil 0)])
 (σ18.rdSl (.loc (.n σ10.next) 0 13) 1 13).bind fun new19 =>
 (bif (Nat.ble ((0 + 1) * 153) 35184372088832) then
 (σ18.appSl (σ10.next + 1) 80 13 .nil 0 1 new19).bind fun r20 =>
 (AV.asSl r20.1).bind fun l21 =>
 some ([(.sl l21.1 l21.2)], r20.2)
 else none)
 else some ([(.sl .nil 0)], σ10)) : Option (List AV × AH O)).bind fun r22 =>
 (AV.asSl (r22.1.getD 0 .u)).bind fun l23 =>
 (loopF (S := List AV × AH O) (T := List AV × AH O) (haymowref47_Of_L1 σ) ([(.sl l23.1 l23.2), (.i .i64 0)], r22.2)).bind fun r183 =>
 (AV.asSl (r183.1.getD 0 .u)).bind fun l184 =>
 (r183.2.ld (.n σ.next) 1).bind fun w185 =>
 (AV.asSl w185).bind fun l186 =>
 (r183.2.ld (.n (σ.next + 1)) 1).bind fun w187 =>
 (AV.asSl w187).bind fun l188 =>
 (k80 [(.sl l186.1 l186.2), (.sl l188.1 l188.2)] r183.2).bind fun r189 =>
 (AV.asB r189.1).bind fun b190 =>
 ((bif (!b190) then
 let σ191 := r189.2.bump 2
 (σ191.ld (.n (σ.next + 1)) 1).bind fun w192 =>
 (AV.asSl w192).bind fun l193 =>
 let σ194 := σ191.put r189.2.next (.cells true 80 [(.i .i64 4), (.i .i64 0), (.i .i64 0), (.i .i64 0), (.i .u64 0), (.i .i64 0), (.i .i64 0), (.i .i64 0), (.i .i64 0), (.b false), (.sl .nil 0), (.sl .nil 0), (.sl l193.1 l193.2)])
 (σ194.rdSl (.loc (.n r189.2.next) 0 13) 1 13).bind fun new195 =>
 (bif (Nat.ble ((l184.2 + 1) * 153) 35184372088832) then
 (σ194.appSl (r189.2.next + 1) 80 13 l184.1 l184.2 1 new195).bind fun r196 =>
 (AV.asSl r196.1).bind fun l197 =>
 some ([(.sl l197.1 l197.2)], r196.2)
 else none)
 else some ([(.sl l184.1 l184.2)], r189.2)) : Option (List AV × AH O)).bind fun r198 =>
 (AV.asSl (r198.1.getD 0 .u)).bind fun l199 =>
 (r198.2.ld (.n σ.next) 2).bind fun w200 =>
 (AV.asSl w200).bind fun l201 =>
 (r198.2.ld (.n (σ.next + 1)) 2).bind fun w202 =>
 (AV.asSl w202).bind fun l203 =>
 (k80 [(.sl l201.1 l201.2), (.sl l203.1 l203.2)] r198.2).bind fun r204 =>
 (AV.asB r204.1).bind fun b205 =>
 ((bif (!b205) then
 let σ206 := r204.2.bump 2
 (σ206.ld (.n (σ.next + 1)) 2).bind fun w207 =>
 (AV.asSl w207).bind fun l208 =>
 let σ209 := σ206.put r204.2.next (.cells true 80 [(.i .i64 5), (.i .i64 0), (.i .i64 0), (.i .i64 0), (.i .u64 0), (.i .i64 0), (.i .i64 0), (.i .i64 0), (.i .i64 0), (.b false), (.sl .nil 0), (.sl .nil 0), (.sl l208.1 l208.2)])
 (σ209.rdSl (.loc (.n r204.2.next) 0 13) 1 13).bind fun new210 =>
 (bif (Nat.ble ((l199.2 + 1) * 153) 35184372088832) then
 (σ209.appSl (r204.2.next + 1) 80 13 l199.1 l199.2 1 new210).bind fun r211 =>
 (AV.asSl r211.1).bind fun l212 =>
 some ([(.sl l212.1 l212.2)], r211.2)
 else none)
 else some ([(.sl l199.1 l199.2)], r204.2)) : Option (List AV × AH O)).bind fun r213 =>
 (AV.asSl (r213.1.getD 0 .u)).bind fun l214 =>
 some ((.sl l214.1 l214.2), r213.2)
 else none
noncomputable def haymowref47_Of {O : Type} : Sm O := frz (haymowref47_Of_c haymowref47_same)
theorem haymowref47_Of_ent : Entered Try.prog 40 := Try.call40
theorem haymowref47_Of_run {O : Type} (k80 : Sm O) : run (O := O) Try.prog [(80, k80)] Try.f40 (.n .z (.n .z (.n (.n .z (.j false [(5, .one .sl)] .z .z)) (.n (.n .z (.n (.lp false 0 [(5, .one .sl), (6, .one (.i .i64))] [(5, .one .sl)] (.n (.n .z .z) (.n (.j false [(5, .one .sl)] (.n (.d [] [0, 1, 2, 3, 4, 5, 6, 7, 8, 9] [0, 0, 2, 0, 14, 30, 0, 0, 193, 511]) (.n (.n .z (.j false [] .z .z)) (.n (.n (.g [(5, 7, [(61, .one .b)]), (14, 7, [(70, .one .b)])]) (.n .z .z)) (.n (.n .z (.n (.lp false 2 [(5, .one .sl), (9, .one (.i .i64))] [(5, .one .sl)] (.n (.n .z .z) (.n (.n (.n (.d [] [0, 1, 2, 3, 4, 5, 6, 7, 8, 9, 10] [0, 1, 0, 7, 15, 0, 32, 0, 224, 480, 1023]) (.j false [(5, .one .sl)] .z .z)) .z) .z))) .z)) (.n .z (.n (.lp false 4 [(5, .one .sl), (10, .one (.i .i64))] [(5, .one .sl)] (.n (.n .z .z) (.n (.n (.n (.d [] [0, 1, 2, 3, 4, 5, 6, 7, 8, 9, 10] [0, 1, 0, 7, 15, 0, 32, 0, 224, 480, 1023]) (.j false [(5, .one .sl)] .z .z)) .z) .z))) .z)))))) .z) .z))) .z)) (.n (.n .z (.j false [(5, .one .sl)] .z .z)) (.n (.n .z (.j false [(5, .one .sl)] .z .z)) .z)))))) = haymowref47_Of_c k80 := by kernel_rfl
theorem haymowref47_Of_sound {O : Type} {RO : O → Loc → (Nat → Option Obj) → Prop} : FSound RO Try.prog 40 (haymowref47_Of) :=
   have h : FSound RO Try.prog 40 (haymowref47_Of_c haymowref47_same) := (haymowref47_Of_run haymowref47_same) ▸ run_sound (gcons haymowref47_same_ent (haymowref47_same_sound) <| gnil) mixed Try.func40 (by kernel_rfl) _
   h.frz

/-- haymow/haymowref02.Same -/
noncomputable def haymowref02_Same_L1 {O : Type} (l0 : SA × Nat) (l1 : SA × Nat) : List AV × AH O → Option ((List AV × AH O) ⊕ ((List AV × AH O) ⊕ (AV × AH O))) := (fun r2 =>
 (AV.asI .i64 (r2.1.getD 0 .u)).bind fun n3 =>
 (bif (decide (n3 < (l0.2 : Int))) then
 (bif ((decide ((0 : Int) ≤ n3)) && (decide (n3 < (l0.2 : Int)))) then
 (SA.ref l0.1).bind fun q4 =>
 (r2.2.ld q4.1 (q4.2 + (n3.toNat * 1))).bind fun w5 =>
 (AV.asI .i64 w5).bind fun n6 =>
 (bif ((decide ((0 : Int) ≤ n3)) && (decide (n3 < (l1.2 : Int)))) then
 (SA.ref l1.1).bind fun q7 =>
 (r2.2.ld q7.1 (q7.2 + (n3.toNat * 1))).bind fun w8 =>
 (AV.asI .i64 w8).bind fun n9 =>
 (bif ((n6 : Int) != n9) then
 ((some ((.b false), r2.2) : Option (AV × AH O)).map fun r => Sum.inr (Sum.inr r))
 else some (Sum.inl ([(.i .i64 (IntKind.i64.wrap (n3 + 1)))], r2.2)))
 else none)
 else none)
 else some (Sum.inr (Sum.inl ([], r2.2)))))
noncomputable def haymowref02_Same_c {O : Type} : Sm O := fun xs σ =>
 bif Nat.beq xs.length 2 then
 (AV.asSl (xs.getD 0 .u)).bind fun l0 =>
 (AV.asSl (xs.getD 1 .u)).bind fun l1 =>
 (bif (((l0.2 : Int) : Int) != (l1.2 : Int)) then
 some ((.b false), σ)
 else bindS (S := List AV × AH O) (R := (AV × AH O)) (loopF (S := List AV × AH O) (T := (List AV × AH O) ⊕ (AV × AH O)) (haymowref02_Same_L1 l0 l1) ([(.i .i64 0)], σ)) fun r10 =>
 some ((.b true), r10.2))
 else none
noncomputable def haymowref02_Same {O : Type} : Sm O := haymowref02_Same_c
theorem haymowref02_Same_ent : Entered Try.prog 42 := Try.call42
theorem haymowref02_Same_run {O : Type} : run (O := O) Try.prog [] Try.f42 (.n .z (.n (.n .z (.n .z .z)) (.n (.n .z (.n (.lp true 0 [(5, .one (.i .i64))] [] (.n (.n .z .z) (.n (.n (.n (.d [] [0, 1, 2, 3, 4, 5, 6, 7, 8] [0, 0, 3, 7, 0, 0, 48, 112, 255]) (.n .z .z)) .z) .z))) .z)) .z))) = haymowref02_Same_c  := by kernel_rfl
theorem haymowref02_Same_sound {O : Type} {RO : O → Loc → (Nat → Option Obj) → Prop} : FSound RO Try.prog 42 (haymowref02_Same) :=
   have h : FSound RO Try.prog 42 (haymowref02_Same_c) := (haymowref02_Same_run) ▸ run_sound (gnil) mixed Try.func42 (by kernel_rfl) _
   h

/-- haymow/haymowref05.Same -/
noncomputable def haymowref05_Same_L1 {O : Type} (l0 : SA × Nat) (l1 : SA × Nat) : List AV × AH O → Option ((List AV × AH O) ⊕ ((List AV × AH O) ⊕ (AV × AH O))) := (fun r2 =>
 (AV.asI .i64 (r2.1.getD 0 .u)).bind fun n3 =>
 (bif (decide (n3 < (l0.2 : Int))) then
 (bif ((decide ((0 : Int) ≤ n3)) && (decide (n3 < (l0.2 : Int)))) then
 (SA.ref l0.1).bind fun q4 =>
 (r2.2.ld q4.1 (q4.2 + (n3.toNat * 1))).bind fun w5 =>
 (AV.asI .u64 w5).bind fun n6 =>
 (bif ((decide ((0 : Int) ≤ n3)) && (decide (n3 < (l1.2 : Int)))) then
 (SA.ref l1.1).bind fun q7 =>
 (r2.2.ld q7.1 (q7.2 + (n3.toNat * 1))).bind fun w8 =>
 (AV.asI .u64 w8).bind fun n9 =>
 (bif ((n6 : Int) != n9) then
 ((some ((.b false), r2.2) : Option (AV × AH O)).map fun r => Sum.inr (Sum.inr r))
 else some (Sum.inl ([(.i .i64 (IntKind.i64.wrap (n3 + 1)))], r2.2)))
 else none)
 else none)
 else some (Sum.inr (Sum.inl ([], r2.2)))))
noncomputable def haymowref05_Same_c {O : Type} : Sm O := fun xs σ =>
 bif Nat.beq xs.length 2 then
 (AV.asSl (xs.getD 0 .u)).bind fun l0 =>
 (AV.asSl (xs.getD 1 .u)).bind fun l1 =>
 (bif (((l0.2 : Int) : Int) != (l1.2 : Int)) then
 some ((.b false), σ)
 else bindS (S := List AV × AH O) (R := (AV × AH O)) (loopF (S := List AV × AH O) (T := (List AV × AH O) ⊕ (AV × AH O)) (haymowref05_Same_L1 l0 l1) ([(.i .i64 0)], σ)) fun r10 =>
 some ((.b true), r10.2))
 else none
noncomputable def haymowref05_Same {O : Type} : Sm O := haymowref05_Same_c
theorem haymowref05_Same_ent : Entered Try.prog 69 := Try.call69
theorem haymowref05_Same_run {O : Type} : run (O := O) Try.prog [] Try.f69 (.n .z (.n (.n .z (.n .z .z)) (.n (.n .z (.n (.lp true 0 [(5, .one (.i .i64))] [] (.n (.n .z .z) (.n (.n (.n (.d [] [0, 1, 2, 3, 4, 5, 6, 7, 8] [0, 0, 3, 7, 0, 0, 48, 112, 255]) (.n .z .z)) .z) .z))) .z)) .z))) = haymowref05_Same_c  := by kernel_rfl
theorem haymowref05_Same_sound {O : Type} {RO : O → Loc → (Nat → Option Obj) → Prop} : FSound RO Try.prog 69 (haymowref05_Same) :=
   have h : FSound RO Try.prog 69 (haymowref05_Same_c) := (haymowref05_Same_run) ▸ run_sound (gnil) mixed Try.func69 (by kernel_rfl) _
   h

/-- haymow/haymowlaw40.Is -/
noncomputable def law40_Is_L1 {O : Type} (σ : AH O) (k42 : Sm O) (k69 : Sm O) : List AV × AH O → Option ((List AV × AH O) ⊕ ((List AV × AH O) ⊕ (AV × AH O))) := (fun r31 =>
 (AV.asI .i64 (r31.1.getD 0 .u)).bind fun n32 =>
 (r31.2.ld (.n (σ.next + 1)) 0).bind fun w33 =>
 (AV.asSl w33).bind fun l34 =>
 (bif (decide (n32 < (l34.2 : Int))) then
 (r31.2.ld (.n σ.next) 0).bind fun w35 =>
 (AV.asSl w35).bind fun l36 =>
 (bif ((decide ((0 : Int) ≤ n32)) && (decide (n32 < (l36.2 : Int)))) then
 (SA.ref l36.1).bind fun q37 =>
 (r31.2.ld q37.1 (q37.2 + (n32.toNat * 7))).bind fun w38 =>
 (AV.asI .i64 w38).bind fun n39 =>
 (r31.2.ld q37.1 ((q37.2 + (n32.toNat * 7)) + 1)).bind fun w40 =>
 (AV.asI .i64 w40).bind fun n41 =>
 (r31.2.ld q37.1 (((q37.2 + (n32.toNat * 7)) + 1) + 1)).bind fun w42 =>
 (AV.asI .i64 w42).bind fun n43 =>
 (r31.2.ld q37.1 ((((q37.2 + (n32.toNat * 7)) + 1) + 1) + 1)).bind fun w44 =>
 (AV.asI .i64 w44).bind fun n45 =>
 (r31.2.ld q37.1 (((((q37.2 + (n32.toNat * 7)) + 1) + 1) + 1) + 1)).bind fun w46 =>
 (AV.asB w46).bind fun b47 =>
 (r31.2.ld (.n (σ.next + 1)) 0).bind fun w48 =>
 (AV.asSl w48).bind fun l49 =>
 (bif ((decide ((0 : Int) ≤ n32)) && (decide (n32 < (l49.2 : Int)))) then
 (SA.ref l49.1).bind fun q50 =>
 (r31.2.ld q50.1 (q50.2 + (n32.toNat * 7))).bind fun w51 =>
 (AV.asI .i64 w51).bind fun n52 =>
 (r31.2.ld q50.1 ((q50.2 + (n32.toNat * 7)) + 1)).bind fun w53 =>
 (AV.asI .i64 w53).bind fun n54 =>
 (r31.2.ld q50.1 (((q50.2 + (n32.toNat * 7)) + 1) + 1)).bind fun w55 =>
 (AV.asI .i64 w55).bind fun n56 =>
 (r31.2.ld q50.1 ((((q50.2 + (n32.toNat * 7)) + 1) + 1) + 1)).bind fun w57 =>
 (AV.asI .i64 w57).bind fun n58 =>
 (r31.2.ld q50.1 (((((q50.2 + (n32.toNat * 7)) + 1) + 1) + 1) + 1)).bind fun w59 =>
 (AV.asB w59).bind fun b60 =>
 ((bif ((!((((n39 : Int) == n52) && (((n41 : Int) == n54) && true)) && (((n43 : Int) == n56) && (((n45 : Int) == n58) && ((b47 == b60) && true))))) == false) then
 (r31.2.ld (.n σ.next) 0).bind fun w61 =>
 (AV.asSl w61).bind fun l62 =>
 (bif ((decide ((0 : Int) ≤ n32)) && (decide (n32 < (l62.2 : Int)))) then
 (SA.ref l62.1).bind fun q63 =>
 (r31.2.ld q63.1 ((q63.2 + (n32.toNat * 7)) + 5)).bind fun w64 =>
 (AV.asSl w64).bind fun l65 =>
 (r31.2.ld (.n (σ.next + 1)) 0).bind fun w66 =>
 (AV.asSl w66).bind fun l67 =>
 (bif ((decide ((0 : Int) ≤ n32)) && (decide (n32 < (l67.2 : Int)))) then
 (SA.ref l67.1).bind fun q68 =>
 (r31.2.ld q68.1 ((q68.2 + (n32.toNat * 7)) + 5)).bind fun w69 =>
 (AV.asSl w69).bind fun l70 =>
 (k42 [(.sl l65.1 l65.2), (.sl l70.1 l70.2)] r31.2).bind fun r71 =>
 (AV.asB r71.1).bind fun b72 =>
 some ([(.b (!b72))], r71.2)
 else none)
 else none)
 else some ([(.b true)], r31.2)) : Option (List AV × AH O)).bind fun r73 =>
 (AV.asB (r73.1.getD 0 .u)).bind fun b74 =>
 ((bif (b74 == false) then
 (r73.2.ld (.n σ.next) 0).bind fun w75 =>
 (AV.asSl w75).bind fun l76 =>
 (bif ((decide ((0 : Int) ≤ n32)) && (decide (n32 < (l76.2 : Int)))) then
 (SA.ref l76.1).bind fun q77 =>
 (r73.2.ld q77.1 ((q77.2 + (n32.toNat * 7)) + 6)).bind fun w78 =>
 (AV.asSl w78).bind fun l79 =>
 (r73.2.ld (.n (σ.next + 1)) 0).bind fun w80 =>
 (AV.asSl w80).bind fun l81 =>
 (bif ((decide ((0 : Int) ≤ n32)) && (decide (n32 < (l81.2 : Int)))) then
 (SA.ref l81.1).bind fun q82 =>
 (r73.2.ld q82.1 ((q82.2 + (n32.toNat * 7)) + 6)).bind fun w83 =>
 (AV.asSl w83).bind fun l84 =>
 (k69 [(.sl l79.1 l79.2), (.sl l84.1 l84.2)] r73.2).bind fun r85 =>
 (AV.asB r85.1).bind fun b86 =>
 some ([(.b (!b86))], r85.2)
 else none)
 else none)
 else some ([(.b true)], r73.2)) : Option (List AV × AH O)).bind fun r87 =>
 (AV.asB (r87.1.getD 0 .u)).bind fun b88 =>
 (bif b88 then
 ((some ((.b false), r87.2) : Option (AV × AH O)).map fun r => Sum.inr (Sum.inr r))
 else some (Sum.inl ([(.i .i64 (IntKind.i64.wrap (n32 + 1)))], r87.2)))
 else none)
 else none)
 else some (Sum.inr (Sum.inl ([], r31.2)))))
noncomputable def law40_Is_c {O : Type} (k42 k69 : Sm O) : Sm O := fun xs σ =>
 bif Nat.beq xs.length 2 then
 (AV.asAgg 3 (xs.getD 0 .u)).bind fun c0 =>
 (AV.asSl (c0.getD 0 .u)).bind fun l1 =>
 (AV.asSl (c0.getD 1 .u)).bind fun l2 =>
 (AV.asSl (c0.getD 2 .u)).bind fun l3 =>
 (AV.asAgg 3 (xs.getD 1 .u)).bind fun c4 =>
 (AV.asSl (c4.getD 0 .u)).bind fun l5 =>
 (AV.asSl (c4.getD 1 .u)).bind fun l6 =>
 (AV.asSl (c4.getD 2 .u)).bind fun l7 =>
 let σ8 := σ.bump 2
 let σ9 := σ8.put σ.next (.cells true 39 [(.sl l1.1 l1.2), (.sl l2.1 l2.2), (.sl l3.1 l3.2)])
 let σ10 := σ9.put (σ.next + 1) (.cells true 52 [(.sl l5.1 l5.2), (.sl l6.1 l6.2), (.sl l7.1 l7.2)])
 (σ10.ld (.n σ.next) 0).bind fun w11 =>
 (AV.asSl w11).bind fun l12 =>
 (σ10.ld (.n (σ.next + 1)) 0).bind fun w13 =>
 (AV.asSl w13).bind fun l14 =>
 ((bif ((((l12.2 : Int) : Int) != (l14.2 : Int)) == false) then
 (σ10.ld (.n σ.next) 1).bind fun w15 =>
 (AV.asSl w15).bind fun l16 =>
 (σ10.ld (.n (σ.next + 1)) 1).bind fun w17 =>
 (AV.asSl w17).bind fun l18 =>
 (k42 [(.sl l16.1 l16.2), (.sl l18.1 l18.2)] σ10).bind fun r19 =>
 (AV.asB r19.1).bind fun b20 =>
 some ([(.b (!b20))], r19.2)
 else some ([(.b true)], σ10)) : Option (List AV × AH O)).bind fun r21 =>
 (AV.asB (r21.1.getD 0 .u)).bind fun b22 =>
 ((bif (b22 == false) then
 (r21.2.ld (.n σ.next) 2).bind fun w23 =>
 (AV.asSl w23).bind fun l24 =>
 (r21.2.ld (.n (σ.next + 1)) 2).bind fun w25 =>
 (AV.asSl w25).bind fun l26 =>
 (k42 [(.sl l24.1 l24.2), (.sl l26.1 l26.2)] r21.2).bind fun r27 =>
 (AV.asB r27.1).bind fun b28 =>
 some ([(.b (!b28))], r27.2)
 else some ([(.b true)], r21.2)) : Option (List AV × AH O)).bind fun r29 =>
 (AV.asB (r29.1.getD 0 .u)).bind fun b30 =>
 (bif b30 then
 some ((.b false), r29.2)
 else bindS (S := List AV × AH O) (R := (AV × AH O)) (loopF (S := List AV × AH O) (T := (List AV × AH O) ⊕ (AV × AH O)) (law40_Is_L1 σ k42 k69) ([(.i .i64 0)], r29.2)) fun r89 =>
 some ((.b true), r89.2))
 else none
noncomputable def law40_Is {O : Type} : Sm O := law40_Is_c haymowref02_Same haymowref05_Same
theorem law40_Is_ent : Entered Try.prog 32 := Try.call32
theorem law40_Is_run {O : Type} (k42 k69 : Sm O) : run (O := O) Try.prog [(42, k42), (69, k69)] Try.f32 (.n .z (.n (.n (.g [(7, 6, [(20, .one .b)]), (15, 6, [(28, .one .b)])]) (.n .z .z)) (.n (.n .z (.n (.lp true 0 [(5, .one (.i .i64))] [] (.n (.n .z .z) (.n (.n (.n (.d [(13, 14, [(64, .one .b)]), (29, 14, [(80, .one .b)])] [0, 1, 2, 3, 4, 5, 6, 7, 8, 9, 10, 11, 12, 13, 14, 15, 16, 17, 18, 19, 20, 21, 22, 23, 24, 25, 26, 27, 28, 29, 30, 31, 32, 33, 34, 35, 36, 37, 38, 39, 40, 41, 42, 43, 44] [0, 1, 0, 7, 15, 31, 0, 64, 0, 448, 960, 1984, 4095, 8191, 16383, 32767, 16383, 131071, 262143, 524287, 16383, 1064959, 16383, 7356415, 15745023, 32522239, 67108863, 134217727, 268435455, 536870911, 1073741823, 2147483647, 1073741823, 8589934591, 17179869183, 34359738367, 1073741823, 69793218559, 1073741823, 482110078975, 1031865892863, 2131377520639, 4398046511103, 8796093022207, 17592186044415]) (.n .z .z)) .z) .z))) .z)) .z))) = law40_Is_c k42 k69 := by kernel_rfl
theorem law40_Is_sound {O : Type} {RO : O → Loc → (Nat → Option Obj) → Prop} : FSound RO Try.prog 32 (law40_Is) :=
   have h : FSound RO Try.prog 32 (law40_Is_c haymowref02_Same haymowref05_Same) := (law40_Is_run haymowref02_Same haymowref05_Same) ▸ run_sound (gcons haymowref02_Same_ent (haymowref02_Same_sound) <| gcons haymowref05_Same_ent (haymowref05_Same_sound) <| gnil) mixed Try.func32 (by kernel_rfl) _
   h

/-- haymow/haymowlaw47.is -/
noncomputable def law47_is_c {O : Type} (k42 k32 : Sm O) : Sm O := fun xs σ =>
 bif Nat.beq xs.length 2 then
 (AV.asAgg 13 (xs.getD 0 .u)).bind fun c0 =>
 (AV.asI .i64 (c0.getD 0 .u)).bind fun n1 =>
 (AV.asI .i64 (c0.getD 1 .u)).bind fun n2 =>
 (AV.asI .i64 (c0.getD 2 .u)).bind fun n3 =>
 (AV.asI .i64 (c0.getD 3 .u)).bind fun n4 =>
 (AV.asI .u64 (c0.getD 4 .u)).bind fun n5 =>
 (AV.asI .i64 (c0.getD 5 .u)).bind fun n6 =>
 (AV.asI .i64 (c0.getD 6 .u)).bind fun n7 =>
 (AV.asI .i64 (c0.getD 7 .u)).bind fun n8 =>
 (AV.asI .i64 (c0.getD 8 .u)).bind fun n9 =>
 (AV.asB (c0.getD 9 .u)).bind fun b10 =>
 (AV.asSl (c0.getD 10 .u)).bind fun l11 =>
 (AV.asSl (c0.getD 11 .u)).bind fun l12 =>
 (AV.asSl (c0.getD 12 .u)).bind fun l13 =>
 (AV.asAgg 13 (xs.getD 1 .u)).bind fun c14 =>
 (AV.asI .i64 (c14.getD 0 .u)).bind fun n15 =>
 (AV.asI .i64 (c14.getD 1 .u)).bind fun n16 =>
 (AV.asI .i64 (c14.getD 2 .u)).bind fun n17 =>
 (AV.asI .i64 (c14.getD 3 .u)).bind fun n18 =>
 (AV.asI .u64 (c14.getD 4 .u)).bind fun n19 =>
 (AV.asI .i64 (c14.getD 5 .u)).bind fun n20 =>
 (AV.asI .i64 (c14.getD 6 .u)).bind fun n21 =>
 (AV.asI .i64 (c14.getD 7 .u)).bind fun n22 =>
 (AV.asI .i64 (c14.getD 8 .u)).bind fun n23 =>
 (AV.asB (c14.getD 9 .u)).bind fun b24 =>
 (AV.asSl (c14.getD 10 .u)).bind fun l25 =>
 (AV.asSl (c14.getD 11 .u)).bind fun l26 =>
 (AV.asSl (c14.getD 12 .u)).bind fun l27 =>
 let σ28 := σ.bump 2
 let σ29 := σ28.put σ.next (.cells true 76 [(.i .i64 n1), (.i .i64 n2), (.i .i64 n3), (.i .i64 n4), (.i .u64 n5), (.i .i64 n6), (.i .i64 n7), (.i .i64 n8), (.i .i64 n9), (.b b10), (.sl l11.1 l11.2), (.sl l12.1 l12.2), (.sl l13.1 l13.2)])
 let σ30 := σ29.put (σ.next + 1) (.cells true 80 [(.i .i64 n15), (.i .i64 n16), (.i .i64 n17), (.i .i64 n18), (.i .u64 n19), (.i .i64 n20), (.i .i64 n21), (.i .i64 n22), (.i .i64 n23), (.b b24), (.sl l25.1 l25.2), (.sl l26.1 l26.2), (.sl l27.1 l27.2)])
 let σ31 := σ30.bump 2
 (σ31.ld (.n σ.next) 0).bind fun w32 =>
 (AV.asI .i64 w32).bind fun n33 =>
 (σ31.ld (.n (σ.next + 1)) 0).bind fun w34 =>
 (AV.asI .i64 w34).bind fun n35 =>
 ((bif (((n33 : Int) == n35) == true) then
 (σ31.ld (.n σ.next) 1).bind fun w36 =>
 (AV.asI .i64 w36).bind fun n37 =>
 (σ31.ld (.n (σ.next + 1)) 1).bind fun w38 =>
 (AV.asI .i64 w38).bind fun n39 =>
 some ([(.b ((n37 : Int) == n39))], σ31)
 else some ([(.b false)], σ31)) : Option (List AV × AH O)).bind fun r40 =>
 (AV.asB (r40.1.getD 0 .u)).bind fun b41 =>
 ((bif (b41 == true) then
 (r40.2.ld (.n σ.next) 2).bind fun w42 =>
 (AV.asI .i64 w42).bind fun n43 =>
 (r40.2.ld (.n (σ.next + 1)) 2).bind fun w44 =>
 (AV.asI .i64 w44).bind fun n45 =>
 some ([(.b ((n43 : Int) == n45))], r40.2)
 else some ([(.b false)], r40.2)) : Option (List AV × AH O)).bind fun r46 =>
 (AV.asB (r46.1.getD 0 .u)).bind fun b47 =>
 ((bif (b47 == true) then
 (r46.2.ld (.n σ.next) 3).bind fun w48 =>
 (AV.asI .i64 w48).bind fun n49 =>
 (r46.2.ld (.n (σ.next + 1)) 3).bind fun w50 =>
 (AV.asI .i64 w50).bind fun n51 =>
 some ([(.b ((n49 : Int) == n51))], r46.2)
 else some ([(.b false)], r46.2)) : Option (List AV × AH O)).bind fun r52 =>
 (AV.asB (r52.1.getD 0 .u)).bind fun b53 =>
 ((bif (b53 == true) then
 (r52.2.ld (.n σ.next) 4).bind fun w54 =>
 (AV.asI .u64 w54).bind fun n55 =>
 (r52.2.ld (.n (σ.next + 1)) 4).bind fun w56 =>
 (AV.asI .u64 w56).bind fun n57 =>
 some ([(.b ((n55 : Int) == n57))], r52.2)
 else some ([(.b false)], r52.2)) : Option (List AV × AH O)).bind fun r58 =>
 (AV.asB (r58.1.getD 0 .u)).bind fun b59 =>
 ((bif (b59 == true) then
 (r58.2.ld (.n σ.next) 12).bind fun w60 =>
 (AV.asSl w60).bind fun l61 =>
 (r58.2.ld (.n (σ.next + 1)) 12).bind fun w62 =>
 (AV.asSl w62).bind fun l63 =>
 (k42 [(.sl l61.1 l61.2), (.sl l63.1 l63.2)] r58.2).bind fun r64 =>
 (AV.asB r64.1).bind fun b65 =>
 some ([(.b b65)], r64.2)
 else some ([(.b false)], r58.2)) : Option (List AV × AH O)).bind fun r66 =>
 (AV.asB (r66.1.getD 0 .u)).bind fun b67 =>
 ((bif (b67 == true) then
 (r66.2.ld (.n σ.next) 5).bind fun w68 =>
 (AV.asI .i64 w68).bind fun n69 =>
 (r66.2.ld (.n σ.next) 6).bind fun w70 =>
 (AV.asI .i64 w70).bind fun n71 =>
 (r66.2.ld (.n σ.next) 7).bind fun w72 =>
 (AV.asI .i64 w72).bind fun n73 =>
 (r66.2.ld (.n σ.next) 8).bind fun w74 =>
 (AV.asI .i64 w74).bind fun n75 =>
 (r66.2.ld (.n σ.next) 9).bind fun w76 =>
 (AV.asB w76).bind fun b77 =>
 (r66.2.ld (.n σ.next) 10).bind fun w78 =>
 (AV.asSl w78).bind fun l79 =>
 (r66.2.ld (.n σ.next) 11).bind fun w80 =>
 (AV.asSl w80).bind fun l81 =>
 let σ82 := r66.2.put σ30.next (.cells true 74 [(.i .i64 n69), (.i .i64 n71), (.i .i64 n73), (.i .i64 n75), (.b b77), (.sl l79.1 l79.2), (.sl l81.1 l81.2)])
 (σ82.ld (.n (σ.next + 1)) 5).bind fun w83 =>
 (AV.asI .i64 w83).bind fun n84 =>
 (σ82.ld (.n (σ.next + 1)) 6).bind fun w85 =>
 (AV.asI .i64 w85).bind fun n86 =>
 (σ82.ld (.n (σ.next + 1)) 7).bind fun w87 =>
 (AV.asI .i64 w87).bind fun n88 =>
 (σ82.ld (.n (σ.next + 1)) 8).bind fun w89 =>
 (AV.asI .i64 w89).bind fun n90 =>
 (σ82.ld (.n (σ.next + 1)) 9).bind fun w91 =>
 (AV.asB w91).bind fun b92 =>
 (σ82.ld (.n (σ.next + 1)) 10).bind fun w93 =>
 (AV.asSl w93).bind fun l94 =>
 (σ82.ld (.n (σ.next + 1)) 11).bind fun w95 =>
 (AV.asSl w95).bind fun l96 =>
 let σ97 := σ82.put (σ30.next + 1) (.cells true 78 [(.i .i64 n84), (.i .i64 n86), (.i .i64 n88), (.i .i64 n90), (.b b92), (.sl l94.1 l94.2), (.sl l96.1 l96.2)])
 (k32 [(.agg [(.sl (.loc (.n σ30.next) 0 7) 1), (.sl .nil 0), (.sl .nil 0)]), (.agg [(.sl (.loc (.n (σ30.next + 1)) 0 7) 1), (.sl .nil 0), (.sl .nil 0)])] σ97).bind fun r98 =>
 (AV.asB r98.1).bind fun b99 =>
 some ([(.b b99)], r98.2)
 else some ([(.b false)], r66.2)) : Option (List AV × AH O)).bind fun r100 =>
 (AV.asB (r100.1.getD 0 .u)).bind fun b101 =>
 some ((.b b101), r100.2)
 else none
noncomputable def law47_is {O : Type} : Sm O := law47_is_c haymowref02_Same (fza law40_Is)
theorem law47_is_ent : Entered Try.prog 41 := Try.call41
theorem law47_is_run {O : Type} (k42 k32 : Sm O) : run (O := O) Try.prog [(42, k42), (32, k32)] Try.f41 (.n .z (.n (.g [(5, 5, [(16, .one .b)]), (12, 5, [(23, .one .b)]), (19, 5, [(30, .one .b)]), (26, 5, [(37, .one .b)]), (33, 5, [(44, .one .b)]), (40, 9, [(55, .one .b)])]) .z)) = law47_is_c k42 k32 := by kernel_rfl
theorem law47_is_sound {O : Type} {RO : O → Loc → (Nat → Option Obj) → Prop} : FSound RO Try.prog 41 (law47_is) :=
   have h : FSound RO Try.prog 41 (law47_is_c haymowref02_Same (fza law40_Is)) := (law47_is_run haymowref02_Same (fza law40_Is)) ▸ run_sound (gcons haymowref02_Same_ent (haymowref02_Same_sound) <| gcons law40_Is_ent (law40_Is_sound).fza <| gnil) mixed Try.func41 (by kernel_rfl) _
   h

/-- slices.Compact[[]int,int] -/
noncomputable def slices_Compact___int_int__L2 {O : Type} (l0 : SA × Nat) (n2 : Int) (a9 : SA) : List AV × AH O → Option ((List AV × AH O) ⊕ (List AV × AH O)) := (fun r10 =>
 (AV.asI .i64 (r10.1.getD 0 .u)).bind fun n11 =>
 (AV.asI .i64 (r10.1.getD 1 .u)).bind fun n12 =>
 let c13 : Bool := (decide (n12 < ((((l0.2 : Int).toNat - n2.toNat) : Nat) : Int)))
 (bif c13 then
 (bif ((decide ((0 : Int) ≤ n12)) && (decide (n12 < ((((l0.2 : Int).toNat - n2.toNat) : Nat) : Int)))) then
 (SA.ref a9).bind fun q14 =>
 (r10.2.ld q14.1 (q14.2 + (n12.toNat * 1))).bind fun w15 =>
 (AV.asI .i64 w15).bind fun n16 =>
 (bif ((decide ((0 : Int) ≤ (IntKind.i64.wrap (n12 - 1)))) && (decide ((IntKind.i64.wrap (n12 - 1)) < ((((l0.2 : Int).toNat - n2.toNat) : Nat) : Int)))) then
 (SA.ref a9).bind fun q17 =>
 (r10.2.ld q17.1 (q17.2 + ((IntKind.i64.wrap (n12 - 1)).toNat * 1))).bind fun w18 =>
 (AV.asI .i64 w18).bind fun n19 =>
 ((bif ((n16 : Int) != n19) then
 (bif ((decide ((0 : Int) ≤ n12)) && (decide (n12 < ((((l0.2 : Int).toNat - n2.toNat) : Nat) : Int)))) then
 (SA.ref a9).bind fun q20 =>
 (r10.2.ld q20.1 (q20.2 + (n12.toNat * 1))).bind fun w21 =>
 (AV.asI .i64 w21).bind fun n22 =>
 (bif ((decide ((0 : Int) ≤ n11)) && (decide (n11 < (l0.2 : Int)))) then
 (SA.ref l0.1).bind fun q23 =>
 (r10.2.st q23.1 (q23.2 + (n11.toNat * 1)) [(.i .i64 n22)]).bind fun σ24 =>
 some ([(.i .i64 (IntKind.i64.wrap (n11 + 1)))], σ24)
 else none)
 else none)
 else some ([(.i .i64 n11)], r10.2)) : Option (List AV × AH O)).bind fun r25 =>
 (AV.asI .i64 (r25.1.getD 0 .u)).bind fun n26 =>
 some (Sum.inl ([(.i .i64 n26), (.i .i64 (IntKind.i64.wrap (n12 + 1)))], r25.2))
 else none)
 else none)
 else some (Sum.inr ([(.i .i64 n11)], r10.2))))
noncomputable def slices_Compact___int_int__L1 {O : Type} (l0 : SA × Nat) : List AV × AH O → Option ((List AV × AH O) ⊕ ((List AV × AH O) ⊕ (AV × AH O))) := (fun r1 =>
 (AV.asI .i64 (r1.1.getD 0 .u)).bind fun n2 =>
 (bif (decide (n2 < (l0.2 : Int))) then
 (bif ((decide ((0 : Int) ≤ n2)) && (decide (n2 < (l0.2 : Int)))) then
 (SA.ref l0.1).bind fun q3 =>
 (r1.2.ld q3.1 (q3.2 + (n2.toNat * 1))).bind fun w4 =>
 (AV.asI .i64 w4).bind fun n5 =>
 (bif ((decide ((0 : Int) ≤ (IntKind.i64.wrap (n2 - 1)))) && (decide ((IntKind.i64.wrap (n2 - 1)) < (l0.2 : Int)))) then
 (SA.ref l0.1).bind fun q6 =>
 (r1.2.ld q6.1 (q6.2 + ((IntKind.i64.wrap (n2 - 1)).toNat * 1))).bind fun w7 =>
 (AV.asI .i64 w7).bind fun n8 =>
 (bif ((n5 : Int) == n8) then
 (bif (((decide ((0 : Int) ≤ n2)) && (decide (n2 ≤ (l0.2 : Int)))) && (decide ((l0.2 : Int) ≤ (l0.2 : Int)))) then
 (SA.adv l0.1 n2.toNat 1).bind fun a9 =>
 (loopF (S := List AV × AH O) (T := List AV × AH O) (slices_Compact___int_int__L2 l0 n2 a9) ([(.i .i64 n2), (.i .i64 1)], r1.2)).bind fun r27 =>
 (AV.asI .i64 (r27.1.getD 0 .u)).bind fun n28 =>
 (bif (((decide ((0 : Int) ≤ n28)) && (decide (n28 ≤ (l0.2 : Int)))) && (decide ((l0.2 : Int) ≤ (l0.2 : Int)))) then
 (SA.adv l0.1 n28.toNat 1).bind fun a29 =>
 (bif Nat.beq ((l0.2 : Int).toNat - n28.toNat) 0 then
 (bif ((decide ((0 : Int) ≤ n28)) && (decide (n28 ≤ (l0.2 : Int)))) then
 (SA.adv l0.1 0 1).bind fun a31 =>
 ((some ((.sl a31 (n28.toNat - 0)), r27.2) : Option (AV × AH O)).map fun r => Sum.inr (Sum.inr r))
 else none)
 else
 (r27.2.wrSl a29 ((List.replicate ((l0.2 : Int).toNat - n28.toNat) [(.i .i64 0)]).flatten)).bind fun σ30 =>
 (bif ((decide ((0 : Int) ≤ n28)) && (decide (n28 ≤ (l0.2 : Int)))) then
 (SA.adv l0.1 0 1).bind fun a32 =>
 ((some ((.sl a32 (n28.toNat - 0)), σ30) : Option (AV × AH O)).map fun r => Sum.inr (Sum.inr r))
 else none))
 else none)
 else none)
 else some (Sum.inl ([(.i .i64 (IntKind.i64.wrap (n2 + 1)))], r1.2)))
 else none)
 else none)
 else some (Sum.inr (Sum.inl ([], r1.2)))))
noncomputable def slices_Compact___int_int__c {O : Type} : Sm O := fun xs σ =>
 bif Nat.beq xs.length 1 then
 (AV.asSl (xs.getD 0 .u)).bind fun l0 =>
 (bif (decide ((l0.2 : Int) < 2)) then
 some ((.sl l0.1 l0.2), σ)
 else bindS (S := List AV × AH O) (R := (AV × AH O)) (loopF (S := List AV × AH O) (T := (List AV × AH O) ⊕ (AV × AH O)) (slices_Compact___int_int__L1 l0) ([(.i .i64 1)], σ)) fun r33 =>
 some ((.sl l0.1 l0.2), r33.2))
 else none
noncomputable def slices_Compact___int_int_ {O : Type} : Sm O := slices_Compact___int_int__c
theorem slices_Compact___int_int__ent : Entered Try.prog 82 := Try.call82
theorem slices_Compact___int_int__run {O : Type} : run (O := O) Try.prog [] Try.f82 (.n .z (.n (.n .z (.n .z .z)) (.n (.n .z (.n (.lp true 0 [(3, .one (.i .i64))] [] (.n (.n .z .z) (.n (.n (.n (.d [] [0, 1, 2, 3, 4, 5, 6, 7, 8, 9] [0, 0, 3, 7, 0, 0, 32, 112, 240, 511]) (.n (.n .z (.n (.n .z (.n (.lp false 2 [(3, .one (.i .i64)), (5, .one (.i .i64))] [(3, .one (.i .i64))] (.n (.n .z .z) (.n (.n (.n (.d [] [0, 1, 2, 3, 4, 5, 6, 7, 8, 9] [0, 0, 3, 7, 0, 0, 32, 112, 240, 511]) (.j false [(3, .one (.i .i64))] .z .z)) .z) .z))) .z)) (.n .z .z))) .z)) .z) .z))) .z)) .z))) = slices_Compact___int_int__c  := by kernel_rfl
theorem slices_Compact___int_int__sound {O : Type} {RO : O → Loc → (Nat → Option Obj) → Prop} : FSound RO Try.prog 82 (slices_Compact___int_int_) :=
   have h : FSound RO Try.prog 82 (slices_Compact___int_int__c) := (slices_Compact___int_int__run) ▸ run_sound (gnil) mixed Try.func82 (by kernel_rfl) _
   h

/-- haymow/diff.Touched -/
noncomputable def diff_Touched_L1 {O : Type} (l0 : SA × Nat) : List AV × AH O → Option ((List AV × AH O) ⊕ (List AV × AH O)) := (fun r1 =>
 (AV.asSl (r1.1.getD 0 .u)).bind fun l2 =>
 (AV.asI .i64 (r1.1.getD 1 .u)).bind fun n3 =>
 (bif (decide (n3 < (l0.2 : Int))) then
 let σ4 := r1.2.bump 1
 (bif ((decide ((0 : Int) ≤ n3)) && (decide (n3 < (l0.2 : Int)))) then
 (SA.ref l0.1).bind fun q5 =>
 (σ4.ld q5.1 (q5.2 + (n3.toNat * 13))).bind fun w6 =>
 (AV.asI .i64 w6).bind fun n7 =>
 (σ4.ld q5.1 ((q5.2 + (n3.toNat * 13)) + 1)).bind fun w8 =>
 (AV.asI .i64 w8).bind fun n9 =>
 (σ4.ld q5.1 (((q5.2 + (n3.toNat * 13)) + 1) + 1)).bind fun w10 =>
 (AV.asI .i64 w10).bind fun n11 =>
 (σ4.ld q5.1 ((((q5.2 + (n3.toNat * 13)) + 1) + 1) + 1)).bind fun w12 =>
 (AV.asI .i64 w12).bind fun n13 =>
 (σ4.ld q5.1 (((((q5.2 + (n3.toNat * 13)) + 1) + 1) + 1) + 1)).bind fun w14 =>
 (AV.asI .u64 w14).bind fun n15 =>
 (σ4.ld q5.1 ((((((q5.2 + (n3.toNat * 13)) + 1) + 1) + 1) + 1) + 1)).bind fun w16 =>
 (AV.asI .i64 w16).bind fun n17 =>
 (σ4.ld q5.1 (((((((q5.2 + (n3.toNat * 13)) + 1) + 1) + 1) + 1) + 1) + 1)).bind fun w18 =>
 (AV.asI .i64 w18).bind fun n19 =>
 (σ4.ld q5.1 ((((((((q5.2 + (n3.toNat * 13)) + 1) + 1) + 1) + 1) + 1) + 1) + 1)).bind fun w20 =>
 (AV.asI .i64 w20).bind fun n21 =>
 (σ4.ld q5.1 (((((((((q5.2 + (n3.toNat * 13)) + 1) + 1) + 1) + 1) + 1) + 1) + 1) + 1)).bind fun w22 =>
 (AV.asI .i64 w22).bind fun n23 =>
 (σ4.ld q5.1 ((((((((((q5.2 + (n3.toNat * 13)) + 1) + 1) + 1) + 1) + 1) + 1) + 1) + 1) + 1)).bind fun w24 =>
 (AV.asB w24).bind fun b25 =>
 (σ4.ld q5.1 (((((((((((q5.2 + (n3.toNat * 13)) + 1) + 1) + 1) + 1) + 1) + 1) + 1) + 1) + 1) + 1)).bind fun w26 =>
 (AV.asSl w26).bind fun l27 =>
 (σ4.ld q5.1 ((((((((((((q5.2 + (n3.toNat * 13)) + 1) + 1) + 1) + 1) + 1) + 1) + 1) + 1) + 1) + 1) + 1)).bind fun w28 =>
 (AV.asSl w28).bind fun l29 =>
 (σ4.ld q5.1 (((((((((((((q5.2 + (n3.toNat * 13)) + 1) + 1) + 1) + 1) + 1) + 1) + 1) + 1) + 1) + 1) + 1) + 1)).bind fun w30 =>
 (AV.asSl w30).bind fun l31 =>
 let σ32 := σ4.put r1.2.next (.cells true 76 [(.i .i64 0), (.i .i64 0), (.i .i64 0), (.i .i64 0), (.i .u64 0), (.i .i64 0), (.i .i64 0), (.i .i64 0), (.i .i64 0), (.b false), (.sl .nil 0), (.sl .nil 0), (.sl .nil 0)])
 (σ32.st (.n r1.2.next) 0 [(.i .i64 n7), (.i .i64 n9), (.i .i64 n11), (.i .i64 n13), (.i .u64 n15), (.i .i64 n17), (.i .i64 n19), (.i .i64 n21), (.i .i64 n23), (.b b25), (.sl l27.1 l27.2), (.sl l29.1 l29.2), (.sl l31.1 l31.2)]).bind fun σ33 =>
 (σ33.ld (.n r1.2.next) 0).bind fun w34 =>
 (AV.asI .i64 w34).bind fun n35 =>
 ((bif (((n35 : Int) == 1) == false) then
 (σ33.ld (.n r1.2.next) 0).bind fun w36 =>
 (AV.asI .i64 w36).bind fun n37 =>
 some ([(.b ((n37 : Int) == 2))], σ33)
 else some ([(.b true)], σ33)) : Option (List AV × AH O)).bind fun r38 =>
 (AV.asB (r38.1.getD 0 .u)).bind fun b39 =>
 ((bif (b39 == false) then
 (r38.2.ld (.n r1.2.next) 0).bind fun w40 =>
 (AV.asI .i64 w40).bind fun n41 =>
 some ([(.b ((n41 : Int) == 3))], r38.2)
 else some ([(.b true)], r38.2)) : Option (List AV × AH O)).bind fun r42 =>
 (AV.asB (r42.1.getD 0 .u)).bind fun b43 =>
 ((bif b43 then
 let σ44 := r42.2.bump 2
 (σ44.ld (.n r1.2.next) 1).bind fun w45 =>
 (AV.asI .i64 w45).bind fun n46 =>
 let σ47 := σ44.put r42.2.next (.cells true 3 [(.i .i64 n46)])
 (σ47.rdSl (.loc (.n r42.2.next) 0 1) 1 1).bind fun new48 =>
 (bif (Nat.ble ((l2.2 + 1) * 9) 35184372088832) then
 (σ47.appSl (r42.2.next + 1) 3 1 l2.1 l2.2 1 new48).bind fun r49 =>
 (AV.asSl r49.1).bind fun l50 =>
 some ([(.sl l50.1 l50.2)], r49.2)
 else none)
 else some ([(.sl l2.1 l2.2)], r42.2)) : Option (List AV × AH O)).bind fun r51 =>
 (AV.asSl (r51.1.getD 0 .u)).bind fun l52 =>
 some (Sum.inl ([(.sl l52.1 l52.2), (.i .i64 (IntKind.i64.wrap (n3 + 1)))], r51.2))
 else none)
 else some (Sum.inr ([(.sl l2.1 l2.2)], r1.2))))
noncomputable def diff_Touched_c {O : Type} (k81 k82 : Sm O) : Sm O := fun xs σ =>
 bif Nat.beq xs.length 1 then
 (AV.asSl (xs.getD 0 .u)).bind fun l0 =>
 (loopF (S := List AV × AH O) (T := List AV × AH O) (diff_Touched_L1 l0) ([(.sl .nil 0), (.i .i64 0)], σ)).bind fun r53 =>
 (AV.asSl (r53.1.getD 0 .u)).bind fun l54 =>
 (k81 [(.sl l54.1 l54.2)] r53.2).bind fun r55 =>
 (AV.asTup 0 r55.1).bind fun c56 =>
 (k82 [(.sl l54.1 l54.2)] r55.2).bind fun r57 =>
 (AV.asSl r57.1).bind fun l58 =>
 some ((.sl l58.1 l58.2), r57.2)
 else none
noncomputable def diff_Touched {O : Type} : Sm O := frz (diff_Touched_c slices_Sort___int_int_ slices_Compact___int_int_)
theorem diff_Touched_ent : Entered Try.prog 43 := Try.call43
theorem diff_Touched_run {O : Type} (k81 k82 : Sm O) : run (O := O) Try.prog [(81, k81), (82, k82)] Try.f43 (.n .z (.n .z (.n (.n .z (.n (.lp false 0 [(3, .one .sl), (8, .one (.i .i64))] [(3, .one .sl)] (.n .z (.n .z (.n (.n (.n .z (.n (.g [(3, 3, [(19, .one .b)]), (8, 3, [(24, .one .b)])]) (.j false [(3, .one .sl)] .z .z))) .z) .z)))) .z)) (.n .z .z)))) = diff_Touched_c k81 k82 := by kernel_rfl
theorem diff_Touched_sound {O : Type} {RO : O → Loc → (Nat → Option Obj) → Prop} : FSound RO Try.prog 43 (diff_Touched) :=
   have h : FSound RO Try.prog 43 (diff_Touched_c slices_Sort___int_int_ slices_Compact___int_int_) := (diff_Touched_run slices_Sort___int_int_ slices_Compact___int_int_) ▸ run_sound (gcons slices_Sort___int_int__ent (slices_Sort___int_int__sound) <| gcons slices_Compact___int_int__ent (slices_Compact___int_int__sound) <| gnil) mixed Try.func43 (by kernel_rfl) _
   h.frz

/-- haymow/haymowref47.Touched -/
noncomputable def haymowref47_Touched_L2 {O : Type} (l2 : SA × Nat) (n3 : Int) (l0 : SA × Nat) : List AV × AH O → Option ((List AV × AH O) ⊕ (List AV × AH O)) := (fun r12 =>
 (AV.asI .i64 (r12.1.getD 0 .u)).bind fun n13 =>
 ((bif ((decide (n13 < (l2.2 : Int))) == true) then
 (bif ((decide ((0 : Int) ≤ n13)) && (decide (n13 < (l2.2 : Int)))) then
 (SA.ref l2.1).bind fun q14 =>
 (r12.2.ld q14.1 (q14.2 + (n13.toNat * 1))).bind fun w15 =>
 (AV.asI .i64 w15).bind fun n16 =>
 (bif ((decide ((0 : Int) ≤ n3)) && (decide (n3 < (l0.2 : Int)))) then
 (SA.ref l0.1).bind fun q17 =>
 (r12.2.ld q17.1 ((q17.2 + (n3.toNat * 13)) + 1)).bind fun w18 =>
 (AV.asI .i64 w18).bind fun n19 =>
 some ([(.b (decide (n16 < n19)))], r12.2)
 else none)
 else none)
 else some ([(.b false)], r12.2)) : Option (List AV × AH O)).bind fun r20 =>
 (AV.asB (r20.1.getD 0 .u)).bind fun b21 =>
 (bif b21 then
 some (Sum.inl ([(.i .i64 (IntKind.i64.wrap (n13 + 1)))], r20.2))
 else some (Sum.inr ([(.i .i64 n13)], r20.2))))
noncomputable def haymowref47_Touched_L1 {O : Type} (l0 : SA × Nat) : List AV × AH O → Option ((List AV × AH O) ⊕ (List AV × AH O)) := (fun r1 =>
 (AV.asSl (r1.1.getD 0 .u)).bind fun l2 =>
 (AV.asI .i64 (r1.1.getD 1 .u)).bind fun n3 =>
 (bif (decide (n3 < (l0.2 : Int))) then
 ((bif ((decide ((0 : Int) ≤ n3)) && (decide (n3 < (l0.2 : Int)))) then
 (SA.ref l0.1).bind fun q4 =>
 (r1.2.ld q4.1 (q4.2 + (n3.toNat * 13))).bind fun w5 =>
 (AV.asI .i64 w5).bind fun n6 =>
 ((bif ((decide (n6 < 1)) == false) then
 (bif ((decide ((0 : Int) ≤ n3)) && (decide (n3 < (l0.2 : Int)))) then
 (SA.ref l0.1).bind fun q7 =>
 (r1.2.ld q7.1 (q7.2 + (n3.toNat * 13))).bind fun w8 =>
 (AV.asI .i64 w8).bind fun n9 =>
 some ([(.b (decide (n9 > 3)))], r1.2)
 else none)
 else some ([(.b true)], r1.2)) : Option (List AV × AH O)).bind fun r10 =>
 (AV.asB (r10.1.getD 0 .u)).bind fun b11 =>
 (bif b11 then
 some ([(.sl l2.1 l2.2)], r10.2)
 else (loopF (S := List AV × AH O) (T := List AV × AH O) (haymowref47_Touched_L2 l2 n3 l0) ([(.i .i64 0)], r10.2)).bind fun r22 =>
 (AV.asI .i64 (r22.1.getD 0 .u)).bind fun n23 =>
 ((bif ((decide (n23 < (l2.2 : Int))) == true) then
 (bif ((decide ((0 : Int) ≤ n23)) && (decide (n23 < (l2.2 : Int)))) then
 (SA.ref l2.1).bind fun q24 =>
 (r22.2.ld q24.1 (q24.2 + (n23.toNat * 1))).bind fun w25 =>
 (AV.asI .i64 w25).bind fun n26 =>
 (bif ((decide ((0 : Int) ≤ n3)) && (decide (n3 < (l0.2 : Int)))) then
 (SA.ref l0.1).bind fun q27 =>
 (r22.2.ld q27.1 ((q27.2 + (n3.toNat * 13)) + 1)).bind fun w28 =>
 (AV.asI .i64 w28).bind fun n29 =>
 some ([(.b ((n26 : Int) == n29))], r22.2)
 else none)
 else none)
 else some ([(.b false)], r22.2)) : Option (List AV × AH O)).bind fun r30 =>
 (AV.asB (r30.1.getD 0 .u)).bind fun b31 =>
 (bif b31 then
 some ([(.sl l2.1 l2.2)], r30.2)
 else let σ32 := r30.2.bump 5
 (bif ((decide ((0 : Int) ≤ n23)) && (decide (n23 ≤ (l2.2 : Int)))) then
 (SA.adv l2.1 0 1).bind fun a33 =>
 (bif ((decide ((0 : Int) ≤ n3)) && (decide (n3 < (l0.2 : Int)))) then
 (SA.ref l0.1).bind fun q34 =>
 (σ32.ld q34.1 ((q34.2 + (n3.toNat * 13)) + 1)).bind fun w35 =>
 (AV.asI .i64 w35).bind fun n36 =>
 (bif (((decide ((0 : Int) ≤ n23)) && (decide (n23 ≤ (l2.2 : Int)))) && (decide ((l2.2 : Int) ≤ (l2.2 : Int)))) then
 (SA.adv l2.1 n23.toNat 1).bind fun a37 =>
 let σ38 := σ32.put r30.2.next (.cells true 3 [])
 (σ38.rdSl a33 (n23.toNat - 0) 1).bind fun new39 =>
 (bif (Nat.ble ((0 + (n23.toNat - 0)) * 9) 35184372088832) then
 (σ38.appSl (r30.2.next + 1) 3 1 (.loc (.n r30.2.next) 0 1) 0 (n23.toNat - 0) new39).bind fun r40 =>
 (AV.asSl r40.1).bind fun l41 =>
 (chk (r40.2.ld q34.1 ((q34.2 + (n3.toNat * 13)) + 1) = some (.i .i64 n36))).bind fun _ =>
 let σ42 := r40.2.put ((r30.2.next + 1) + 1) (.cells true 3 [(.i .i64 n36)])
 (σ42.rdSl (.loc (.n ((r30.2.next + 1) + 1)) 0 1) 1 1).bind fun new43 =>
 (bif (Nat.ble ((l41.2 + 1) * 9) 35184372088832) then
 (σ42.appSl (((r30.2.next + 1) + 1) + 1) 3 1 l41.1 l41.2 1 new43).bind fun r44 =>
 (AV.asSl r44.1).bind fun l45 =>
 (r44.2.rdSl a37 ((l2.2 : Int).toNat - n23.toNat) 1).bind fun new46 =>
 (bif (Nat.ble ((l45.2 + ((l2.2 : Int).toNat - n23.toNat)) * 9) 35184372088832) then
 (r44.2.appSl ((((r30.2.next + 1) + 1) + 1) + 1) 3 1 l45.1 l45.2 ((l2.2 : Int).toNat - n23.toNat) new46).bind fun r47 =>
 (AV.asSl r47.1).bind fun l48 =>
 some ([(.sl l48.1 l48.2)], r47.2)
 else none)
 else none)
 else none)
 else none)
 else none)
 else none)))
 else none) : Option (List AV × AH O)).bind fun r49 =>
 (AV.asSl (r49.1.getD 0 .u)).bind fun l50 =>
 some (Sum.inl ([(.sl l50.1 l50.2), (.i .i64 (IntKind.i64.wrap (n3 + 1)))], r49.2))
 else some (Sum.inr ([(.sl l2.1 l2.2)], r1.2))))
noncomputable def haymowref47_Touched_c {O : Type} : Sm O := fun xs σ =>
 bif Nat.beq xs.length 1 then
 (AV.asSl (xs.getD 0 .u)).bind fun l0 =>
 (loopF (S := List AV × AH O) (T := List AV × AH O) (haymowref47_Touched_L1 l0) ([(.sl .nil 0), (.i .i64 0)], σ)).bind fun r51 =>
 (AV.asSl (r51.1.getD 0 .u)).bind fun l52 =>
 some ((.sl l52.1 l52.2), r51.2)
 else none
noncomputable def haymowref47_Touched {O : Type} : Sm O := frz (haymowref47_Touched_c)
theorem haymowref47_Touched_ent : Entered Try.prog 44 := Try.call44
theorem haymowref47_Touched_run {O : Type} : run (O := O) Try.prog [] Try.f44 (.n .z (.n .z (.n (.n .z (.n (.lp false 0 [(3, .one .sl), (4, .one (.i .i64))] [(3, .one .sl)] (.n (.n .z .z) (.n (.j false [(3, .one .sl)] (.n (.n (.g [(6, 6, [(25, .one .b)])]) .z) (.n .z (.n (.n (.lp false 2 [(5, .one (.i .i64))] [(5, .one (.i .i64))] (.n (.n (.d [(4, 10, [(41, .one .b)])] [0, 1, 2, 3, 4, 5, 6, 7, 8, 9, 10, 11, 12, 13, 14, 15] [0, 0, 2, 7, 15, 31, 31, 127, 255, 31, 31, 1567, 3615, 7711, 16383, 32767]) .z) .z)) .z) (.n (.n (.d [(4, 10, [(59, .one .b)])] [0, 1, 2, 3, 4, 5, 6, 7, 8, 9, 10, 11, 12, 13, 14, 15] [0, 0, 2, 7, 15, 31, 31, 127, 255, 31, 31, 1567, 3615, 7711, 16383, 32767]) .z) (.d [] [1, 2, 3, 5, 6, 7, 8, 9, 12, 13, 14, 0, 4, 10, 11, 15, 16] [0, 0, 0, 6, 15, 0, 0, 96, 224, 480, 992, 2047, 0, 0, 12288, 32767, 65535]))))) .z) .z))) .z)) .z))) = haymowref47_Touched_c  := by kernel_rfl
theorem haymowref47_Touched_sound {O : Type} {RO : O → Loc → (Nat → Option Obj) → Prop} : FSound RO Try.prog 44 (haymowref47_Touched) :=
   have h : FSound RO Try.prog 44 (haymowref47_Touched_c) := (haymowref47_Touched_run) ▸ run_sound (gnil) mixed Try.func44 (by kernel_rfl) _
   h.frz

/-- haymow/haymowlaw47.DiffTells -/
noncomputable def law47_DiffTells_L1 {O : Type} (l68 : SA × Nat) (l44 : SA × Nat) (k41 : Sm O) : List AV × AH O → Option ((List AV × AH O) ⊕ ((List AV × AH O) ⊕ (AV × AH O))) := (fun r69 =>
 (AV.asI .i64 (r69.1.getD 0 .u)).bind fun n70 =>
 (bif (decide (n70 < (l68.2 : Int))) then
 (bif ((decide ((0 : Int) ≤ n70)) && (decide (n70 < (l44.2 : Int)))) then
 (SA.ref l44.1).bind fun q71 =>
 (r69.2.ld q71.1 (q71.2 + (n70.toNat * 13))).bind fun w72 =>
 (AV.asI .i64 w72).bind fun n73 =>
 (r69.2.ld q71.1 ((q71.2 + (n70.toNat * 13)) + 1)).bind fun w74 =>
 (AV.asI .i64 w74).bind fun n75 =>
 (r69.2.ld q71.1 (((q71.2 + (n70.toNat * 13)) + 1) + 1)).bind fun w76 =>
 (AV.asI .i64 w76).bind fun n77 =>
 (r69.2.ld q71.1 ((((q71.2 + (n70.toNat * 13)) + 1) + 1) + 1)).bind fun w78 =>
 (AV.asI .i64 w78).bind fun n79 =>
 (r69.2.ld q71.1 (((((q71.2 + (n70.toNat * 13)) + 1) + 1) + 1) + 1)).bind fun w80 =>
 (AV.asI .u64 w80).bind fun n81 =>
 (r69.2.ld q71.1 ((((((q71.2 + (n70.toNat * 13)) + 1) + 1) + 1) + 1) + 1)).bind fun w82 =>
 (AV.asI .i64 w82).bind fun n83 =>
 (r69.2.ld q71.1 (((((((q71.2 + (n70.toNat * 13)) + 1) + 1) + 1) + 1) + 1) + 1)).bind fun w84 =>
 (AV.asI .i64 w84).bind fun n85 =>
 (r69.2.ld q71.1 ((((((((q71.2 + (n70.toNat * 13)) + 1) + 1) + 1) + 1) + 1) + 1) + 1)).bind fun w86 =>
 (AV.asI .i64 w86).bind fun n87 =>
 (r69.2.ld q71.1 (((((((((q71.2 + (n70.toNat * 13)) + 1) + 1) + 1) + 1) + 1) + 1) + 1) + 1)).bind fun w88 =>
 (AV.asI .i64 w88).bind fun n89 =>
 (r69.2.ld q71.1 ((((((((((q71.2 + (n70.toNat * 13)) + 1) + 1) + 1) + 1) + 1) + 1) + 1) + 1) + 1)).bind fun w90 =>
 (AV.asB w90).bind fun b91 =>
 (r69.2.ld q71.1 (((((((((((q71.2 + (n70.toNat * 13)) + 1) + 1) + 1) + 1) + 1) + 1) + 1) + 1) + 1) + 1)).bind fun w92 =>
 (AV.asSl w92).bind fun l93 =>
 (r69.2.ld q71.1 ((((((((((((q71.2 + (n70.toNat * 13)) + 1) + 1) + 1) + 1) + 1) + 1) + 1) + 1) + 1) + 1) + 1)).bind fun w94 =>
 (AV.asSl w94).bind fun l95 =>
 (r69.2.ld q71.1 (((((((((((((q71.2 + (n70.toNat * 13)) + 1) + 1) + 1) + 1) + 1) + 1) + 1) + 1) + 1) + 1) + 1) + 1)).bind fun w96 =>
 (AV.asSl w96).bind fun l97 =>
 (bif ((decide ((0 : Int) ≤ n70)) && (decide (n70 < (l68.2 : Int)))) then
 (SA.ref l68.1).bind fun q98 =>
 (r69.2.ld q98.1 (q98.2 + (n70.toNat * 13))).bind fun w99 =>
 (AV.asI .i64 w99).bind fun n100 =>
 (r69.2.ld q98.1 ((q98.2 + (n70.toNat * 13)) + 1)).bind fun w101 =>
 (AV.asI .i64 w101).bind fun n102 =>
 (r69.2.ld q98.1 (((q98.2 + (n70.toNat * 13)) + 1) + 1)).bind fun w103 =>
 (AV.asI .i64 w103).bind fun n104 =>
 (r69.2.ld q98.1 ((((q98.2 + (n70.toNat * 13)) + 1) + 1) + 1)).bind fun w105 =>
 (AV.asI .i64 w105).bind fun n106 =>
 (r69.2.ld q98.1 (((((q98.2 + (n70.toNat * 13)) + 1) + 1) + 1) + 1)).bind fun w107 =>
 (AV.asI .u64 w107).bind fun n108 =>
 (r69.2.ld q98.1 ((((((q98.2 + (n70.toNat * 13)) + 1) + 1) + 1) + 1) + 1)).bind fun w109 =>
 (AV.asI .i64 w109).bind fun n110 =>
 (r69.2.ld q98.1 (((((((q98.2 + (n70.toNat * 13)) + 1) + 1) + 1) + 1) + 1) + 1)).bind fun w111 =>
 (AV.asI .i64 w111).bind fun n112 =>
 (r69.2.ld q98.1 ((((((((q98.2 + (n70.toNat * 13)) + 1) + 1) + 1) + 1) + 1) + 1) + 1)).bind fun w113 =>
 (AV.asI .i64 w113).bind fun n114 =>
 (r69.2.ld q98.1 (((((((((q98.2 + (n70.toNat * 13)) + 1) + 1) + 1) + 1) + 1) + 1) + 1) + 1)).bind fun w115 =>
 (AV.asI .i64 w115).bind fun n116 =>
 (r69.2.ld q98.1 ((((((((((q98.2 + (n70.toNat * 13)) + 1) + 1) + 1) + 1) + 1) + 1) + 1) + 1) + 1)).bind fun w117 =>
 (AV.asB w117).bind fun b118 =>
 (r69.2.ld q98.1 (((((((((((q98.2 + (n70.toNat * 13)) + 1) + 1) + 1) + 1) + 1) + 1) + 1) + 1) + 1) + 1)).bind fun w119 =>
 (AV.asSl w119).bind fun l120 =>
 (r69.2.ld q98.1 ((((((((((((q98.2 + (n70.toNat * 13)) + 1) + 1) + 1) + 1) + 1) + 1) + 1) + 1) + 1) + 1) + 1)).bind fun w121 =>
 (AV.asSl w121).bind fun l122 =>
 (r69.2.ld q98.1 (((((((((((((q98.2 + (n70.toNat * 13)) + 1) + 1) + 1) + 1) + 1) + 1) + 1) + 1) + 1) + 1) + 1) + 1)).bind fun w123 =>
 (AV.asSl w123).bind fun l124 =>
 (k41 [(.agg [(.i .i64 n73), (.i .i64 n75), (.i .i64 n77), (.i .i64 n79), (.i .u64 n81), (.i .i64 n83), (.i .i64 n85), (.i .i64 n87), (.i .i64 n89), (.b b91), (.sl l93.1 l93.2), (.sl l95.1 l95.2), (.sl l97.1 l97.2)]), (.agg [(.i .i64 n100), (.i .i64 n102), (.i .i64 n104), (.i .i64 n106), (.i .u64 n108), (.i .i64 n110), (.i .i64 n112), (.i .i64 n114), (.i .i64 n116), (.b b118), (.sl l120.1 l120.2), (.sl l122.1 l122.2), (.sl l124.1 l124.2)])] r69.2).bind fun r125 =>
 (AV.asB r125.1).bind fun b126 =>
 (bif (!b126) then
 ((some ((.b false), r125.2) : Option (AV × AH O)).map fun r => Sum.inr (Sum.inr r))
 else some (Sum.inl ([(.i .i64 (IntKind.i64.wrap (n70 + 1)))], r125.2)))
 else none)
 else none)
 else some (Sum.inr (Sum.inl ([], r69.2)))))
noncomputable def law47_DiffTells_c {O : Type} (k24 k25 k27 k35 k40 k41 k43 k44 k42 : Sm O) : Sm O := fun xs σ =>
 bif Nat.beq xs.length 2 then
 (AV.asAgg 3 (xs.getD 0 .u)).bind fun c0 =>
 (AV.asSl (c0.getD 0 .u)).bind fun l1 =>
 (AV.asSl (c0.getD 1 .u)).bind fun l2 =>
 (AV.asSl (c0.getD 2 .u)).bind fun l3 =>
 (AV.asAgg 3 (xs.getD 1 .u)).bind fun c4 =>
 (AV.asSl (c4.getD 0 .u)).bind fun l5 =>
 (AV.asSl (c4.getD 1 .u)).bind fun l6 =>
 (AV.asSl (c4.getD 2 .u)).bind fun l7 =>
 let σ8 := σ.bump 2
 let σ9 := σ8.put σ.next (.cells true 39 [(.sl l1.1 l1.2), (.sl l2.1 l2.2), (.sl l3.1 l3.2)])
 let σ10 := σ9.put (σ.next + 1) (.cells true 39 [(.sl l5.1 l5.2), (.sl l6.1 l6.2), (.sl l7.1 l7.2)])
 (k24 [] σ10).bind fun r11 =>
 (AV.asB r11.1).bind fun b12 =>
 (bif (!b12) then
 some ((.b false), r11.2)
 else (r11.2.ld (.n σ.next) 0).bind fun w13 =>
 (AV.asSl w13).bind fun l14 =>
 (r11.2.ld (.n σ.next) 1).bind fun w15 =>
 (AV.asSl w15).bind fun l16 =>
 (r11.2.ld (.n σ.next) 2).bind fun w17 =>
 (AV.asSl w17).bind fun l18 =>
 (k25 [(.agg [(.sl l14.1 l14.2), (.sl l16.1 l16.2), (.sl l18.1 l18.2)])] r11.2).bind fun r19 =>
 (AV.asB r19.1).bind fun b20 =>
 ((bif ((!b20) == false) then
 (r19.2.ld (.n (σ.next + 1)) 0).bind fun w21 =>
 (AV.asSl w21).bind fun l22 =>
 (r19.2.ld (.n (σ.next + 1)) 1).bind fun w23 =>
 (AV.asSl w23).bind fun l24 =>
 (r19.2.ld (.n (σ.next + 1)) 2).bind fun w25 =>
 (AV.asSl w25).bind fun l26 =>
 (k25 [(.agg [(.sl l22.1 l22.2), (.sl l24.1 l24.2), (.sl l26.1 l26.2)])] r19.2).bind fun r27 =>
 (AV.asB r27.1).bind fun b28 =>
 some ([(.b (!b28))], r27.2)
 else some ([(.b true)], r19.2)) : Option (List AV × AH O)).bind fun r29 =>
 (AV.asB (r29.1.getD 0 .u)).bind fun b30 =>
 (bif b30 then
 some ((.b true), r29.2)
 else (r29.2.ld (.n σ.next) 0).bind fun w31 =>
 (AV.asSl w31).bind fun l32 =>
 (r29.2.ld (.n σ.next) 1).bind fun w33 =>
 (AV.asSl w33).bind fun l34 =>
 (r29.2.ld (.n σ.next) 2).bind fun w35 =>
 (AV.asSl w35).bind fun l36 =>
 (r29.2.ld (.n (σ.next + 1)) 0).bind fun w37 =>
 (AV.asSl w37).bind fun l38 =>
 (r29.2.ld (.n (σ.next + 1)) 1).bind fun w39 =>
 (AV.asSl w39).bind fun l40 =>
 (r29.2.ld (.n (σ.next + 1)) 2).bind fun w41 =>
 (AV.asSl w41).bind fun l42 =>
 (k27 [(.agg [(.sl l32.1 l32.2), (.sl l34.1 l34.2), (.sl l36.1 l36.2)]), (.agg [(.sl l38.1 l38.2), (.sl l40.1 l40.2), (.sl l42.1 l42.2)])] r29.2).bind fun r43 =>
 (AV.asSl r43.1).bind fun l44 =>
 (r43.2.ld (.n σ.next) 0).bind fun w45 =>
 (AV.asSl w45).bind fun l46 =>
 (r43.2.ld (.n σ.next) 1).bind fun w47 =>
 (AV.asSl w47).bind fun l48 =>
 (r43.2.ld (.n σ.next) 2).bind fun w49 =>
 (AV.asSl w49).bind fun l50 =>
 (r43.2.ld (.n (σ.next + 1)) 0).bind fun w51 =>
 (AV.asSl w51).bind fun l52 =>
 (r43.2.ld (.n (σ.next + 1)) 1).bind fun w53 =>
 (AV.asSl w53).bind fun l54 =>
 (r43.2.ld (.n (σ.next + 1)) 2).bind fun w55 =>
 (AV.asSl w55).bind fun l56 =>
 (k35 [(.agg [(.sl l46.1 l46.2), (.sl l48.1 l48.2), (.sl l50.1 l50.2)])] r43.2).bind fun r57 =>
 (AV.asAgg 3 r57.1).bind fun c58 =>
 (AV.asSl (c58.getD 0 .u)).bind fun l59 =>
 (AV.asSl (c58.getD 1 .u)).bind fun l60 =>
 (AV.asSl (c58.getD 2 .u)).bind fun l61 =>
 (chk (r57.2.ld (.n (σ.next + 1)) 0 = some (.sl l52.1 l52.2))).bind fun _ =>
 (chk (r57.2.ld (.n (σ.next + 1)) 1 = some (.sl l54.1 l54.2))).bind fun _ =>
 (chk (r57.2.ld (.n (σ.next + 1)) 2 = some (.sl l56.1 l56.2))).bind fun _ =>
 (k35 [(.agg [(.sl l52.1 l52.2), (.sl l54.1 l54.2), (.sl l56.1 l56.2)])] r57.2).bind fun r62 =>
 (AV.asAgg 3 r62.1).bind fun c63 =>
 (AV.asSl (c63.getD 0 .u)).bind fun l64 =>
 (AV.asSl (c63.getD 1 .u)).bind fun l65 =>
 (AV.asSl (c63.getD 2 .u)).bind fun l66 =>
 (k40 [(.agg [(.sl l59.1 l59.2), (.sl l60.1 l60.2), (.sl l61.1 l61.2)]), (.agg [(.sl l64.1 l64.2), (.sl l65.1 l65.2), (.sl l66.1 l66.2)])] r62.2).bind fun r67 =>
 (AV.asSl r67.1).bind fun l68 =>
 (bif (((l44.2 : Int) : Int) != (l68.2 : Int)) then
 some ((.b false), r67.2)
 else bindS (S := List AV × AH O) (R := (AV × AH O)) (loopF (S := List AV × AH O) (T := (List AV × AH O) ⊕ (AV × AH O)) (law47_DiffTells_L1 l68 l44 k41) ([(.i .i64 0)], r67.2)) fun r127 =>
 (k43 [(.sl l44.1 l44.2)] r127.2).bind fun r128 =>
 (AV.asSl r128.1).bind fun l129 =>
 (k44 [(.sl l68.1 l68.2)] r128.2).bind fun r130 =>
 (AV.asSl r130.1).bind fun l131 =>
 (k42 [(.sl l129.1 l129.2), (.sl l131.1 l131.2)] r130.2).bind fun r132 =>
 (AV.asB r132.1).bind fun b133 =>
 some ((.b b133), r132.2))))
 else none
noncomputable def law47_DiffTells {O : Type} : Sm O := law47_DiffTells_c law47_awake law47_few diff_Of law40_Ref haymowref47_Of law47_is diff_Touched haymowref47_Touched haymowref02_Same
theorem law47_DiffTells_ent : Entered Try.prog 8 := Try.call8
theorem law47_DiffTells_run {O : Type} (k24 k25 k27 k35 k40 k41 k43 k44 k42 : Sm O) : run (O := O) Try.prog [(24, k24), (25, k25), (27, k27), (35, k35), (40, k40), (41, k41), (43, k43), (44, k44), (42, k42)] Try.f8 (.n .z (.n (.n .z (.n .z .z)) (.n (.n (.g [(3, 3, [(17, .one .b)])]) (.n .z .z)) (.n .z (.n (.d [] [0, 2, 1, 3, 4, 5] [0, 1, 0, 7, 15, 31]) (.n (.n .z (.n .z .z)) (.n (.n .z (.n (.lp true 0 [(7, .one (.i .i64))] [] (.n (.n .z .z) (.n (.n (.n (.d [] [0, 1, 2, 3, 4, 5, 6, 7, 8, 9] [0, 0, 3, 7, 0, 0, 48, 112, 255, 511]) (.n .z .z)) .z) .z))) .z)) .z))))))) = law47_DiffTells_c k24 k25 k27 k35 k40 k41 k43 k44 k42 := by kernel_rfl
theorem law47_DiffTells_sound {O : Type} {RO : O → Loc → (Nat → Option Obj) → Prop} : FSound RO Try.prog 8 (law47_DiffTells) :=
   have h : FSound RO Try.prog 8 (law47_DiffTells_c law47_awake law47_few diff_Of law40_Ref haymowref47_Of law47_is diff_Touched haymowref47_Touched haymowref02_Same) := (law47_DiffTells_run law47_awake law47_few diff_Of law40_Ref haymowref47_Of law47_is diff_Touched haymowref47_Touched haymowref02_Same) ▸ run_sound (gcons law47_awake_ent (law47_awake_sound) <| gcons law47_few_ent (law47_few_sound) <| gcons diff_Of_ent (diff_Of_sound) <| gcons law40_Ref_ent (law40_Ref_sound) <| gcons haymowref47_Of_ent (haymowref47_Of_sound) <| gcons law47_is_ent (law47_is_sound) <| gcons diff_Touched_ent (diff_Touched_sound) <| gcons haymowref47_Touched_ent (haymowref47_Touched_sound) <| gcons haymowref02_Same_ent (haymowref02_Same_sound) <| gnil) mixed Try.func8 (by kernel_rfl) _
   h

end Go.Abs.Try
