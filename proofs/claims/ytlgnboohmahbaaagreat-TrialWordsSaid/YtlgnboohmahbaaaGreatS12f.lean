/-
  What the functions of the program do, each as a function of Lean, and that it does so. No conditions.
-/
import Derived.Test.YtlgnboohmahbaaaGreatProg
import Derived.Test.YtlgnboohmahbaaaGreatS12e
import Derived.KernelRfl
set_option linter.unusedVariables false
set_option linter.unusedSimpArgs false
set_option linter.constructorNameAsVariable false
set_option maxRecDepth 100000
namespace Go.Abs.Tryz
open Go Go.Abs Go.Proofs
noncomputable def handles_token_c {O : Type} : Sm O := fun xs σ =>
 bif Nat.beq xs.length 2 then
 (AV.asI .i64 (xs.getD 0 .u)).bind fun n0 =>
 (AV.asI .i64 (xs.getD 1 .u)).bind fun n1 =>
 let v2 : Int := (ibits .or .i64 (IntKind.i64.wrap (n1 * 2 ^ 20)) (IntKind.i64.wrap (n0 - 1)))
 some (J v2, σ)
 else none
noncomputable def handles_token {O : Type} : Sm O := handles_token_c
theorem handles_token_ent : Entered Tryz.prog 334 := Tryz.call334
theorem handles_token_run {O : Type} : run (O := O) Tryz.prog [] Tryz.f334 (.n .z .z) = handles_token_c  := by kernel_rfl
theorem handles_token_sound {O : Type} {RO : O → Loc → (Nat → Option Obj) → Prop} : FSound RO Tryz.prog 334 (handles_token) :=
   have h : FSound RO Tryz.prog 334 (handles_token_c) := (handles_token_run) ▸ run_sound (gnil) mixed Tryz.func334 (by kernel_rfl) _
   h
noncomputable def handles_Handles__Add_c {O : Type} (k332 k290 k289 k333 k335 k334 : Sm O) : Sm O := fun xs σ =>
 bif Nat.beq xs.length 2 then
 (AV.asP (xs.getD 0 .u)).bind fun p0 =>
 (AV.asI .u64 (xs.getD 1 .u)).bind fun n1 =>
 Option.bind p0 fun q2 =>
 (σ.ld q2.1 q2.2).bind fun w3 =>
 (AV.asP w3).bind fun p4 =>
 (k332 [(.p p4)] σ).bind fun r5 =>
 (AV.asTup 2 r5.1).bind fun c6 =>
 I6 c6 0 fun n7 => I6 c6 1 fun n8 => (bif ((n8 : Int) != 0) then
 none
 else Option.bind p0 fun q9 =>
 (r5.2.ld q9.1 q9.2).bind fun w10 =>
 (AV.asP w10).bind fun p11 =>
 (k290 [(.p p11), J n7, J 0, (.i .u64 n1)] r5.2).bind fun r12 =>
 (AV.asI .i64 r12.1).bind fun n13 =>
 Option.bind p0 fun q14 =>
 (r12.2.ld q14.1 (q14.2 + 1)).bind fun w15 =>
 (AV.asI .i64 w15).bind fun n16 =>
 (r12.2.ld q14.1 ((q14.2 + 1) + 1)).bind fun w17 =>
 (AV.asI .i64 w17).bind fun n18 =>
 (r12.2.ld q14.1 (((q14.2 + 1) + 1) + 1)).bind fun w19 =>
 (AV.asI .i64 w19).bind fun n20 =>
 (k289 [(.p p0)] r12.2).bind fun r21 =>
 (AV.asAgg 5 r21.1).bind fun c22 =>
 (AV.asP (c22.getD 0 .u)).bind fun p23 =>
 I6 c22 1 fun n24 => I6 c22 2 fun n25 => I6 c22 3 fun n26 => I6 c22 4 fun n27 => (chkE (r21.2.ld q14.1 (q14.2 + 1)) (some (.i .i64 n16))).bind fun _ =>
 (chkE (r21.2.ld q14.1 ((q14.2 + 1) + 1)) (some (.i .i64 n18))).bind fun _ =>
 (chkE (r21.2.ld q14.1 (((q14.2 + 1) + 1) + 1)) (some (.i .i64 n20))).bind fun _ =>
 (k333 [(.agg [(.p p23), J n24, J n25, J n26, J n27]), (.agg [J n16, J n18, J n20]), J n7] r21.2).bind fun r28 =>
 (AV.asTup 2 r28.1).bind fun c29 =>
 (AV.asAgg 3 (c29.getD 0 .u)).bind fun c30 =>
 I6 c30 0 fun n31 => I6 c30 1 fun n32 => I6 c30 2 fun n33 => I6 c29 1 fun n34 => Option.bind p0 fun q35 =>
 (r28.2.st q35.1 (q35.2 + 1) [J n31, J n32, J n33]).bind fun σ36 =>
 Option.bind p0 fun q37 =>
 (σ36.ld q37.1 q37.2).bind fun w38 =>
 (AV.asP w38).bind fun p39 =>
 (k335 [(.p p39), J n7] σ36).bind fun r40 =>
 (AV.asI .i64 r40.1).bind fun n41 =>
 (k334 [J n7, J n41] r40.2).bind fun r42 =>
 (AV.asI .i64 r42.1).bind fun n43 =>
 some ((.tup [J n43, J 0]), r42.2))
 else none
noncomputable def handles_Handles__Add {O : Type} : Sm O := handles_Handles__Add_c pool_Pool__Take pool_Pool__Set handles_Handles__table chain_Table__Push pool_Pool__Gen handles_token
theorem handles_Handles__Add_ent : Entered Tryz.prog 292 := Tryz.call292
theorem handles_Handles__Add_run {O : Type} (k332 k290 k289 k333 k335 k334 : Sm O) : run (O := O) Tryz.prog [(332, k332), (290, k290), (289, k289), (333, k333), (335, k335), (334, k334)] Tryz.f292 (.n .z (.n .z (.n (.n .z (.n .x .z)) (.n .z (.n (.d [] [0, 1, 3, 4, 5, 6, 7, 2, 8, 9, 10, 11, 12, 13, 14] [0, 0, 2, 0, 8, 24, 56, 0, 254, 510, 1022, 1022, 2047, 6143, 14335]) .z))))) = handles_Handles__Add_c k332 k290 k289 k333 k335 k334 := by kernel_rfl
theorem handles_Handles__Add_sound {O : Type} {RO : O → Loc → (Nat → Option Obj) → Prop} : FSound RO Tryz.prog 292 (handles_Handles__Add) :=
   have h : FSound RO Tryz.prog 292 (handles_Handles__Add_c pool_Pool__Take pool_Pool__Set handles_Handles__table chain_Table__Push pool_Pool__Gen handles_token) := (handles_Handles__Add_run pool_Pool__Take pool_Pool__Set handles_Handles__table chain_Table__Push pool_Pool__Gen handles_token) ▸ run_sound (gcons pool_Pool__Take_ent (pool_Pool__Take_sound) <| gcons pool_Pool__Set_ent (pool_Pool__Set_sound) <| gcons handles_Handles__table_ent (handles_Handles__table_sound) <| gcons chain_Table__Push_ent (chain_Table__Push_sound) <| gcons pool_Pool__Gen_ent (pool_Pool__Gen_sound) <| gcons handles_token_ent (handles_token_sound) <| gnil) mixed Tryz.func292 (by kernel_rfl) _
   h
noncomputable def roots_Roots__Add_c {O : Type} (k292 : Sm O) : Sm O := fun xs σ =>
 bif Nat.beq xs.length 1 then
 (AV.asP (xs.getD 0 .u)).bind fun p0 =>
 Option.bind p0 fun q1 =>
 (σ.ld q1.1 (q1.2 + 1)).bind fun w2 =>
 (AV.asP w2).bind fun p3 =>
 (k292 [(.p p3), (.i .u64 0)] σ).bind fun r4 =>
 (AV.asTup 2 r4.1).bind fun c5 =>
 I6 c5 0 fun n6 => I6 c5 1 fun n7 => some ((.tup [J n6, J n7]), r4.2)
 else none
noncomputable def roots_Roots__Add {O : Type} : Sm O := roots_Roots__Add_c handles_Handles__Add
theorem roots_Roots__Add_ent : Entered Tryz.prog 214 := Tryz.call214
theorem roots_Roots__Add_run {O : Type} (k292 : Sm O) : run (O := O) Tryz.prog [(292, k292)] Tryz.f214 (.n .z .z) = roots_Roots__Add_c k292 := by kernel_rfl
theorem roots_Roots__Add_sound {O : Type} {RO : O → Loc → (Nat → Option Obj) → Prop} : FSound RO Tryz.prog 214 (roots_Roots__Add) :=
   have h : FSound RO Tryz.prog 214 (roots_Roots__Add_c handles_Handles__Add) := (roots_Roots__Add_run handles_Handles__Add) ▸ run_sound (gcons handles_Handles__Add_ent (handles_Handles__Add_sound) <| gnil) mixed Tryz.func214 (by kernel_rfl) _
   h
noncomputable def heap_Heap__Global_1_c {O : Type} (k213 k214 : Sm O) : Sm O := fun xs σ =>
 bif Nat.beq xs.length 2 then
 (AV.asPS (xs.getD 0 .u)).bind fun q0 =>
 (σ.ld q0.1 q0.2).bind fun w1 =>
 (AV.asP w1).bind fun p2 =>
 (k213 [(.p p2), J 4] σ).bind fun r3 =>
 (AV.asI .i64 r3.1).bind fun n4 =>
 (bif ((n4 : Int) != 0) then
 none
 else (AV.asPS (xs.getD 0 .u)).bind fun q5 =>
 (r3.2.ld q5.1 q5.2).bind fun w6 =>
 (AV.asP w6).bind fun p7 =>
 Option.bind p7 fun q8 =>
 (r3.2.ld q8.1 (q8.2 + 6)).bind fun w9 =>
 (AV.asP w9).bind fun p10 =>
 (k214 [(.p p10)] r3.2).bind fun r11 =>
 (AV.asTup 2 r11.1).bind fun c12 =>
 I6 c12 0 fun n13 => I6 c12 1 fun n14 => (AV.asPS (xs.getD 1 .u)).bind fun q15 =>
 (r11.2.st q15.1 q15.2 [J n13]).bind fun σ16 =>
 some (J n14, σ16))
 else none
noncomputable def heap_Heap__Global_1 {O : Type} (F : Nat) : Sm O := heap_Heap__Global_1_c (heap_Heap__request F) roots_Roots__Add
theorem heap_Heap__Global_1_ent : Entered Tryz.prog 212 := Tryz.call212
theorem heap_Heap__Global_1_run {O : Type} (k213 k214 : Sm O) : run (O := O) Tryz.prog [(213, k213), (214, k214)] Tryz.f212 (.n .z (.n (.n .z (.n .z (.n .x .z))) (.n .z (.n .z .z)))) = heap_Heap__Global_1_c k213 k214 := by kernel_rfl
theorem heap_Heap__Global_1_sound {O : Type} {RO : O → Loc → (Nat → Option Obj) → Prop} (F : Nat) : FSound RO Tryz.prog 212 (heap_Heap__Global_1 F) :=
   have h : FSound RO Tryz.prog 212 (heap_Heap__Global_1_c (heap_Heap__request F) roots_Roots__Add) := (heap_Heap__Global_1_run (heap_Heap__request F) roots_Roots__Add) ▸ run_sound (gcons heap_Heap__request_ent (heap_Heap__request_sound F) <| gcons roots_Roots__Add_ent (roots_Roots__Add_sound) <| gnil) mixed Tryz.func212 (by kernel_rfl) _
   h
noncomputable def ledger_Ledger__Sides_c {O : Type} : Sm O := fun xs σ =>
 bif Nat.beq xs.length 1 then
 (AV.asAgg 4 (xs.getD 0 .u)).bind fun c0 =>
 (AV.asI .u64 (c0.getD 0 .u)).bind fun n1 =>
 (AV.asI .u64 (c0.getD 1 .u)).bind fun n2 =>
 (AV.asI .u64 (c0.getD 2 .u)).bind fun n3 =>
 (AV.asI .u64 (c0.getD 3 .u)).bind fun n4 =>
 let σ5 := σ.bump 3
 let σ6 := σ5.put σ.next (.cells true 118 [(.i .u64 n1), (.i .u64 n2), (.i .u64 n3), (.i .u64 n4)])
 let σ7 := σ6.put (σ.next + 1) (.cells true 98 [(.i .u64 0), (.i .u64 0)])
 let σ8 := σ7.put ((σ.next + 1) + 1) (.cells true 98 [(.i .u64 0), (.i .u64 0)])
 (σ8.ld (.n σ.next) 0).bind fun w9 =>
 (AV.asI .u64 w9).bind fun n10 =>
 (σ8.ld (.n σ.next) 1).bind fun w11 =>
 (AV.asI .u64 w11).bind fun n12 =>
 (σ8.ld (.n σ.next) 2).bind fun w13 =>
 (AV.asI .u64 w13).bind fun n14 =>
 (σ8.ld (.n σ.next) 3).bind fun w15 =>
 (AV.asI .u64 w15).bind fun n16 =>
 (σ8.st (.n (σ.next + 1)) 0 [(.i .u64 n10), (.i .u64 n12)]).bind fun σ17 =>
 (chkE (σ17.ld (.n σ.next) 2) (some (.i .u64 n14))).bind fun _ =>
 (chkE (σ17.ld (.n σ.next) 3) (some (.i .u64 n16))).bind fun _ =>
 (σ17.st (.n ((σ.next + 1) + 1)) 0 [(.i .u64 n14), (.i .u64 n16)]).bind fun σ18 =>
 (σ18.ld (.n (σ.next + 1)) 0).bind fun w19 =>
 (AV.asI .u64 w19).bind fun n20 =>
 (σ18.ld (.n (σ.next + 1)) 1).bind fun w21 =>
 (AV.asI .u64 w21).bind fun n22 =>
 (σ18.ld (.n ((σ.next + 1) + 1)) 0).bind fun w23 =>
 (AV.asI .u64 w23).bind fun n24 =>
 (σ18.ld (.n ((σ.next + 1) + 1)) 1).bind fun w25 =>
 (AV.asI .u64 w25).bind fun n26 =>
 some ((.tup [(.agg [(.i .u64 n20), (.i .u64 n22)]), (.agg [(.i .u64 n24), (.i .u64 n26)])]), σ18)
 else none
noncomputable def ledger_Ledger__Sides {O : Type} : Sm O := ledger_Ledger__Sides_c
theorem ledger_Ledger__Sides_ent : Entered Tryz.prog 133 := Tryz.call133
theorem ledger_Ledger__Sides_run {O : Type} : run (O := O) Tryz.prog [] Tryz.f133 (.n .z (.n (.d [] [0, 1, 2, 3, 4, 5, 6, 7] [0, 1, 3, 0, 8, 24, 7, 127]) .z)) = ledger_Ledger__Sides_c  := by kernel_rfl
theorem ledger_Ledger__Sides_sound {O : Type} {RO : O → Loc → (Nat → Option Obj) → Prop} : FSound RO Tryz.prog 133 (ledger_Ledger__Sides) :=
   have h : FSound RO Tryz.prog 133 (ledger_Ledger__Sides_c) := (ledger_Ledger__Sides_run) ▸ run_sound (gnil) mixed Tryz.func133 (by kernel_rfl) _
   h
noncomputable def ledger_Ledger__Pay_c {O : Type} (k54 : Sm O) : Sm O := fun xs σ =>
 bif Nat.beq xs.length 2 then
 (AV.asAgg 4 (xs.getD 0 .u)).bind fun c0 =>
 (AV.asI .u64 (c0.getD 0 .u)).bind fun n1 =>
 (AV.asI .u64 (c0.getD 1 .u)).bind fun n2 =>
 (AV.asI .u64 (c0.getD 2 .u)).bind fun n3 =>
 (AV.asI .u64 (c0.getD 3 .u)).bind fun n4 =>
 (AV.asAgg 2 (xs.getD 1 .u)).bind fun c5 =>
 (AV.asI .u64 (c5.getD 0 .u)).bind fun n6 =>
 (AV.asI .u64 (c5.getD 1 .u)).bind fun n7 =>
 let σ8 := σ.bump 3
 let σ9 := σ8.put σ.next (.cells true 118 [(.i .u64 n1), (.i .u64 n2), (.i .u64 n3), (.i .u64 n4)])
 let σ10 := σ9.put (σ.next + 1) (.cells true 98 [(.i .u64 n6), (.i .u64 n7)])
 let σ11 := σ10.put ((σ.next + 1) + 1) (.cells true 118 [(.i .u64 0), (.i .u64 0), (.i .u64 0), (.i .u64 0)])
 (σ11.ld (.n σ.next) 2).bind fun w12 =>
 (AV.asI .u64 w12).bind fun n13 =>
 (σ11.ld (.n σ.next) 3).bind fun w14 =>
 (AV.asI .u64 w14).bind fun n15 =>
 (σ11.ld (.n (σ.next + 1)) 0).bind fun w16 =>
 (AV.asI .u64 w16).bind fun n17 =>
 (σ11.ld (.n (σ.next + 1)) 1).bind fun w18 =>
 (AV.asI .u64 w18).bind fun n19 =>
 (k54 [(.agg [(.i .u64 n13), (.i .u64 n15)]), (.agg [(.i .u64 n17), (.i .u64 n19)])] σ11).bind fun r20 =>
 (AV.asTup 2 r20.1).bind fun c21 =>
 (AV.asAgg 2 (c21.getD 0 .u)).bind fun c22 =>
 (AV.asI .u64 (c22.getD 0 .u)).bind fun n23 =>
 (AV.asI .u64 (c22.getD 1 .u)).bind fun n24 =>
 (AV.asB (c21.getD 1 .u)).bind fun b25 =>
 (r20.2.st (.n σ.next) 2 [(.i .u64 n23), (.i .u64 n24)]).bind fun σ26 =>
 (σ26.ld (.n σ.next) 0).bind fun w27 =>
 (AV.asI .u64 w27).bind fun n28 =>
 (σ26.ld (.n σ.next) 1).bind fun w29 =>
 (AV.asI .u64 w29).bind fun n30 =>
 (σ26.ld (.n σ.next) 2).bind fun w31 =>
 (AV.asI .u64 w31).bind fun n32 =>
 (σ26.ld (.n σ.next) 3).bind fun w33 =>
 (AV.asI .u64 w33).bind fun n34 =>
 (σ26.st (.n ((σ.next + 1) + 1)) 0 [(.i .u64 n28), (.i .u64 n30), (.i .u64 n32), (.i .u64 n34)]).bind fun σ35 =>
 (σ35.ld (.n ((σ.next + 1) + 1)) 0).bind fun w36 =>
 (AV.asI .u64 w36).bind fun n37 =>
 (σ35.ld (.n ((σ.next + 1) + 1)) 1).bind fun w38 =>
 (AV.asI .u64 w38).bind fun n39 =>
 (σ35.ld (.n ((σ.next + 1) + 1)) 2).bind fun w40 =>
 (AV.asI .u64 w40).bind fun n41 =>
 (σ35.ld (.n ((σ.next + 1) + 1)) 3).bind fun w42 =>
 (AV.asI .u64 w42).bind fun n43 =>
 some ((.agg [(.i .u64 n37), (.i .u64 n39), (.i .u64 n41), (.i .u64 n43)]), σ35)
 else none
noncomputable def ledger_Ledger__Pay {O : Type} : Sm O := ledger_Ledger__Pay_c wide_Add
theorem ledger_Ledger__Pay_ent : Entered Tryz.prog 134 := Tryz.call134
theorem ledger_Ledger__Pay_run {O : Type} (k54 : Sm O) : run (O := O) Tryz.prog [(54, k54)] Tryz.f134 (.n .z (.n .z .z)) = ledger_Ledger__Pay_c k54 := by kernel_rfl
theorem ledger_Ledger__Pay_sound {O : Type} {RO : O → Loc → (Nat → Option Obj) → Prop} : FSound RO Tryz.prog 134 (ledger_Ledger__Pay) :=
   have h : FSound RO Tryz.prog 134 (ledger_Ledger__Pay_c wide_Add) := (ledger_Ledger__Pay_run wide_Add) ▸ run_sound (gcons wide_Add_ent (wide_Add_sound) <| gnil) mixed Tryz.func134 (by kernel_rfl) _
   h
noncomputable def heap_Heap__call_c {O : Type} (k132 k133 k35 k65 k134 k212 : Sm O) : Sm O := fun xs σ =>
 bif Nat.beq xs.length 2 then
 (AV.asP (xs.getD 0 .u)).bind fun p0 =>
 (AV.asF (xs.getD 1 .u)).bind fun f1 =>
 Option.bind p0 fun q2 =>
 (σ.ld q2.1 (q2.2 + 15)).bind fun w3 =>
 (AV.asI .u64 w3).bind fun n4 =>
 (σ.ld q2.1 ((q2.2 + 15) + 1)).bind fun w5 =>
 (AV.asI .u64 w5).bind fun n6 =>
 (σ.ld q2.1 (((q2.2 + 15) + 1) + 1)).bind fun w7 =>
 (AV.asI .u64 w7).bind fun n8 =>
 (σ.ld q2.1 ((((q2.2 + 15) + 1) + 1) + 1)).bind fun w9 =>
 (AV.asI .u64 w9).bind fun n10 =>
 (k132 [(.agg [(.i .u64 n4), (.i .u64 n6), (.i .u64 n8), (.i .u64 n10)]), J 0, J 1] σ).bind fun r11 =>
 (AV.asAgg 4 r11.1).bind fun c12 =>
 (AV.asI .u64 (c12.getD 0 .u)).bind fun n13 =>
 (AV.asI .u64 (c12.getD 1 .u)).bind fun n14 =>
 (AV.asI .u64 (c12.getD 2 .u)).bind fun n15 =>
 (AV.asI .u64 (c12.getD 3 .u)).bind fun n16 =>
 Option.bind p0 fun q17 =>
 (r11.2.st q17.1 (q17.2 + 15) [(.i .u64 n13), (.i .u64 n14), (.i .u64 n15), (.i .u64 n16)]).bind fun σ18 =>
 (callV [(132, k132), (133, k133), (35, k35), (65, k65), (134, k134), (212, k212)] f1 [] σ18).bind fun r19 =>
 (AV.asI .i64 r19.1).bind fun n20 =>
 let σ21 := r19.2.bump 2
 Option.bind p0 fun q22 =>
 (σ21.ld q22.1 (q22.2 + 15)).bind fun w23 =>
 (AV.asI .u64 w23).bind fun n24 =>
 (σ21.ld q22.1 ((q22.2 + 15) + 1)).bind fun w25 =>
 (AV.asI .u64 w25).bind fun n26 =>
 (σ21.ld q22.1 (((q22.2 + 15) + 1) + 1)).bind fun w27 =>
 (AV.asI .u64 w27).bind fun n28 =>
 (σ21.ld q22.1 ((((q22.2 + 15) + 1) + 1) + 1)).bind fun w29 =>
 (AV.asI .u64 w29).bind fun n30 =>
 (k133 [(.agg [(.i .u64 n24), (.i .u64 n26), (.i .u64 n28), (.i .u64 n30)])] σ21).bind fun r31 =>
 (AV.asTup 2 r31.1).bind fun c32 =>
 (AV.asAgg 2 (c32.getD 0 .u)).bind fun c33 =>
 (AV.asI .u64 (c33.getD 0 .u)).bind fun n34 =>
 (AV.asI .u64 (c33.getD 1 .u)).bind fun n35 =>
 (AV.asAgg 2 (c32.getD 1 .u)).bind fun c36 =>
 (AV.asI .u64 (c36.getD 0 .u)).bind fun n37 =>
 (AV.asI .u64 (c36.getD 1 .u)).bind fun n38 =>
 let σ39 := r31.2.put r19.2.next (.cells true 98 [(.i .u64 0), (.i .u64 0)])
 let σ40 := σ39.put (r19.2.next + 1) (.cells true 98 [(.i .u64 0), (.i .u64 0)])
 (σ40.st (.n r19.2.next) 0 [(.i .u64 n34), (.i .u64 n35)]).bind fun σ41 =>
 (σ41.st (.n (r19.2.next + 1)) 0 [(.i .u64 n37), (.i .u64 n38)]).bind fun σ42 =>
 Option.bind p0 fun q43 =>
 (σ42.ld q43.1 (q43.2 + 15)).bind fun w44 =>
 (AV.asI .u64 w44).bind fun n45 =>
 (σ42.ld q43.1 ((q43.2 + 15) + 1)).bind fun w46 =>
 (AV.asI .u64 w46).bind fun n47 =>
 (σ42.ld q43.1 (((q43.2 + 15) + 1) + 1)).bind fun w48 =>
 (AV.asI .u64 w48).bind fun n49 =>
 (σ42.ld q43.1 ((((q43.2 + 15) + 1) + 1) + 1)).bind fun w50 =>
 (AV.asI .u64 w50).bind fun n51 =>
 Option.bind p0 fun q52 =>
 (σ42.ld q52.1 (q52.2 + 5)).bind fun w53 =>
 (AV.asP w53).bind fun p54 =>
 (σ42.ld (.n (r19.2.next + 1)) 0).bind fun w55 =>
 (AV.asI .u64 w55).bind fun n56 =>
 (σ42.ld (.n (r19.2.next + 1)) 1).bind fun w57 =>
 (AV.asI .u64 w57).bind fun n58 =>
 (k35 [(.p p54)] σ42).bind fun r59 =>
 (AV.asP r59.1).bind fun p60 =>
 (chkE (r59.2.ld q43.1 (q43.2 + 15)) (some (.i .u64 n45))).bind fun _ =>
 (chkE (r59.2.ld q43.1 ((q43.2 + 15) + 1)) (some (.i .u64 n47))).bind fun _ =>
 (chkE (r59.2.ld q43.1 (((q43.2 + 15) + 1) + 1)) (some (.i .u64 n49))).bind fun _ =>
 (chkE (r59.2.ld q43.1 ((((q43.2 + 15) + 1) + 1) + 1)) (some (.i .u64 n51))).bind fun _ =>
 (chkE (r59.2.ld (.n (r19.2.next + 1)) 0) (some (.i .u64 n56))).bind fun _ =>
 (chkE (r59.2.ld (.n (r19.2.next + 1)) 1) (some (.i .u64 n58))).bind fun _ =>
 Option.bind p60 fun q61 =>
 (r59.2.ld q61.1 q61.2).bind fun w62 =>
 (AV.asP w62).bind fun p63 =>
 (k65 [(.p p63), (.agg [(.i .u64 n56), (.i .u64 n58)])] r59.2).bind fun r64 =>
 (AV.asAgg 2 r64.1).bind fun c65 =>
 (AV.asI .u64 (c65.getD 0 .u)).bind fun n66 =>
 (AV.asI .u64 (c65.getD 1 .u)).bind fun n67 =>
 (chkE (r64.2.ld q43.1 (q43.2 + 15)) (some (.i .u64 n45))).bind fun _ =>
 (chkE (r64.2.ld q43.1 ((q43.2 + 15) + 1)) (some (.i .u64 n47))).bind fun _ =>
 (chkE (r64.2.ld q43.1 (((q43.2 + 15) + 1) + 1)) (some (.i .u64 n49))).bind fun _ =>
 (chkE (r64.2.ld q43.1 ((((q43.2 + 15) + 1) + 1) + 1)) (some (.i .u64 n51))).bind fun _ =>
 (k134 [(.agg [(.i .u64 n45), (.i .u64 n47), (.i .u64 n49), (.i .u64 n51)]), (.agg [(.i .u64 n66), (.i .u64 n67)])] r64.2).bind fun r68 =>
 (AV.asAgg 4 r68.1).bind fun c69 =>
 (AV.asI .u64 (c69.getD 0 .u)).bind fun n70 =>
 (AV.asI .u64 (c69.getD 1 .u)).bind fun n71 =>
 (AV.asI .u64 (c69.getD 2 .u)).bind fun n72 =>
 (AV.asI .u64 (c69.getD 3 .u)).bind fun n73 =>
 Option.bind p0 fun q74 =>
 (r68.2.st q74.1 (q74.2 + 15) [(.i .u64 n70), (.i .u64 n71), (.i .u64 n72), (.i .u64 n73)]).bind fun σ75 =>
 some (J n20, σ75)
 else none
noncomputable def heap_Heap__call {O : Type} (F : Nat) : Sm O := heap_Heap__call_c ledger_Ledger__Deposit ledger_Ledger__Sides store_Store__Mem meter_Meter__Since ledger_Ledger__Pay (heap_Heap__Global_1 F)
theorem heap_Heap__call_ent : Entered Tryz.prog 77 := Tryz.call77
theorem heap_Heap__call_run {O : Type} (k132 k133 k35 k65 k134 k212 : Sm O) : run (O := O) Tryz.prog [(132, k132), (133, k133), (35, k35), (65, k65), (134, k134), (212, k212)] Tryz.f77 (.n .z (.n .z (.n .z (.n .z (.n (.d [] [0, 1, 2, 3, 4, 5, 6, 7, 8, 13, 9, 10, 11, 12, 14, 15, 16, 17, 18] [0, 0, 2, 6, 14, 0, 32, 96, 224, 480, 992, 2016, 4064, 0, 16352, 32766, 65535, 131071, 262143]) .z))))) = heap_Heap__call_c k132 k133 k35 k65 k134 k212 := by kernel_rfl
theorem heap_Heap__call_sound {O : Type} {RO : O → Loc → (Nat → Option Obj) → Prop} (F : Nat) : FSound RO Tryz.prog 77 (heap_Heap__call F) :=
   have h : FSound RO Tryz.prog 77 (heap_Heap__call_c ledger_Ledger__Deposit ledger_Ledger__Sides store_Store__Mem meter_Meter__Since ledger_Ledger__Pay (heap_Heap__Global_1 F)) := (heap_Heap__call_run ledger_Ledger__Deposit ledger_Ledger__Sides store_Store__Mem meter_Meter__Since ledger_Ledger__Pay (heap_Heap__Global_1 F)) ▸ run_sound (gcons ledger_Ledger__Deposit_ent (ledger_Ledger__Deposit_sound) <| gcons ledger_Ledger__Sides_ent (ledger_Ledger__Sides_sound) <| gcons store_Store__Mem_ent (store_Store__Mem_sound) <| gcons meter_Meter__Since_ent (meter_Meter__Since_sound) <| gcons ledger_Ledger__Pay_ent (ledger_Ledger__Pay_sound) <| gcons heap_Heap__Global_1_ent (heap_Heap__Global_1_sound F) <| gnil) mixed Tryz.func77 (by kernel_rfl) _
   h
noncomputable def heap_Heap__Global_c {O : Type} (k212 k77 : Sm O) : Sm O := fun xs σ =>
 bif Nat.beq xs.length 1 then
 (AV.asP (xs.getD 0 .u)).bind fun p0 =>
 let σ1 := σ.bump 2
 let σ2 := σ1.put σ.next (.cells true 61 [(.p p0)])
 let σ3 := σ2.put (σ.next + 1) (.cells true 3 [J 0])
 (σ3.ld (.n σ.next) 0).bind fun w4 =>
 (AV.asP w4).bind fun p5 =>
 (k77 [(.p p5), (.fn (some (.func 212, [], [(.p (some ((.n σ.next), 0))), (.p (some ((.n (σ.next + 1)), 0)))])))] σ3).bind fun r6 =>
 (AV.asI .i64 r6.1).bind fun n7 =>
 (r6.2.ld (.n (σ.next + 1)) 0).bind fun w8 =>
 (AV.asI .i64 w8).bind fun n9 =>
 (r6.2.st (.n (σ.next + 1)) 0 [J n9]).bind fun σ10 =>
 (σ10.ld (.n (σ.next + 1)) 0).bind fun w11 =>
 (AV.asI .i64 w11).bind fun n12 =>
 some ((.tup [J n12, J n7]), σ10)
 else none
noncomputable def heap_Heap__Global {O : Type} (F : Nat) : Sm O := heap_Heap__Global_c (heap_Heap__Global_1 F) (heap_Heap__call F)
theorem heap_Heap__Global_ent : Entered Tryz.prog 136 := Tryz.call136
theorem heap_Heap__Global_run {O : Type} (k212 k77 : Sm O) : run (O := O) Tryz.prog [(212, k212), (77, k77)] Tryz.f136 (.n .z (.n .z .z)) = heap_Heap__Global_c k212 k77 := by kernel_rfl
theorem heap_Heap__Global_sound {O : Type} {RO : O → Loc → (Nat → Option Obj) → Prop} (F : Nat) : FSound RO Tryz.prog 136 (heap_Heap__Global F) :=
   have h : FSound RO Tryz.prog 136 (heap_Heap__Global_c (heap_Heap__Global_1 F) (heap_Heap__call F)) := (heap_Heap__Global_run (heap_Heap__Global_1 F) (heap_Heap__call F)) ▸ run_sound (gcons heap_Heap__Global_1_ent (heap_Heap__Global_1_sound F) <| gcons heap_Heap__call_ent (heap_Heap__call_sound F) <| gnil) mixed Tryz.func136 (by kernel_rfl) _
   h
noncomputable def service_Service__grants_c {O : Type} (k22 k136 : Sm O) : Sm O := fun xs σ =>
 bif Nat.beq xs.length 2 then
 (AV.asP (xs.getD 0 .u)).bind fun p0 =>
 (AV.asAgg 5 (xs.getD 1 .u)).bind fun c1 =>
 I6 c1 0 fun n2 => I6 c1 1 fun n3 => I6 c1 2 fun n4 => I6 c1 3 fun n5 => I6 c1 4 fun n6 => let σ7 := σ.bump 2
 let σ8 := σ7.put σ.next (.cells true 131 [J n2, J n3, J n4, J n5, J n6])
 let σ9 := σ8.put (σ.next + 1) (.cells true 43 [J 0, N])
 let σ10 := σ9.bump 1
 (σ10.ld (.n σ.next) 1).bind fun w11 =>
 (AV.asI .i64 w11).bind fun n12 =>
 (σ10.ld (.n σ.next) 2).bind fun w13 =>
 (AV.asI .i64 w13).bind fun n14 =>
 (σ10.ld (.n σ.next) 3).bind fun w15 =>
 (AV.asI .i64 w15).bind fun n16 =>
 (σ10.ld (.n σ.next) 4).bind fun w17 =>
 (AV.asI .i64 w17).bind fun n18 =>
 let σ19 := σ10.put σ9.next (.cells true 129 [J 0, J 0, J 0, J 0])
 (σ19.st (.n σ9.next) 0 [J n12, J n14, J n16, J n18]).bind fun σ20 =>
 (σ20.ld (.n σ.next) 0).bind fun w21 =>
 (AV.asI .i64 w21).bind fun n22 =>
 (bif ((n22 : Int) == 0) then
 none
 else (bif ((n22 : Int) == 1) then
 Option.bind p0 fun q23 =>
 (σ20.ld q23.1 q23.2).bind fun w24 =>
 (AV.asP w24).bind fun p25 =>
 (k136 [(.p p25)] σ20).bind fun r26 =>
 (AV.asTup 2 r26.1).bind fun c27 =>
 I6 c27 0 fun n28 => I6 c27 1 fun n29 => let σ30 := r26.2.bump 1
 let σ31 := σ30.put r26.2.next (.cells true 3 [J n28])
 (k22 [J n29, (.sl (.loc (.n r26.2.next) 0 1) 1)] σ31).bind fun r32 =>
 (AV.asAgg 2 r32.1).bind fun c33 =>
 I6 c33 0 fun n34 => Is c33 1 fun l35 => (r32.2.st (.n (σ.next + 1)) 0 [J n34, L l35]).bind fun σ36 =>
 (σ36.ld (.n (σ.next + 1)) 0).bind fun w37 =>
 (AV.asI .i64 w37).bind fun n38 =>
 (σ36.ld (.n (σ.next + 1)) 1).bind fun w39 =>
 (AV.asSl w39).bind fun l40 =>
 some ((.tup [(.agg [J n38, L l40]), (.b true)]), σ36)
 else none))
 else none
noncomputable def service_Service__grants {O : Type} (F : Nat) : Sm O := service_Service__grants_c service_said (heap_Heap__Global F)
theorem service_Service__grants_ent : Entered Tryz.prog 79 := Tryz.call79
theorem service_Service__grants_run {O : Type} (k22 k136 : Sm O) : run (O := O) Tryz.prog [(22, k22), (136, k136)] Tryz.f79 (.n .z (.n .z (.n (.n .z (.n (.n .z (.n .x (.n .z (.n (.n .z .z) .x)))) .z)) .z))) = service_Service__grants_c k22 k136 := by kernel_rfl
theorem service_Service__grants_sound {O : Type} {RO : O → Loc → (Nat → Option Obj) → Prop} (F : Nat) : FSound RO Tryz.prog 79 (service_Service__grants F) :=
   have h : FSound RO Tryz.prog 79 (service_Service__grants_c service_said (heap_Heap__Global F)) := (service_Service__grants_run service_said (heap_Heap__Global F)) ▸ run_sound (gcons service_said_ent (service_said_sound) <| gcons heap_Heap__Global_ent (heap_Heap__Global_sound F) <| gnil) mixed Tryz.func79 (by kernel_rfl) _
   h
noncomputable def service_Service__Op_L1 {O : Type} (σ9 : AH O) (σ : AH O) (k79 : Sm O) : List AV × AH O → Option ((List AV × AH O) ⊕ ((List AV × AH O) ⊕ (AV × AH O))) := (fun r12 =>
 (AV.asI .i64 (r12.1.getD 0 .u)).bind fun n13 =>
 (bif (decide (n13 < 3)) then
 (bif ((decide ((0 : Int) ≤ n13)) && (decide (n13 < 3))) then
 (r12.2.ld (.n σ9.next) (0 + (n13.toNat * 1))).bind fun w14 =>
 (AV.asF w14).bind fun f15 =>
 let σ16 := r12.2.bump 1
 (σ16.ld (.n σ.next) 0).bind fun w17 =>
 (AV.asI .i64 w17).bind fun n18 =>
 (σ16.ld (.n σ.next) 1).bind fun w19 =>
 (AV.asI .i64 w19).bind fun n20 =>
 (σ16.ld (.n σ.next) 2).bind fun w21 =>
 (AV.asI .i64 w21).bind fun n22 =>
 (σ16.ld (.n σ.next) 3).bind fun w23 =>
 (AV.asI .i64 w23).bind fun n24 =>
 (σ16.ld (.n σ.next) 4).bind fun w25 =>
 (AV.asI .i64 w25).bind fun n26 =>
 (callV [(79, k79)] f15 [(.agg [J n18, J n20, J n22, J n24, J n26])] σ16).bind fun r27 =>
 (AV.asTup 2 r27.1).bind fun c28 =>
 (AV.asAgg 2 (c28.getD 0 .u)).bind fun c29 =>
 I6 c29 0 fun n30 => Is c29 1 fun l31 => (AV.asB (c28.getD 1 .u)).bind fun b32 =>
 let σ33 := r27.2.put r12.2.next (.cells true 43 [J 0, N])
 (σ33.st (.n r12.2.next) 0 [J n30, L l31]).bind fun σ34 =>
 (bif b32 then
 (σ34.ld (.n r12.2.next) 0).bind fun w35 =>
 (AV.asI .i64 w35).bind fun n36 =>
 (σ34.ld (.n r12.2.next) 1).bind fun w37 =>
 (AV.asSl w37).bind fun l38 =>
 (σ34.st (.n (σ.next + 1)) 0 [J n36, L l38]).bind fun σ39 =>
 (((σ39.ld (.n (σ.next + 1)) 0).bind fun w40 =>
 (AV.asI .i64 w40).bind fun n41 =>
 (σ39.ld (.n (σ.next + 1)) 1).bind fun w42 =>
 (AV.asSl w42).bind fun l43 =>
 some ((.agg [J n41, L l43]), σ39) : Option (AV × AH O)).map fun r => Sum.inr (Sum.inr r))
 else none)
 else none)
 else none))
noncomputable def service_Service__Op_c {O : Type} (k79 : Sm O) : Sm O := fun xs σ =>
 bif Nat.beq xs.length 2 then
 (AV.asP (xs.getD 0 .u)).bind fun p0 =>
 (AV.asAgg 5 (xs.getD 1 .u)).bind fun c1 =>
 I6 c1 0 fun n2 => I6 c1 1 fun n3 => I6 c1 2 fun n4 => I6 c1 3 fun n5 => I6 c1 4 fun n6 => let σ7 := σ.bump 2
 let σ8 := σ7.put σ.next (.cells true 131 [J n2, J n3, J n4, J n5, J n6])
 let σ9 := σ8.put (σ.next + 1) (.cells true 43 [J 0, N])
 let σ10 := σ9.bump 1
 let σ11 := σ10.put σ9.next (.cells true 199 [(.fn (some (.func 79, [(.p p0)], []))), (.fn (some (.func 80, [(.p p0)], []))), (.fn (some (.func 81, [(.p p0)], [])))])
 bindS (S := List AV × AH O) (R := (AV × AH O)) (loopF (S := List AV × AH O) (T := (List AV × AH O) ⊕ (AV × AH O)) (service_Service__Op_L1 σ9 σ k79) ([J 0], σ11)) fun r44 =>
 none
 else none
noncomputable def service_Service__Op {O : Type} (F : Nat) : Sm O := service_Service__Op_c (service_Service__grants F)
theorem service_Service__Op_ent : Entered Tryz.prog 48 := Tryz.call48
theorem service_Service__Op_run {O : Type} (k79 : Sm O) : run (O := O) Tryz.prog [(79, k79)] Tryz.f48 (.n .z (.n (.n .z (.n (.lp true 1000000 [(17, .one (.i .i64))] [] (.n .z (.n (.n .z .x) (.n (.n (.n .z (.n .z (.n .z (.n .z .x)))) .z) .z)))) .z)) (.n (.n .z (.n .x .x)) .z))) = service_Service__Op_c k79 := by kernel_rfl
theorem service_Service__Op_sound {O : Type} {RO : O → Loc → (Nat → Option Obj) → Prop} (F : Nat) : FSound RO Tryz.prog 48 (service_Service__Op F) :=
   have h : FSound RO Tryz.prog 48 (service_Service__Op_c (service_Service__grants F)) := (service_Service__Op_run (service_Service__grants F)) ▸ run_sound (gcons service_Service__grants_ent (service_Service__grants_sound F) <| gnil) mixed Tryz.func48 (by kernel_rfl) _
   h
noncomputable def service_Service__Do_c {O : Type} (k46 k22 k48 : Sm O) : Sm O := fun xs σ =>
 bif Nat.beq xs.length 2 then
 (AV.asP (xs.getD 0 .u)).bind fun p0 =>
 (AV.asSl (xs.getD 1 .u)).bind fun l1 =>
 let σ2 := σ.bump 1
 let σ3 := σ2.put σ.next (.cells true 43 [J 0, N])
 let σ4 := σ3.bump 1
 (k46 [L l1] σ4).bind fun r5 =>
 (AV.asTup 2 r5.1).bind fun c6 =>
 (AV.asAgg 5 (c6.getD 0 .u)).bind fun c7 =>
 I6 c7 0 fun n8 => I6 c7 1 fun n9 => I6 c7 2 fun n10 => I6 c7 3 fun n11 => I6 c7 4 fun n12 => I6 c6 1 fun n13 => let σ14 := r5.2.put σ3.next (.cells true 131 [J 0, J 0, J 0, J 0, J 0])
 (σ14.st (.n σ3.next) 0 [J n8, J n9, J n10, J n11, J n12]).bind fun σ15 =>
 (bif ((n13 : Int) != 0) then
 none
 else (σ15.ld (.n σ3.next) 0).bind fun w16 =>
 (AV.asI .i64 w16).bind fun n17 =>
 (σ15.ld (.n σ3.next) 1).bind fun w18 =>
 (AV.asI .i64 w18).bind fun n19 =>
 (σ15.ld (.n σ3.next) 2).bind fun w20 =>
 (AV.asI .i64 w20).bind fun n21 =>
 (σ15.ld (.n σ3.next) 3).bind fun w22 =>
 (AV.asI .i64 w22).bind fun n23 =>
 (σ15.ld (.n σ3.next) 4).bind fun w24 =>
 (AV.asI .i64 w24).bind fun n25 =>
 (k48 [(.p p0), (.agg [J n17, J n19, J n21, J n23, J n25])] σ15).bind fun r26 =>
 (AV.asAgg 2 r26.1).bind fun c27 =>
 I6 c27 0 fun n28 => Is c27 1 fun l29 => (r26.2.st (.n σ.next) 0 [J n28, L l29]).bind fun σ30 =>
 (σ30.ld (.n σ.next) 0).bind fun w31 =>
 (AV.asI .i64 w31).bind fun n32 =>
 (σ30.ld (.n σ.next) 1).bind fun w33 =>
 (AV.asSl w33).bind fun l34 =>
 some ((.agg [J n32, L l34]), σ30))
 else none
noncomputable def service_Service__Do {O : Type} (F : Nat) : Sm O := service_Service__Do_c record_Parse service_said (service_Service__Op F)
theorem service_Service__Do_ent : Entered Tryz.prog 23 := Tryz.call23
theorem service_Service__Do_run {O : Type} (k46 k22 k48 : Sm O) : run (O := O) Tryz.prog [(46, k46), (22, k22), (48, k48)] Tryz.f23 (.n .z (.n .z (.n (.n .z (.n .x .z)) .z))) = service_Service__Do_c k46 k22 k48 := by kernel_rfl
theorem service_Service__Do_sound {O : Type} {RO : O → Loc → (Nat → Option Obj) → Prop} (F : Nat) : FSound RO Tryz.prog 23 (service_Service__Do F) :=
   have h : FSound RO Tryz.prog 23 (service_Service__Do_c record_Parse service_said (service_Service__Op F)) := (service_Service__Do_run record_Parse service_said (service_Service__Op F)) ▸ run_sound (gcons record_Parse_ent (record_Parse_sound) <| gcons service_said_ent (service_said_sound) <| gcons service_Service__Op_ent (service_Service__Op_sound F) <| gnil) mixed Tryz.func23 (by kernel_rfl) _
   h
noncomputable def service_Run_L1 {O : Type} (l1 : SA × Nat) : List AV × AH O → Option ((List AV × AH O) ⊕ (List AV × AH O)) := (fun r12 =>
 (AV.asSl (r12.1.getD 0 .u)).bind fun l13 =>
 (AV.asI .i64 (r12.1.getD 1 .u)).bind fun n14 =>
 (bif (decide (n14 < (l1.2 : Int))) then
 none
 else some (Sum.inr ([L l13], r12.2))))
noncomputable def service_Run_c {O : Type} (k17 k22 k23 : Sm O) : Sm O := fun xs σ =>
 bif Nat.beq xs.length 2 then
 (AV.asSl (xs.getD 0 .u)).bind fun l0 =>
 (AV.asSl (xs.getD 1 .u)).bind fun l1 =>
 (k17 [L l0] σ).bind fun r2 =>
 (AV.asTup 2 r2.1).bind fun c3 =>
 (AV.asP (c3.getD 0 .u)).bind fun p4 =>
 I6 c3 1 fun n5 => (bif ((n5 : Int) != 0) then
 none
 else let σ6 := r2.2.bump 1
 (k22 [J 0, L l0] σ6).bind fun r7 =>
 (AV.asAgg 2 r7.1).bind fun c8 =>
 I6 c8 0 fun n9 => Is c8 1 fun l10 => let σ11 := r7.2.put r2.2.next (.cells true 43 [J n9, L l10])
 (loopF (S := List AV × AH O) (T := List AV × AH O) (service_Run_L1 l1) ([(.sl (.loc (.n r2.2.next) 0 2) 1), J 0], σ11)).bind fun r15 =>
 (AV.asSl (r15.1.getD 0 .u)).bind fun l16 =>
 some (L l16, r15.2))
 else none
noncomputable def service_Run {O : Type} (F : Nat) : Sm O := service_Run_c service_New service_said (service_Service__Do F)
theorem service_Run_ent : Entered Tryz.prog 12 := Tryz.call12
theorem service_Run_run {O : Type} (k17 k22 k23 : Sm O) : run (O := O) Tryz.prog [(17, k17), (22, k22), (23, k23)] Tryz.f12 (.n .z (.n .z (.n (.n .z (.n .x .z)) (.n .z (.n (.n .z (.n (.lp false 0 [(7, .one .sl), (25, .one (.i .i64))] [(7, .one .sl)] (.n .z (.n (.n .x .z) (.n (.n .z .z) .z)))) .z)) .z))))) = service_Run_c k17 k22 k23 := by kernel_rfl
theorem service_Run_sound {O : Type} {RO : O → Loc → (Nat → Option Obj) → Prop} (F : Nat) : FSound RO Tryz.prog 12 (service_Run F) :=
   have h : FSound RO Tryz.prog 12 (service_Run_c service_New service_said (service_Service__Do F)) := (service_Run_run service_New service_said (service_Service__Do F)) ▸ run_sound (gcons service_New_ent (service_New_sound) <| gcons service_said_ent (service_said_sound) <| gcons service_Service__Do_ent (service_Service__Do_sound F) <| gnil) mixed Tryz.func12 (by kernel_rfl) _
   h
noncomputable def graph_New_c {O : Type} : Sm O := fun xs σ =>
 bif Nat.beq xs.length 0 then
 let σ0 := σ.bump 2
 let σ1 := σ0.put σ.next (.map [] [] 0)
 let σ2 := σ1.put (σ.next + 1) (.cells true 158 [(.mp (some σ.next)), J 0])
 some ((.p (some ((.n (σ.next + 1)), 0))), σ2)
 else none
noncomputable def graph_New {O : Type} : Sm O := graph_New_c
theorem graph_New_ent : Entered Tryz.prog 30 := Tryz.call30
theorem graph_New_run {O : Type} : run (O := O) Tryz.prog [] Tryz.f30 (.n .z .z) = graph_New_c  := by kernel_rfl
theorem graph_New_sound {O : Type} {RO : O → Loc → (Nat → Option Obj) → Prop} : FSound RO Tryz.prog 30 (graph_New) :=
   have h : FSound RO Tryz.prog 30 (graph_New_c) := (graph_New_run) ▸ run_sound (gnil) mixed Tryz.func30 (by kernel_rfl) _
   h
noncomputable def twin_empty_c {O : Type} : Sm O := fun xs σ =>
 bif Nat.beq xs.length 0 then
 let σ0 := σ.bump 1
 let σ1 := σ0.put σ.next (.cells true 84 [N, (.p none), (.p none)])
 let σ2 := σ1.bump 4
 let σ3 := σ2.put σ1.next (.map [] [] 0)
 let σ4 := σ3.put (σ1.next + 1) (.cells true 161 [N, (.mp (some σ1.next)), N, N])
 let σ5 := σ4.put ((σ1.next + 1) + 1) (.map [] [] 0)
 let σ6 := σ5.put (((σ1.next + 1) + 1) + 1) (.cells true 161 [N, (.mp (some ((σ1.next + 1) + 1))), N, N])
 (σ6.st (.n σ.next) 0 [N, (.p (some ((.n (σ1.next + 1)), 0))), (.p (some ((.n (((σ1.next + 1) + 1) + 1)), 0)))]).bind fun σ7 =>
 (σ7.ld (.n σ.next) 0).bind fun w8 =>
 (AV.asSl w8).bind fun l9 =>
 (σ7.ld (.n σ.next) 1).bind fun w10 =>
 (AV.asP w10).bind fun p11 =>
 (σ7.ld (.n σ.next) 2).bind fun w12 =>
 (AV.asP w12).bind fun p13 =>
 some ((.agg [L l9, (.p p11), (.p p13)]), σ7)
 else none
noncomputable def twin_empty {O : Type} : Sm O := twin_empty_c
theorem twin_empty_ent : Entered Tryz.prog 31 := Tryz.call31
theorem twin_empty_run {O : Type} : run (O := O) Tryz.prog [] Tryz.f31 (.n .z .z) = twin_empty_c  := by kernel_rfl
theorem twin_empty_sound {O : Type} {RO : O → Loc → (Nat → Option Obj) → Prop} : FSound RO Tryz.prog 31 (twin_empty) :=
   have h : FSound RO Tryz.prog 31 (twin_empty_c) := (twin_empty_run) ▸ run_sound (gnil) mixed Tryz.func31 (by kernel_rfl) _
   h
noncomputable def twin_New_p {O : Type} (w : Words O) (k16 k28 k29 k30 k31 k32 k33 : Sm O) : Sm O := fun xs σ =>
 bif Nat.beq xs.length 1 then
 (AV.asSl (xs.getD 0 .u)).bind fun l0 =>
 let σ1 := σ.bump 1
 (k16 [L l0] σ1).bind fun r2 =>
 (AV.asTup 2 r2.1).bind fun c3 =>
 (AV.asAgg 5 (c3.getD 0 .u)).bind fun c4 =>
 I6 c4 0 fun n5 => I6 c4 1 fun n6 => I6 c4 2 fun n7 => I6 c4 3 fun n8 => I6 c4 4 fun n9 => I6 c3 1 fun n10 => let σ11 := r2.2.put σ.next (.cells true 46 [J 0, J 0, J 0, J 0, J 0])
 (σ11.st (.n σ.next) 0 [J n5, J n6, J n7, J n8, J n9]).bind fun σ12 =>
 (bif ((n10 : Int) != 0) then
 none
 else let σ13 := σ12.bump 1
 (σ13.ld (.n σ.next) 0).bind fun w14 =>
 (AV.asI .i64 w14).bind fun n15 =>
 (σ13.ld (.n σ.next) 1).bind fun w16 =>
 (AV.asI .i64 w16).bind fun n17 =>
 (σ13.ld (.n σ.next) 2).bind fun w18 =>
 (AV.asI .i64 w18).bind fun n19 =>
 (σ13.ld (.n σ.next) 3).bind fun w20 =>
 (AV.asI .i64 w20).bind fun n21 =>
 (σ13.ld (.n σ.next) 4).bind fun w22 =>
 (AV.asI .i64 w22).bind fun n23 =>
 (k28 [(.agg [J n15, J n17, J n19, J n21, J n23])] σ13).bind fun r24 =>
 (AV.asTup 2 r24.1).bind fun c25 =>
 (AV.asAgg 8 (c25.getD 0 .u)).bind fun c26 =>
 w.U0 c26 fun n27 n28 n29 n30 n31 n32 n33 n34 =>
 I6 c25 1 fun n35 => let σ36 := r24.2.put σ12.next (.cells true 74 P0)
 (σ36.st (.n σ12.next) 0 (P1 n27 n28 n29 n30 n31 n32 n33 n34)).bind fun σ37 =>
 (σ37.ld (.n σ.next) 3).bind fun w38 =>
 (AV.asI .i64 w38).bind fun n39 =>
 (k29 [J n39] σ37).bind fun r40 =>
 (AV.asTup 2 r40.1).bind fun c41 =>
 (AV.asP (c41.getD 0 .u)).bind fun p42 =>
 I6 c41 1 fun n43 => let σ44 := r40.2.bump 1
 (σ44.ld (.n σ.next) 0).bind fun w45 =>
 (AV.asI .i64 w45).bind fun n46 =>
 (σ44.ld (.n σ.next) 1).bind fun w47 =>
 (AV.asI .i64 w47).bind fun n48 =>
 (σ44.ld (.n σ.next) 2).bind fun w49 =>
 (AV.asI .i64 w49).bind fun n50 =>
 (σ44.ld (.n σ.next) 3).bind fun w51 =>
 (AV.asI .i64 w51).bind fun n52 =>
 (σ44.ld (.n σ.next) 4).bind fun w53 =>
 (AV.asI .i64 w53).bind fun n54 =>
 w.W0 σ44 (.n σ12.next) 0 fun n56 n58 n60 n62 n64 n66 n68 n70 =>
 (k30 [] σ44).bind fun r71 =>
 (AV.asP r71.1).bind fun p72 =>
 (chkE (r71.2.ld (.n σ.next) 0) (some (.i .i64 n46))).bind fun _ =>
 (chkE (r71.2.ld (.n σ.next) 1) (some (.i .i64 n48))).bind fun _ =>
 (chkE (r71.2.ld (.n σ.next) 2) (some (.i .i64 n50))).bind fun _ =>
 (chkE (r71.2.ld (.n σ.next) 3) (some (.i .i64 n52))).bind fun _ =>
 (chkE (r71.2.ld (.n σ.next) 4) (some (.i .i64 n54))).bind fun _ =>
 (chkE (r71.2.ld (.n σ12.next) 0) (some (.i .i64 n56))).bind fun _ =>
 (chkE (r71.2.ld (.n σ12.next) 1) (some (.i .i64 n58))).bind fun _ =>
 (chkE (r71.2.ld (.n σ12.next) 2) (some (.i .i64 n60))).bind fun _ =>
 (chkE (r71.2.ld (.n σ12.next) 3) (some (.i .i64 n62))).bind fun _ =>
 (chkE (r71.2.ld (.n σ12.next) 4) (some (.i .i64 n64))).bind fun _ =>
 (chkE (r71.2.ld (.n σ12.next) 5) (some (.i .i64 n66))).bind fun _ =>
 (chkE (r71.2.ld (.n σ12.next) 6) (some (.i .i64 n68))).bind fun _ =>
 (chkE (r71.2.ld (.n σ12.next) 7) (some (.i .i64 n70))).bind fun _ =>
 (k31 [] r71.2).bind fun r73 =>
 (AV.asAgg 3 r73.1).bind fun c74 =>
 Is c74 0 fun l75 => (AV.asP (c74.getD 1 .u)).bind fun p76 =>
 (AV.asP (c74.getD 2 .u)).bind fun p77 =>
 (chkE (r73.2.ld (.n σ.next) 0) (some (.i .i64 n46))).bind fun _ =>
 (chkE (r73.2.ld (.n σ.next) 1) (some (.i .i64 n48))).bind fun _ =>
 (chkE (r73.2.ld (.n σ.next) 2) (some (.i .i64 n50))).bind fun _ =>
 (chkE (r73.2.ld (.n σ.next) 3) (some (.i .i64 n52))).bind fun _ =>
 (chkE (r73.2.ld (.n σ.next) 4) (some (.i .i64 n54))).bind fun _ =>
 (chkE (r73.2.ld (.n σ12.next) 0) (some (.i .i64 n56))).bind fun _ =>
 (chkE (r73.2.ld (.n σ12.next) 1) (some (.i .i64 n58))).bind fun _ =>
 (chkE (r73.2.ld (.n σ12.next) 2) (some (.i .i64 n60))).bind fun _ =>
 (chkE (r73.2.ld (.n σ12.next) 3) (some (.i .i64 n62))).bind fun _ =>
 (chkE (r73.2.ld (.n σ12.next) 4) (some (.i .i64 n64))).bind fun _ =>
 (chkE (r73.2.ld (.n σ12.next) 5) (some (.i .i64 n66))).bind fun _ =>
 (chkE (r73.2.ld (.n σ12.next) 6) (some (.i .i64 n68))).bind fun _ =>
 (chkE (r73.2.ld (.n σ12.next) 7) (some (.i .i64 n70))).bind fun _ =>
 (k32 [] r73.2).bind fun r78 =>
 (AV.asP r78.1).bind fun p79 =>
 (chkE (r78.2.ld (.n σ.next) 0) (some (.i .i64 n46))).bind fun _ =>
 (chkE (r78.2.ld (.n σ.next) 1) (some (.i .i64 n48))).bind fun _ =>
 (chkE (r78.2.ld (.n σ.next) 2) (some (.i .i64 n50))).bind fun _ =>
 (chkE (r78.2.ld (.n σ.next) 3) (some (.i .i64 n52))).bind fun _ =>
 (chkE (r78.2.ld (.n σ.next) 4) (some (.i .i64 n54))).bind fun _ =>
 (chkE (r78.2.ld (.n σ12.next) 0) (some (.i .i64 n56))).bind fun _ =>
 (chkE (r78.2.ld (.n σ12.next) 1) (some (.i .i64 n58))).bind fun _ =>
 (chkE (r78.2.ld (.n σ12.next) 2) (some (.i .i64 n60))).bind fun _ =>
 (chkE (r78.2.ld (.n σ12.next) 3) (some (.i .i64 n62))).bind fun _ =>
 (chkE (r78.2.ld (.n σ12.next) 4) (some (.i .i64 n64))).bind fun _ =>
 (chkE (r78.2.ld (.n σ12.next) 5) (some (.i .i64 n66))).bind fun _ =>
 (chkE (r78.2.ld (.n σ12.next) 6) (some (.i .i64 n68))).bind fun _ =>
 (chkE (r78.2.ld (.n σ12.next) 7) (some (.i .i64 n70))).bind fun _ =>
 let σ80 := r78.2.put r40.2.next (.cells true 94 [J n46, J n48, J n50, J n52, J n54, (.p p72), J n56, J n58, J n60, J n62, J n64, J n66, J n68, J n70, L l75, (.p p76), (.p p77), (.p p42), (.p p79), J 0, J 0, J 0, J 0, J 0, (.p none), J 0, J 0, J 0, J 0, J 0])
 (k33 [] σ80).bind fun r81 =>
 (AV.asP r81.1).bind fun p82 =>
 (r81.2.st (.n r40.2.next) 24 [(.p p82)]).bind fun σ83 =>
 some ((.tup [(.p (some ((.n r40.2.next), 0))), J 0]), σ83))
 else none
noncomputable def twin_New_c {O : Type} (k16 k28 k29 k30 k31 k32 k33 : Sm O) : Sm O := twin_New_p fastWords k16 k28 k29 k30 k31 k32 k33
noncomputable def twin_New {O : Type} : Sm O := twin_New_c config_From gate_New sites_New graph_New twin_empty survive_New census_New
theorem twin_New_ent : Entered Tryz.prog 18 := Tryz.call18
theorem twin_New_run {O : Type} (k16 k28 k29 k30 k31 k32 k33 : Sm O) : run (O := O) Tryz.prog [(16, k16), (28, k28), (29, k29), (30, k30), (31, k31), (32, k32), (33, k33)] Tryz.f18 (.n .z (.n .z (.n (.n .z (.n .x .z)) (.n .z (.n .z (.n (.d [] [0, 2, 4, 1, 3, 5, 6, 7, 8] [0, 0, 0, 2, 0, 10, 63, 127, 255]) (.n .z .z))))))) = twin_New_c k16 k28 k29 k30 k31 k32 k33 :=
 (show run (O := O) Tryz.prog [(16, k16), (28, k28), (29, k29), (30, k30), (31, k31), (32, k32), (33, k33)] Tryz.f18 (.n .z (.n .z (.n (.n .z (.n .x .z)) (.n .z (.n .z (.n (.d [] [0, 2, 4, 1, 3, 5, 6, 7, 8] [0, 0, 0, 2, 0, 10, 63, 127, 255]) (.n .z .z))))))) = twin_New_p slowWords k16 k28 k29 k30 k31 k32 k33 by kernel_rfl).trans (congrArg (fun w => twin_New_p w k16 k28 k29 k30 k31 k32 k33) words_eq)
theorem twin_New_sound {O : Type} {RO : O → Loc → (Nat → Option Obj) → Prop} : FSound RO Tryz.prog 18 (twin_New) :=
   have h : FSound RO Tryz.prog 18 (twin_New_c config_From gate_New sites_New graph_New twin_empty survive_New census_New) := (twin_New_run config_From gate_New sites_New graph_New twin_empty survive_New census_New) ▸ run_sound (gcons config_From_ent (config_From_sound) <| gcons gate_New_ent (gate_New_sound) <| gcons sites_New_ent (sites_New_sound) <| gcons graph_New_ent (graph_New_sound) <| gcons twin_empty_ent (twin_empty_sound) <| gcons survive_New_ent (survive_New_sound) <| gcons census_New_ent (census_New_sound) <| gnil) mixed Tryz.func18 (by kernel_rfl) _
   h
noncomputable def twin_roots__charge_L1 {O : Type} (l16 : SA × Nat) : List AV × AH O → Option ((List AV × AH O) ⊕ (List AV × AH O)) := (fun r17 =>
 (AV.asI .i64 (r17.1.getD 0 .u)).bind fun n18 =>
 (AV.asI .i64 (r17.1.getD 1 .u)).bind fun n19 =>
 (bif (decide (n19 < (l16.2 : Int))) then
 none
 else some (Sum.inr ([J n18], r17.2))))
noncomputable def twin_roots__charge_c {O : Type} : Sm O := fun xs σ =>
 bif Nat.beq xs.length 1 then
 (AV.asP (xs.getD 0 .u)).bind fun p0 =>
 Option.bind p0 fun q1 =>
 (σ.ld q1.1 (q1.2 + 1)).bind fun w2 =>
 (AV.asP w2).bind fun p3 =>
 Option.bind p3 fun q4 =>
 (σ.ld q4.1 (q4.2 + 2)).bind fun w5 =>
 (AV.asSl w5).bind fun l6 =>
 Option.bind p0 fun q7 =>
 (σ.ld q7.1 (q7.2 + 2)).bind fun w8 =>
 (AV.asP w8).bind fun p9 =>
 Option.bind p9 fun q10 =>
 (σ.ld q10.1 (q10.2 + 2)).bind fun w11 =>
 (AV.asSl w11).bind fun l12 =>
 let v13 : Int := (IntKind.i64.wrap ((l6.2 : Int) + (l12.2 : Int)))
 Option.bind p0 fun q14 =>
 (σ.ld q14.1 q14.2).bind fun w15 =>
 (AV.asSl w15).bind fun l16 =>
 (loopF (S := List AV × AH O) (T := List AV × AH O) (twin_roots__charge_L1 l16) ([(.i .i64 (IntKind.i64.wrap (4 * v13))), J 0], σ)).bind fun r20 =>
 (AV.asI .i64 (r20.1.getD 0 .u)).bind fun n21 =>
 some (J n21, r20.2)
 else none
noncomputable def twin_roots__charge {O : Type} : Sm O := twin_roots__charge_c
theorem twin_roots__charge_ent : Entered Tryz.prog 60 := Tryz.call60
theorem twin_roots__charge_run {O : Type} : run (O := O) Tryz.prog [] Tryz.f60 (.n .z (.n (.d [] [0, 1, 2, 3, 4, 5, 6, 7, 8, 9, 10, 11, 12, 13, 14, 15, 16, 17, 18] [0, 1, 3, 7, 15, 31, 63, 127, 0, 256, 768, 1792, 3840, 7936, 16128, 32512, 65535, 131071, 262143]) (.n (.n .z (.n (.lp false 0 [(3, .one (.i .i64)), (29, .one (.i .i64))] [(3, .one (.i .i64))] (.n .z (.n (.n .x .z) (.n (.n .z .z) .z)))) .z)) .z))) = twin_roots__charge_c  := by kernel_rfl
theorem twin_roots__charge_sound {O : Type} {RO : O → Loc → (Nat → Option Obj) → Prop} : FSound RO Tryz.prog 60 (twin_roots__charge) :=
   have h : FSound RO Tryz.prog 60 (twin_roots__charge_c) := (twin_roots__charge_run) ▸ run_sound (gnil) mixed Tryz.func60 (by kernel_rfl) _
   h
noncomputable def twin_Twin__used_c {O : Type} (k60 : Sm O) : Sm O := fun xs σ =>
 bif Nat.beq xs.length 1 then
 (AV.asP (xs.getD 0 .u)).bind fun p0 =>
 Option.bind p0 fun q1 =>
 (σ.ld q1.1 (q1.2 + 19)).bind fun w2 =>
 (AV.asI .i64 w2).bind fun n3 =>
 Option.bind p0 fun q4 =>
 (k60 [(.p (some (q4.1, (q4.2 + 14))))] σ).bind fun r5 =>
 (AV.asI .i64 r5.1).bind fun n6 =>
 (chkE (r5.2.ld q1.1 (q1.2 + 19)) (some (.i .i64 n3))).bind fun _ =>
 some ((.i .i64 (IntKind.i64.wrap (n3 + n6))), r5.2)
 else none
noncomputable def twin_Twin__used {O : Type} : Sm O := twin_Twin__used_c twin_roots__charge
theorem twin_Twin__used_ent : Entered Tryz.prog 178 := Tryz.call178
theorem twin_Twin__used_run {O : Type} (k60 : Sm O) : run (O := O) Tryz.prog [(60, k60)] Tryz.f178 (.n .z (.n (.d [] [0, 1, 2, 3, 4, 5, 6, 7, 8, 9] [0, 1, 3, 7, 0, 16, 48, 112, 255, 511]) .z)) = twin_Twin__used_c k60 := by kernel_rfl
theorem twin_Twin__used_sound {O : Type} {RO : O → Loc → (Nat → Option Obj) → Prop} : FSound RO Tryz.prog 178 (twin_Twin__used) :=
   have h : FSound RO Tryz.prog 178 (twin_Twin__used_c twin_roots__charge) := (twin_Twin__used_run twin_roots__charge) ▸ run_sound (gcons twin_roots__charge_ent (twin_roots__charge_sound) <| gnil) mixed Tryz.func178 (by kernel_rfl) _
   h
noncomputable def maps_Keys_graph_node__1_c {O : Type} (ky0 : Sm O) : Sm O := fun xs σ =>
 bif Nat.beq xs.length 2 then
 (AV.asF (xs.getD 0 .u)).bind fun f0 =>
 let σ1 := σ.bump 1
 (AV.asPS (xs.getD 1 .u)).bind fun q2 =>
 (σ1.ld q2.1 q2.2).bind fun w3 =>
 (AV.asMp w3).bind fun m4 =>
 (rangeM σ1 (.mp m4)).bind fun q5 =>
 let σ6 := σ1.put σ.next (.iter q5.1 [] q5.2.1 q5.2.2)
 (itOf σ6 (.p (some ((.n σ.next), 0)))).bind fun q7 =>
 (itOK σ6 q7.1 q7.2.1 [] q7.2.2.1 q7.2.2.2).bind fun _ =>
 (foldAny (S := List AV × AH O) (fun i8 dn9 r10 =>
 let σ11 := r10.2.put q7.1 (.iter q7.2.1 (dn9 ++ [i8]) q7.2.2.1 q7.2.2.2)
 (entA σ11 (.p (some ((.n σ.next), 0)))).bind fun q12 =>
 (AV.asI .i64 q12.1).bind fun n13 =>
 (callV [(1000000, ky0)] f0 [J n13] σ11).bind fun r14 =>
 (AV.asB r14.1).bind fun b15 =>
 (bif (!b15) then
 none
 else none)) q7.2.2.1.length ([], σ6)).bind fun r16 =>
 let σ17 := r16.2.kill q7.1
 some ((.tup []), σ17)
 else none
noncomputable def maps_Keys_graph_node__1 {O : Type} (ky0 : Sm O) : Sm O := maps_Keys_graph_node__1_c ky0
theorem maps_Keys_graph_node__1_ent : Entered Tryz.prog 274 := Tryz.call274
theorem maps_Keys_graph_node__1_run {O : Type} (ky0 : Sm O) : run (O := O) Tryz.prog [(1000000, ky0)] Tryz.f274 (.n .z (.n (.lm [] (.n (.n .z (.n .z (.n .x .x))) .z)) .z)) = maps_Keys_graph_node__1_c ky0 := by kernel_rfl
theorem maps_Keys_graph_node__1_sound {O : Type} {RO : O → Loc → (Nat → Option Obj) → Prop} {ky0 : Sm O} (hy : YSound RO Tryz.prog ky0) : FSound RO Tryz.prog 274 (maps_Keys_graph_node__1 ky0) :=
   have h : FSound RO Tryz.prog 274 (maps_Keys_graph_node__1_c ky0) := (maps_Keys_graph_node__1_run ky0) ▸ run_sound (gyld hy <| gnil) mixed Tryz.func274 (by kernel_rfl) _
   h
noncomputable def maps_Keys_graph_node__c {O : Type} : Sm O := fun xs σ =>
 bif Nat.beq xs.length 1 then
 (AV.asMp (xs.getD 0 .u)).bind fun m0 =>
 let σ1 := σ.bump 1
 let σ2 := σ1.put σ.next (.cells true 156 [(.mp m0)])
 some ((.fn (some (.func 274, [], [(.p (some ((.n σ.next), 0)))]))), σ2)
 else none
noncomputable def maps_Keys_graph_node_ {O : Type} : Sm O := maps_Keys_graph_node__c
theorem maps_Keys_graph_node__ent : Entered Tryz.prog 190 := Tryz.call190
theorem maps_Keys_graph_node__run {O : Type} : run (O := O) Tryz.prog [] Tryz.f190 (.n .z .z) = maps_Keys_graph_node__c  := by kernel_rfl
theorem maps_Keys_graph_node__sound {O : Type} {RO : O → Loc → (Nat → Option Obj) → Prop} : FSound RO Tryz.prog 190 (maps_Keys_graph_node_) :=
   have h : FSound RO Tryz.prog 190 (maps_Keys_graph_node__c) := (maps_Keys_graph_node__run) ▸ run_sound (gnil) mixed Tryz.func190 (by kernel_rfl) _
   h
noncomputable def slices_AppendSeq___int_int__R0_c {O : Type} : Sm O := roundW 319000 1 fun env0 ys0 blk0 σ =>
 (AV.asP (env0 2)).bind fun p0 =>
 (AV.asI .i64 (ys0.getD 0 .u)).bind fun n1 =>
 (busyL σ blk0).bind fun σ2 =>
 let σ3 := σ2.bump 2
 Option.bind p0 fun q4 =>
 (σ3.ld q4.1 q4.2).bind fun w5 =>
 (AV.asSl w5).bind fun l6 =>
 let σ7 := σ3.put σ2.next (.cells true 3 [J n1])
 (σ7.rdSl (.loc (.n σ2.next) 0 1) 1 1).bind fun new8 =>
 (bif (Nat.ble ((l6.2 + 1) * 9) 35184372088832) then
 (σ7.appSl (σ2.next + 1) 3 1 l6.1 l6.2 1 new8).bind fun r9 =>
 (AV.asSl r9.1).bind fun l10 =>
 Option.bind p0 fun q11 =>
 (r9.2.st q11.1 q11.2 [L l10]).bind fun σ12 =>
 (markL σ12 blk0 .ready).bind fun σ => some (.b true, σ)
 else none)
noncomputable def slices_AppendSeq___int_int__R0 {O : Type} : Sm O := slices_AppendSeq___int_int__R0_c
theorem slices_AppendSeq___int_int__R0_run {O : Type} : roundAt (O := O) Tryz.prog [] 319 Tryz.f319 0 [(2, .one .p)] [(7, .one (.i .i64))] (.n .z .z) = slices_AppendSeq___int_int__R0_c  := by kernel_rfl
theorem slices_AppendSeq___int_int__R0_sound {O : Type} {RO : O → Loc → (Nat → Option Obj) → Prop} : YSound RO Tryz.prog (slices_AppendSeq___int_int__R0) :=
   have h : YSound RO Tryz.prog (slices_AppendSeq___int_int__R0_c) := (slices_AppendSeq___int_int__R0_run) ▸ roundAt_sound (gnil) mixed Tryz.func319 _ _ _ _
   h
noncomputable def slices_AppendSeq___int_int__c {O : Type} (kr274 : Sm O) : Sm O := fun xs σ =>
 bif Nat.beq xs.length 2 then
 (AV.asSl (xs.getD 0 .u)).bind fun l0 =>
 (AV.asF (xs.getD 1 .u)).bind fun f1 =>
 let σ2 := σ.bump 1
 let σ3 := σ2.put σ.next (.cells true 29 [L l0])
 (rangeV [(2000274, kr274)] f1 319000 [(2, (.p (some ((.n σ.next), 0))))] σ3).bind fun r4 =>
 (lstN r4.2 σ3.next).bind fun st5 =>
 let σ6 := r4.2.kill σ3.next
 (bif Nat.beq st5 0 then
 (σ6.ld (.n σ.next) 0).bind fun w7 =>
 (AV.asSl w7).bind fun l8 =>
 some (L l8, σ6)
 else none)
 else none
noncomputable def slices_AppendSeq___int_int_ {O : Type} : Sm O := slices_AppendSeq___int_int__c (maps_Keys_graph_node__1 (slices_AppendSeq___int_int__R0))
theorem slices_AppendSeq___int_int__ent : Entered Tryz.prog 319 := Tryz.call319
theorem slices_AppendSeq___int_int__run {O : Type} (kr274 : Sm O) : run (O := O) Tryz.prog [(2000274, kr274)] Tryz.f319 (.n .z (.n (.n .z (.n (.rf 319000 [2] []) .z)) .z)) = slices_AppendSeq___int_int__c kr274 := by kernel_rfl
theorem slices_AppendSeq___int_int__sound {O : Type} {RO : O → Loc → (Nat → Option Obj) → Prop} : FSound RO Tryz.prog 319 (slices_AppendSeq___int_int_) :=
   have h : FSound RO Tryz.prog 319 (slices_AppendSeq___int_int__c (maps_Keys_graph_node__1 (slices_AppendSeq___int_int__R0))) := (slices_AppendSeq___int_int__run (maps_Keys_graph_node__1 (slices_AppendSeq___int_int__R0))) ▸ run_soundR (grf (c := 274) maps_Keys_graph_node__1_ent (maps_Keys_graph_node__1_sound (slices_AppendSeq___int_int__R0_sound)) <| gnil) mixed Tryz.func319 (by kernel_rfl) _ (by kernel_rfl)
   h
noncomputable def slices_Collect_int__c {O : Type} (k319 : Sm O) : Sm O := fun xs σ =>
 bif Nat.beq xs.length 1 then
 (AV.asF (xs.getD 0 .u)).bind fun f0 =>
 (k319 [N, (.fn f0)] σ).bind fun r1 =>
 (AV.asSl r1.1).bind fun l2 =>
 some (L l2, r1.2)
 else none
noncomputable def slices_Collect_int_ {O : Type} : Sm O := slices_Collect_int__c slices_AppendSeq___int_int_
theorem slices_Collect_int__ent : Entered Tryz.prog 272 := Tryz.call272
theorem slices_Collect_int__run {O : Type} (k319 : Sm O) : run (O := O) Tryz.prog [(319, k319)] Tryz.f272 (.n .z .z) = slices_Collect_int__c k319 := by kernel_rfl
theorem slices_Collect_int__sound {O : Type} {RO : O → Loc → (Nat → Option Obj) → Prop} : FSound RO Tryz.prog 272 (slices_Collect_int_) :=
   have h : FSound RO Tryz.prog 272 (slices_Collect_int__c slices_AppendSeq___int_int_) := (slices_Collect_int__run slices_AppendSeq___int_int_) ▸ run_sound (gcons slices_AppendSeq___int_int__ent (slices_AppendSeq___int_int__sound) <| gnil) mixed Tryz.func272 (by kernel_rfl) _
   h
noncomputable def slices_insertionSortOrdered_int__L1 {O : Type} (n2 : Int) : List AV × AH O → Option ((List AV × AH O) ⊕ (List AV × AH O)) := (fun r3 =>
 (AV.asI .i64 (r3.1.getD 0 .u)).bind fun n4 =>
 (bif (decide (n4 < n2)) then
 none
 else some (Sum.inr ([], r3.2))))
noncomputable def slices_insertionSortOrdered_int__c {O : Type} : Sm O := fun xs σ =>
 bif Nat.beq xs.length 3 then
 (AV.asSl (xs.getD 0 .u)).bind fun l0 =>
 (AV.asI .i64 (xs.getD 1 .u)).bind fun n1 =>
 (AV.asI .i64 (xs.getD 2 .u)).bind fun n2 =>
 (loopF (S := List AV × AH O) (T := List AV × AH O) (slices_insertionSortOrdered_int__L1 n2) ([(.i .i64 (IntKind.i64.wrap (n1 + 1)))], σ)).bind fun r5 =>
 some ((.tup []), r5.2)
 else none
noncomputable def slices_insertionSortOrdered_int_ {O : Type} : Sm O := slices_insertionSortOrdered_int__c
theorem slices_insertionSortOrdered_int__ent : Entered Tryz.prog 372 := Tryz.call372
theorem slices_insertionSortOrdered_int__run {O : Type} : run (O := O) Tryz.prog [] Tryz.f372 (.n .z (.n (.lp false 0 [(6, .one (.i .i64))] [] (.n (.n .z (.n .x .z)) (.n (.n (.n .z (.n (.lp false 1000000 [(7, .one (.i .i64))] [] (.n (.n (.d [(3, 10, [(30, .one .b)])] [0, 1, 2, 3, 4, 5, 6, 7, 8, 9, 10, 11, 12, 13, 14] [0, 0, 3, 7, 15, 15, 63, 127, 15, 15, 527, 1807, 3855, 8191, 16383]) (.n .x .x)) (.n (.n (.d [] [0, 1, 2, 3, 4, 5, 6, 7, 8, 9, 10, 11, 12, 13, 14, 15, 16, 17] [0, 0, 0, 0, 8, 0, 0, 64, 224, 480, 0, 0, 3072, 7168, 16355, 32739, 65535, 131071]) .z) .z))) .z)) .z) .z))) .z)) = slices_insertionSortOrdered_int__c  := by kernel_rfl
theorem slices_insertionSortOrdered_int__sound {O : Type} {RO : O → Loc → (Nat → Option Obj) → Prop} : FSound RO Tryz.prog 372 (slices_insertionSortOrdered_int_) :=
   have h : FSound RO Tryz.prog 372 (slices_insertionSortOrdered_int__c) := (slices_insertionSortOrdered_int__run) ▸ run_sound (gnil) mixed Tryz.func372 (by kernel_rfl) _
   h
noncomputable def slices_pdqsortOrdered_int__L1 {O : Type} (k372 : Sm O) (l0 : SA × Nat) : List AV × AH O → Option ((List AV × AH O) ⊕ ((List AV × AH O) ⊕ (AV × AH O))) := (fun r4 =>
 (AV.asI .i64 (r4.1.getD 0 .u)).bind fun n5 =>
 (AV.asI .i64 (r4.1.getD 1 .u)).bind fun n6 =>
 (bif (decide ((IntKind.i64.wrap (n6 - n5)) ≤ 12)) then
 (k372 [L l0, J n5, J n6] r4.2).bind fun r7 =>
 (AV.asTup 0 r7.1).bind fun c8 =>
 ((some ((.tup []), r7.2) : Option (AV × AH O)).map fun r => Sum.inr (Sum.inr r))
 else none))
noncomputable def slices_pdqsortOrdered_int__c {O : Type} (k372 k320 : Sm O) : Sm O := fun xs σ =>
 bif Nat.beq xs.length 4 then
 (AV.asSl (xs.getD 0 .u)).bind fun l0 =>
 (AV.asI .i64 (xs.getD 1 .u)).bind fun n1 =>
 (AV.asI .i64 (xs.getD 2 .u)).bind fun n2 =>
 (AV.asI .i64 (xs.getD 3 .u)).bind fun n3 =>
 bindS (S := List AV × AH O) (R := (AV × AH O)) (loopF (S := List AV × AH O) (T := (List AV × AH O) ⊕ (AV × AH O)) (slices_pdqsortOrdered_int__L1 k372 l0) ([J n1, J n2], σ)) fun r9 =>
 none
 else none
noncomputable def slices_pdqsortOrdered_int_ {O : Type} (F : Nat) : Sm O := Nat.rec (motive := fun _ => Sm O) (fun _ _ => none) (fun F self => slices_pdqsortOrdered_int__c slices_insertionSortOrdered_int_ self) F
theorem slices_pdqsortOrdered_int__ent : Entered Tryz.prog 320 := Tryz.call320
theorem slices_pdqsortOrdered_int__run {O : Type} (k372 k320 : Sm O) : run (O := O) Tryz.prog [(372, k372), (320, k320)] Tryz.f320 (.n .z (.n .z (.n (.lp true 1000000 [(1, .one (.i .i64)), (2, .one (.i .i64))] [] (.n (.n .z (.n (.n .z (.n .z .x)) (.n (.n .z (.n .x .x)) (.n (.n .z (.n .x .x)) (.n .z (.n (.n .z (.n .x .x)) (.n (.n (.g [(1, 1, [(64, .one .b)]), (4, 2, [(68, .one .b)])]) (.n .x .x)) (.n (.n (.d [(2, 11, [(87, .one .b)])] [0, 1, 2, 3, 4, 5, 6, 7, 8, 9, 10, 11, 12, 13, 14] [0, 1, 3, 7, 7, 23, 63, 127, 7, 7, 775, 1799, 4095, 8191, 16383]) (.n .x .x)) (.n .z (.n .z (.n .z (.n .z (.n .z (.n .x .x)))))))))))))) .z)) .z))) = slices_pdqsortOrdered_int__c k372 k320 := by kernel_rfl
theorem slices_pdqsortOrdered_int__sound {O : Type} {RO : O → Loc → (Nat → Option Obj) → Prop} (F : Nat) : FSound RO Tryz.prog 320 (slices_pdqsortOrdered_int_ F) := by
   induction F with
   | zero => exact fun xs σ v σ' h => by cases (show (none : Option (AV × AH O)) = some _ from h)
   | succ F ih =>
     have h : FSound RO Tryz.prog 320 (slices_pdqsortOrdered_int__c slices_insertionSortOrdered_int_ (slices_pdqsortOrdered_int_ F)) := (slices_pdqsortOrdered_int__run slices_insertionSortOrdered_int_ (slices_pdqsortOrdered_int_ F)) ▸ run_sound (gcons slices_insertionSortOrdered_int__ent (slices_insertionSortOrdered_int__sound) <| gcons slices_pdqsortOrdered_int__ent ih <| gnil) mixed Tryz.func320 (by kernel_rfl) _
     exact h
noncomputable def slices_Sort___int_int__c {O : Type} (k315 k320 : Sm O) : Sm O := fun xs σ =>
 bif Nat.beq xs.length 1 then
 (AV.asSl (xs.getD 0 .u)).bind fun l0 =>
 (k315 [(.i .u64 (IntKind.u64.wrap (l0.2 : Int)))] σ).bind fun r1 =>
 (AV.asI .i64 r1.1).bind fun n2 =>
 (k320 [L l0, J 0, (.i .i64 (l0.2 : Int)), J n2] r1.2).bind fun r3 =>
 (AV.asTup 0 r3.1).bind fun c4 =>
 some ((.tup []), r3.2)
 else none
noncomputable def slices_Sort___int_int_ {O : Type} (F : Nat) : Sm O := slices_Sort___int_int__c bits_Len (slices_pdqsortOrdered_int_ F)
theorem slices_Sort___int_int__ent : Entered Tryz.prog 273 := Tryz.call273
theorem slices_Sort___int_int__run {O : Type} (k315 k320 : Sm O) : run (O := O) Tryz.prog [(315, k315), (320, k320)] Tryz.f273 .z = slices_Sort___int_int__c k315 k320 := by kernel_rfl
theorem slices_Sort___int_int__sound {O : Type} {RO : O → Loc → (Nat → Option Obj) → Prop} (F : Nat) : FSound RO Tryz.prog 273 (slices_Sort___int_int_ F) :=
   have h : FSound RO Tryz.prog 273 (slices_Sort___int_int__c bits_Len (slices_pdqsortOrdered_int_ F)) := (slices_Sort___int_int__run bits_Len (slices_pdqsortOrdered_int_ F)) ▸ run_sound (gcons bits_Len_ent (bits_Len_sound) <| gcons slices_pdqsortOrdered_int__ent (slices_pdqsortOrdered_int__sound F) <| gnil) mixed Tryz.func273 (by kernel_rfl) _
   h
noncomputable def slices_Sorted_int__c {O : Type} (k272 k273 : Sm O) : Sm O := fun xs σ =>
 bif Nat.beq xs.length 1 then
 (AV.asF (xs.getD 0 .u)).bind fun f0 =>
 (k272 [(.fn f0)] σ).bind fun r1 =>
 (AV.asSl r1.1).bind fun l2 =>
 (k273 [L l2] r1.2).bind fun r3 =>
 (AV.asTup 0 r3.1).bind fun c4 =>
 some (L l2, r3.2)
 else none
noncomputable def slices_Sorted_int_ {O : Type} (F : Nat) : Sm O := slices_Sorted_int__c slices_Collect_int_ (slices_Sort___int_int_ F)
theorem slices_Sorted_int__ent : Entered Tryz.prog 189 := Tryz.call189
theorem slices_Sorted_int__run {O : Type} (k272 k273 : Sm O) : run (O := O) Tryz.prog [(272, k272), (273, k273)] Tryz.f189 (.n .z (.n .z (.n .z .z))) = slices_Sorted_int__c k272 k273 := by kernel_rfl
theorem slices_Sorted_int__sound {O : Type} {RO : O → Loc → (Nat → Option Obj) → Prop} (F : Nat) : FSound RO Tryz.prog 189 (slices_Sorted_int_ F) :=
   have h : FSound RO Tryz.prog 189 (slices_Sorted_int__c slices_Collect_int_ (slices_Sort___int_int_ F)) := (slices_Sorted_int__run slices_Collect_int_ (slices_Sort___int_int_ F)) ▸ run_sound (gcons slices_Collect_int__ent (slices_Collect_int__sound) <| gcons slices_Sort___int_int__ent (slices_Sort___int_int__sound F) <| gnil) mixed Tryz.func189 (by kernel_rfl) _
   h
noncomputable def graph_Graph__Ids_c {O : Type} (k190 k189 : Sm O) : Sm O := fun xs σ =>
 bif Nat.beq xs.length 1 then
 (AV.asP (xs.getD 0 .u)).bind fun p0 =>
 Option.bind p0 fun q1 =>
 (σ.ld q1.1 q1.2).bind fun w2 =>
 (AV.asMp w2).bind fun m3 =>
 (k190 [(.mp m3)] σ).bind fun r4 =>
 (AV.asF r4.1).bind fun f5 =>
 (k189 [(.fn f5)] r4.2).bind fun r6 =>
 (AV.asSl r6.1).bind fun l7 =>
 some (L l7, r6.2)
 else none
noncomputable def graph_Graph__Ids {O : Type} (F : Nat) : Sm O := graph_Graph__Ids_c maps_Keys_graph_node_ (slices_Sorted_int_ F)
theorem graph_Graph__Ids_ent : Entered Tryz.prog 104 := Tryz.call104
theorem graph_Graph__Ids_run {O : Type} (k190 k189 : Sm O) : run (O := O) Tryz.prog [(190, k190), (189, k189)] Tryz.f104 (.n .z .z) = graph_Graph__Ids_c k190 k189 := by kernel_rfl
theorem graph_Graph__Ids_sound {O : Type} {RO : O → Loc → (Nat → Option Obj) → Prop} (F : Nat) : FSound RO Tryz.prog 104 (graph_Graph__Ids F) :=
   have h : FSound RO Tryz.prog 104 (graph_Graph__Ids_c maps_Keys_graph_node_ (slices_Sorted_int_ F)) := (graph_Graph__Ids_run maps_Keys_graph_node_ (slices_Sorted_int_ F)) ▸ run_sound (gcons maps_Keys_graph_node__ent (maps_Keys_graph_node__sound) <| gcons slices_Sorted_int__ent (slices_Sorted_int__sound F) <| gnil) mixed Tryz.func104 (by kernel_rfl) _
   h
noncomputable def slices_Backward_____int___int__1_L1 {O : Type}  : List AV × AH O → Option ((List AV × AH O) ⊕ (List AV × AH O)) := (fun r4 =>
 (AV.asI .i64 (r4.1.getD 0 .u)).bind fun n5 =>
 (bif (decide (n5 ≥ 0)) then
 none
 else some (Sum.inr ([], r4.2))))
noncomputable def slices_Backward_____int___int__1_c {O : Type} (ky0 : Sm O) : Sm O := fun xs σ =>
 bif Nat.beq xs.length 2 then
 (AV.asF (xs.getD 0 .u)).bind fun f0 =>
 (AV.asPS (xs.getD 1 .u)).bind fun q1 =>
 (σ.ld q1.1 q1.2).bind fun w2 =>
 (AV.asSl w2).bind fun l3 =>
 (loopF (S := List AV × AH O) (T := List AV × AH O) (slices_Backward_____int___int__1_L1) ([(.i .i64 (IntKind.i64.wrap ((l3.2 : Int) - 1)))], σ)).bind fun r6 =>
 some ((.tup []), r6.2)
 else none
noncomputable def slices_Backward_____int___int__1 {O : Type} (ky0 : Sm O) : Sm O := slices_Backward_____int___int__1_c ky0
theorem slices_Backward_____int___int__1_ent : Entered Tryz.prog 275 := Tryz.call275
theorem slices_Backward_____int___int__1_run {O : Type} (ky0 : Sm O) : run (O := O) Tryz.prog [(1000000, ky0)] Tryz.f275 (.n .z (.n (.lp false 0 [(3, .one (.i .i64))] [] (.n (.n .z (.n .x .z)) (.n (.n (.n .z (.n .x .x)) .z) .z))) .z)) = slices_Backward_____int___int__1_c ky0 := by kernel_rfl
theorem slices_Backward_____int___int__1_sound {O : Type} {RO : O → Loc → (Nat → Option Obj) → Prop} {ky0 : Sm O} (hy : YSound RO Tryz.prog ky0) : FSound RO Tryz.prog 275 (slices_Backward_____int___int__1 ky0) :=
   have h : FSound RO Tryz.prog 275 (slices_Backward_____int___int__1_c ky0) := (slices_Backward_____int___int__1_run ky0) ▸ run_sound (gyld hy <| gnil) mixed Tryz.func275 (by kernel_rfl) _
   h
noncomputable def slices_Backward_____int___int__c {O : Type} : Sm O := fun xs σ =>
 bif Nat.beq xs.length 1 then
 (AV.asSl (xs.getD 0 .u)).bind fun l0 =>
 let σ1 := σ.bump 1
 let σ2 := σ1.put σ.next (.cells true 27 [L l0])
 some ((.fn (some (.func 275, [], [(.p (some ((.n σ.next), 0)))]))), σ2)
 else none
noncomputable def slices_Backward_____int___int_ {O : Type} : Sm O := slices_Backward_____int___int__c
theorem slices_Backward_____int___int__ent : Entered Tryz.prog 191 := Tryz.call191
theorem slices_Backward_____int___int__run {O : Type} : run (O := O) Tryz.prog [] Tryz.f191 (.n .z .z) = slices_Backward_____int___int__c  := by kernel_rfl
theorem slices_Backward_____int___int__sound {O : Type} {RO : O → Loc → (Nat → Option Obj) → Prop} : FSound RO Tryz.prog 191 (slices_Backward_____int___int_) :=
   have h : FSound RO Tryz.prog 191 (slices_Backward_____int___int__c) := (slices_Backward_____int___int__run) ▸ run_sound (gnil) mixed Tryz.func191 (by kernel_rfl) _
   h
noncomputable def twin_roots__all_1_c {O : Type} : Sm O := fun xs σ =>
 bif Nat.beq xs.length 1 then
 (AV.asI .i64 (xs.getD 0 .u)).bind fun n0 =>
 some ((.b ((n0 : Int) == 0)), σ)
 else none
noncomputable def twin_roots__all_1 {O : Type} : Sm O := twin_roots__all_1_c
theorem twin_roots__all_1_ent : Entered Tryz.prog 192 := Tryz.call192
theorem twin_roots__all_1_run {O : Type} : run (O := O) Tryz.prog [] Tryz.f192 (.n .z .z) = twin_roots__all_1_c  := by kernel_rfl
theorem twin_roots__all_1_sound {O : Type} {RO : O → Loc → (Nat → Option Obj) → Prop} : FSound RO Tryz.prog 192 (twin_roots__all_1) :=
   have h : FSound RO Tryz.prog 192 (twin_roots__all_1_c) := (twin_roots__all_1_run) ▸ run_sound (gnil) mixed Tryz.func192 (by kernel_rfl) _
   h
noncomputable def slices_IndexFunc___int_int__L1 {O : Type} (l0 : SA × Nat) (k192 : Sm O) (f1 : Option (Fn × List AV × List AV)) : List AV × AH O → Option ((List AV × AH O) ⊕ ((List AV × AH O) ⊕ (AV × AH O))) := (fun r2 =>
 (AV.asI .i64 (r2.1.getD 0 .u)).bind fun n3 =>
 (bif (decide (n3 < (l0.2 : Int))) then
 (bif ((decide ((0 : Int) ≤ n3)) && (decide (n3 < (l0.2 : Int)))) then
 (SA.ref l0.1).bind fun q4 =>
 (r2.2.ld q4.1 (q4.2 + (n3.toNat * 1))).bind fun w5 =>
 (AV.asI .i64 w5).bind fun n6 =>
 (callV [(192, k192)] f1 [J n6] r2.2).bind fun r7 =>
 (AV.asB r7.1).bind fun b8 =>
 (bif b8 then
 ((some (J n3, r7.2) : Option (AV × AH O)).map fun r => Sum.inr (Sum.inr r))
 else none)
 else none)
 else some (Sum.inr (Sum.inl ([], r2.2)))))
noncomputable def slices_IndexFunc___int_int__c {O : Type} (k192 : Sm O) : Sm O := fun xs σ =>
 bif Nat.beq xs.length 2 then
 (AV.asSl (xs.getD 0 .u)).bind fun l0 =>
 (AV.asF (xs.getD 1 .u)).bind fun f1 =>
 bindS (S := List AV × AH O) (R := (AV × AH O)) (loopF (S := List AV × AH O) (T := (List AV × AH O) ⊕ (AV × AH O)) (slices_IndexFunc___int_int__L1 l0 k192 f1) ([J 0], σ)) fun r9 =>
 some ((.i .i64 (-1)), r9.2)
 else none
noncomputable def slices_IndexFunc___int_int_ {O : Type} : Sm O := slices_IndexFunc___int_int__c twin_roots__all_1
theorem slices_IndexFunc___int_int__ent : Entered Tryz.prog 253 := Tryz.call253
theorem slices_IndexFunc___int_int__run {O : Type} (k192 : Sm O) : run (O := O) Tryz.prog [(192, k192)] Tryz.f253 (.n .z (.n (.n .z (.n (.lp true 0 [(8, .one (.i .i64))] [] (.n .z (.n .z (.n (.n (.n .z (.n .z (.n .z .x))) .z) .z)))) .z)) .z)) = slices_IndexFunc___int_int__c k192 := by kernel_rfl
theorem slices_IndexFunc___int_int__sound {O : Type} {RO : O → Loc → (Nat → Option Obj) → Prop} : FSound RO Tryz.prog 253 (slices_IndexFunc___int_int_) :=
   have h : FSound RO Tryz.prog 253 (slices_IndexFunc___int_int__c twin_roots__all_1) := (slices_IndexFunc___int_int__run twin_roots__all_1) ▸ run_sound (gcons twin_roots__all_1_ent (twin_roots__all_1_sound) <| gnil) mixed Tryz.func253 (by kernel_rfl) _
   h
noncomputable def slices_DeleteFunc___int_int__L1 {O : Type} (l0 : SA × Nat) : List AV × AH O → Option ((List AV × AH O) ⊕ (List AV × AH O)) := (fun r4 =>
 (AV.asI .i64 (r4.1.getD 0 .u)).bind fun n5 =>
 (AV.asI .i64 (r4.1.getD 1 .u)).bind fun n6 =>
 (bif (decide (n6 < (l0.2 : Int))) then
 none
 else some (Sum.inr ([J n5], r4.2))))
noncomputable def slices_DeleteFunc___int_int__c {O : Type} (k253 k192 : Sm O) : Sm O := fun xs σ =>
 bif Nat.beq xs.length 2 then
 (AV.asSl (xs.getD 0 .u)).bind fun l0 =>
 (AV.asF (xs.getD 1 .u)).bind fun f1 =>
 (k253 [L l0, (.fn f1)] σ).bind fun r2 =>
 (AV.asI .i64 r2.1).bind fun n3 =>
 (bif ((n3 : Int) == (-1)) then
 some (L l0, r2.2)
 else (loopF (S := List AV × AH O) (T := List AV × AH O) (slices_DeleteFunc___int_int__L1 l0) ([J n3, (.i .i64 (IntKind.i64.wrap (n3 + 1)))], r2.2)).bind fun r7 =>
 (AV.asI .i64 (r7.1.getD 0 .u)).bind fun n8 =>
 (bif (((decide ((0 : Int) ≤ n8)) && (decide (n8 ≤ (l0.2 : Int)))) && (decide ((l0.2 : Int) ≤ (l0.2 : Int)))) then
 (SA.adv l0.1 n8.toNat 1).bind fun a9 =>
 (bif Nat.beq ((l0.2 : Int).toNat - n8.toNat) 0 then
 (bif ((decide ((0 : Int) ≤ n8)) && (decide (n8 ≤ (l0.2 : Int)))) then
 (SA.adv l0.1 0 1).bind fun a11 =>
 some ((.sl a11 (n8.toNat - 0)), r7.2)
 else none)
 else
 (r7.2.wrSl a9 ((List.replicate ((l0.2 : Int).toNat - n8.toNat) [J 0]).flatten)).bind fun σ10 =>
 (bif ((decide ((0 : Int) ≤ n8)) && (decide (n8 ≤ (l0.2 : Int)))) then
 (SA.adv l0.1 0 1).bind fun a12 =>
 some ((.sl a12 (n8.toNat - 0)), σ10)
 else none))
 else none))
 else none
noncomputable def slices_DeleteFunc___int_int_ {O : Type} : Sm O := slices_DeleteFunc___int_int__c slices_IndexFunc___int_int_ twin_roots__all_1
theorem slices_DeleteFunc___int_int__ent : Entered Tryz.prog 169 := Tryz.call169
theorem slices_DeleteFunc___int_int__run {O : Type} (k253 k192 : Sm O) : run (O := O) Tryz.prog [(253, k253), (192, k192)] Tryz.f169 (.n .z (.n .z (.n (.n .z (.n .z .z)) (.n (.n .z (.n (.lp false 0 [(5, .one (.i .i64)), (6, .one (.i .i64))] [(5, .one (.i .i64))] (.n (.n .z (.n .x .z)) (.n (.n (.n .z (.n .z (.n .x .x))) .z) .z))) .z)) (.n .z .z))))) = slices_DeleteFunc___int_int__c k253 k192 := by kernel_rfl
theorem slices_DeleteFunc___int_int__sound {O : Type} {RO : O → Loc → (Nat → Option Obj) → Prop} : FSound RO Tryz.prog 169 (slices_DeleteFunc___int_int_) :=
   have h : FSound RO Tryz.prog 169 (slices_DeleteFunc___int_int__c slices_IndexFunc___int_int_ twin_roots__all_1) := (slices_DeleteFunc___int_int__run slices_IndexFunc___int_int_ twin_roots__all_1) ▸ run_sound (gcons slices_IndexFunc___int_int__ent (slices_IndexFunc___int_int__sound) <| gcons twin_roots__all_1_ent (twin_roots__all_1_sound) <| gnil) mixed Tryz.func169 (by kernel_rfl) _
   h
noncomputable def twin_roots__all_R0_c {O : Type} : Sm O := roundW 105000 2 fun env0 ys0 blk0 σ =>
 (AV.asP (env0 3)).bind fun p0 =>
 (AV.asI .i64 (ys0.getD 0 .u)).bind fun n1 =>
 (AV.asSl (ys0.getD 1 .u)).bind fun l2 =>
 (busyL σ blk0).bind fun σ3 =>
 let σ4 := σ3.bump 1
 Option.bind p0 fun q5 =>
 (σ4.ld q5.1 q5.2).bind fun w6 =>
 (AV.asSl w6).bind fun l7 =>
 (σ4.rdSl l2.1 l2.2 1).bind fun new8 =>
 (bif (Nat.ble ((l7.2 + l2.2) * 9) 35184372088832) then
 (σ4.appSl σ3.next 3 1 l7.1 l7.2 l2.2 new8).bind fun r9 =>
 (AV.asSl r9.1).bind fun l10 =>
 Option.bind p0 fun q11 =>
 (r9.2.st q11.1 q11.2 [L l10]).bind fun σ12 =>
 (markL σ12 blk0 .ready).bind fun σ => some (.b true, σ)
 else none)
noncomputable def twin_roots__all_R0 {O : Type} : Sm O := twin_roots__all_R0_c
theorem twin_roots__all_R0_run {O : Type} : roundAt (O := O) Tryz.prog [] 105 Tryz.f105 0 [(3, .one .p)] [(13, .one (.i .i64)), (14, .one .sl)] (.n .z .z) = twin_roots__all_R0_c  := by kernel_rfl
theorem twin_roots__all_R0_sound {O : Type} {RO : O → Loc → (Nat → Option Obj) → Prop} : YSound RO Tryz.prog (twin_roots__all_R0) :=
   have h : YSound RO Tryz.prog (twin_roots__all_R0_c) := (twin_roots__all_R0_run) ▸ roundAt_sound (gnil) mixed Tryz.func105 _ _ _ _
   h
noncomputable def twin_roots__all_L1 {O : Type} (l16 : SA × Nat) (σ : AH O) (p0 : Option (Bid × Nat)) : List AV × AH O → Option ((List AV × AH O) ⊕ (List AV × AH O)) := (fun r17 =>
 (AV.asI .i64 (r17.1.getD 0 .u)).bind fun n18 =>
 (bif (decide (n18 < (l16.2 : Int))) then
 (bif ((decide ((0 : Int) ≤ n18)) && (decide (n18 < (l16.2 : Int)))) then
 (SA.ref l16.1).bind fun q19 =>
 (r17.2.ld q19.1 (q19.2 + (n18.toNat * 1))).bind fun w20 =>
 (AV.asI .i64 w20).bind fun n21 =>
 let σ22 := r17.2.bump 2
 (σ22.ld (.n σ.next) 0).bind fun w23 =>
 (AV.asSl w23).bind fun l24 =>
 Option.bind p0 fun q25 =>
 (σ22.ld q25.1 (q25.2 + 1)).bind fun w26 =>
 (AV.asP w26).bind fun p27 =>
 Option.bind p27 fun q28 =>
 (σ22.ld q28.1 (q28.2 + 1)).bind fun w29 =>
 (AV.asMp w29).bind fun m30 =>
 (entsOf σ22 (.mp m30)).bind fun m31 =>
 (findM .i64 n21 m31).bind fun f32 =>
 (AV.asI .i64 (lookV f32 (.i .i64 0))).bind fun n33 =>
 (chkE (σ22.ld (.n σ.next) 0) (some (.sl l24.1 l24.2))).bind fun _ =>
 let σ34 := σ22.put r17.2.next (.cells true 3 [J n33])
 (σ34.rdSl (.loc (.n r17.2.next) 0 1) 1 1).bind fun new35 =>
 (bif (Nat.ble ((l24.2 + 1) * 9) 35184372088832) then
 (σ34.appSl (r17.2.next + 1) 3 1 l24.1 l24.2 1 new35).bind fun r36 =>
 (AV.asSl r36.1).bind fun l37 =>
 (r36.2.st (.n σ.next) 0 [L l37]).bind fun σ38 =>
 some (Sum.inl ([(.i .i64 (IntKind.i64.wrap (n18 + 1)))], σ38))
 else none)
 else none)
 else some (Sum.inr ([], r17.2))))
noncomputable def twin_roots__all_c {O : Type} (k191 k169 k192 kr275 : Sm O) : Sm O := fun xs σ =>
 bif Nat.beq xs.length 1 then
 (AV.asP (xs.getD 0 .u)).bind fun p0 =>
 let σ1 := σ.bump 1
 let σ2 := σ1.put σ.next (.cells true 29 [N])
 Option.bind p0 fun q3 =>
 (σ2.ld q3.1 q3.2).bind fun w4 =>
 (AV.asSl w4).bind fun l5 =>
 (k191 [L l5] σ2).bind fun r6 =>
 (AV.asF r6.1).bind fun f7 =>
 (rangeV [(191, k191), (169, k169), (192, k192), (2000275, kr275)] f7 105000 [(3, (.p (some ((.n σ.next), 0))))] r6.2).bind fun r8 =>
 (lstN r8.2 r6.2.next).bind fun st9 =>
 let σ10 := r8.2.kill r6.2.next
 (bif Nat.beq st9 0 then
 Option.bind p0 fun q11 =>
 (σ10.ld q11.1 (q11.2 + 1)).bind fun w12 =>
 (AV.asP w12).bind fun p13 =>
 Option.bind p13 fun q14 =>
 (σ10.ld q14.1 (q14.2 + 2)).bind fun w15 =>
 (AV.asSl w15).bind fun l16 =>
 (loopF (S := List AV × AH O) (T := List AV × AH O) (twin_roots__all_L1 l16 σ p0) ([J 0], σ10)).bind fun r39 =>
 (r39.2.ld (.n σ.next) 0).bind fun w40 =>
 (AV.asSl w40).bind fun l41 =>
 (k169 [L l41, (.fn (some (.func 192, [], [])))] r39.2).bind fun r42 =>
 (AV.asSl r42.1).bind fun l43 =>
 some (L l43, r42.2)
 else none)
 else none
noncomputable def twin_roots__all {O : Type} : Sm O := twin_roots__all_c slices_Backward_____int___int_ slices_DeleteFunc___int_int_ twin_roots__all_1 (slices_Backward_____int___int__1 (twin_roots__all_R0))
theorem twin_roots__all_ent : Entered Tryz.prog 105 := Tryz.call105
theorem twin_roots__all_run {O : Type} (k191 k169 k192 kr275 : Sm O) : run (O := O) Tryz.prog [(191, k191), (169, k169), (192, k192), (2000275, kr275)] Tryz.f105 (.n .z (.n .z (.n (.n .z (.n (.rf 105000 [3] []) .z)) (.n (.n .z (.n (.lp false 2 [(26, .one (.i .i64))] [] (.n .z (.n .z (.n (.n (.n .z (.d [] [0, 1, 2, 3, 4, 5, 6, 7, 8, 9, 10, 11, 12] [0, 0, 2, 6, 14, 30, 62, 126, 0, 510, 1022, 2047, 4095])) .z) .z)))) .z)) .z)))) = twin_roots__all_c k191 k169 k192 kr275 := by kernel_rfl
theorem twin_roots__all_sound {O : Type} {RO : O → Loc → (Nat → Option Obj) → Prop} : FSound RO Tryz.prog 105 (twin_roots__all) :=
   have h : FSound RO Tryz.prog 105 (twin_roots__all_c slices_Backward_____int___int_ slices_DeleteFunc___int_int_ twin_roots__all_1 (slices_Backward_____int___int__1 (twin_roots__all_R0))) := (twin_roots__all_run slices_Backward_____int___int_ slices_DeleteFunc___int_int_ twin_roots__all_1 (slices_Backward_____int___int__1 (twin_roots__all_R0))) ▸ run_soundR (gcons slices_Backward_____int___int__ent (slices_Backward_____int___int__sound) <| gcons slices_DeleteFunc___int_int__ent (slices_DeleteFunc___int_int__sound) <| gcons twin_roots__all_1_ent (twin_roots__all_1_sound) <| grf (c := 275) slices_Backward_____int___int__1_ent (slices_Backward_____int___int__1_sound (twin_roots__all_R0_sound)) <| gnil) mixed Tryz.func105 (by kernel_rfl) _ (by kernel_rfl)
   h
noncomputable def twin_Twin__Held_c {O : Type} (k105 : Sm O) : Sm O := fun xs σ =>
 bif Nat.beq xs.length 1 then
 (AV.asP (xs.getD 0 .u)).bind fun p0 =>
 Option.bind p0 fun q1 =>
 (k105 [(.p (some (q1.1, (q1.2 + 14))))] σ).bind fun r2 =>
 (AV.asSl r2.1).bind fun l3 =>
 some (L l3, r2.2)
 else none
noncomputable def twin_Twin__Held {O : Type} : Sm O := twin_Twin__Held_c twin_roots__all
theorem twin_Twin__Held_ent : Entered Tryz.prog 59 := Tryz.call59
theorem twin_Twin__Held_run {O : Type} (k105 : Sm O) : run (O := O) Tryz.prog [(105, k105)] Tryz.f59 (.n .z .z) = twin_Twin__Held_c k105 := by kernel_rfl
theorem twin_Twin__Held_sound {O : Type} {RO : O → Loc → (Nat → Option Obj) → Prop} : FSound RO Tryz.prog 59 (twin_Twin__Held) :=
   have h : FSound RO Tryz.prog 59 (twin_Twin__Held_c twin_roots__all) := (twin_Twin__Held_run twin_roots__all) ▸ run_sound (gcons twin_roots__all_ent (twin_roots__all_sound) <| gnil) mixed Tryz.func59 (by kernel_rfl) _
   h
noncomputable def reach_Levels_1_L1 {O : Type} (l0 : SA × Nat) : List AV × AH O → Option ((List AV × AH O) ⊕ (List AV × AH O)) := (fun r1 =>
 (AV.asSl (r1.1.getD 0 .u)).bind fun l2 =>
 (AV.asI .i64 (r1.1.getD 1 .u)).bind fun n3 =>
 (bif (decide (n3 < (l0.2 : Int))) then
 none
 else some (Sum.inr ([L l2], r1.2))))
noncomputable def reach_Levels_1_c {O : Type} : Sm O := fun xs σ =>
 bif Nat.beq xs.length 3 then
 (AV.asSl (xs.getD 0 .u)).bind fun l0 =>
 (loopF (S := List AV × AH O) (T := List AV × AH O) (reach_Levels_1_L1 l0) ([N, J 0], σ)).bind fun r4 =>
 (AV.asSl (r4.1.getD 0 .u)).bind fun l5 =>
 some (L l5, r4.2)
 else none
noncomputable def reach_Levels_1 {O : Type} : Sm O := reach_Levels_1_c
theorem reach_Levels_1_ent : Entered Tryz.prog 270 := Tryz.call270
theorem reach_Levels_1_run {O : Type} : run (O := O) Tryz.prog [] Tryz.f270 (.n .z (.n .z (.n (.n .z (.n (.lp false 0 [(5, .one .sl), (10, .one (.i .i64))] [(5, .one .sl)] (.n .z (.n (.n .x .z) (.n (.n (.n .z (.n (.g [(3, 4, [(22, .one .b)])]) (.n .x .x))) .z) .z)))) .z)) .z))) = reach_Levels_1_c  := by kernel_rfl
theorem reach_Levels_1_sound {O : Type} {RO : O → Loc → (Nat → Option Obj) → Prop} : FSound RO Tryz.prog 270 (reach_Levels_1) :=
   have h : FSound RO Tryz.prog 270 (reach_Levels_1_c) := (reach_Levels_1_run) ▸ run_sound (gnil) mixed Tryz.func270 (by kernel_rfl) _
   h
noncomputable def reach_Levels_L1 {O : Type}  : List AV × AH O → Option ((List AV × AH O) ⊕ (List AV × AH O)) := (fun r10 =>
 (AV.asSl (r10.1.getD 0 .u)).bind fun l11 =>
 (AV.asSl (r10.1.getD 1 .u)).bind fun l12 =>
 (bif (decide ((l12.2 : Int) > 0)) then
 none
 else some (Sum.inr ([L l11], r10.2))))
noncomputable def reach_Levels_c {O : Type} (k270 : Sm O) : Sm O := fun xs σ =>
 bif Nat.beq xs.length 2 then
 (AV.asP (xs.getD 0 .u)).bind fun p0 =>
 (AV.asSl (xs.getD 1 .u)).bind fun l1 =>
 let σ2 := σ.bump 1
 let σ3 := σ2.put σ.next (.cells true 80 [(.p p0)])
 let σ4 := σ3.bump 2
 let σ5 := σ4.put σ3.next (.map [] [] 0)
 let σ6 := σ5.put (σ3.next + 1) (.cells true 159 [(.mp none)])
 (σ6.st (.n (σ3.next + 1)) 0 [(.mp (some σ3.next))]).bind fun σ7 =>
 (k270 [L l1, (.p (some ((.n σ.next), 0))), (.p (some ((.n (σ3.next + 1)), 0)))] σ7).bind fun r8 =>
 (AV.asSl r8.1).bind fun l9 =>
 (loopF (S := List AV × AH O) (T := List AV × AH O) (reach_Levels_L1) ([N, L l9], r8.2)).bind fun r13 =>
 (AV.asSl (r13.1.getD 0 .u)).bind fun l14 =>
 some (L l14, r13.2)
 else none
noncomputable def reach_Levels {O : Type} : Sm O := reach_Levels_c reach_Levels_1
theorem reach_Levels_ent : Entered Tryz.prog 188 := Tryz.call188
theorem reach_Levels_run {O : Type} (k270 : Sm O) : run (O := O) Tryz.prog [(270, k270)] Tryz.f188 (.n .z (.n .z (.n .z (.n .z (.n (.n .z (.n (.lp false 0 [(5, .one .sl), (8, .one .sl)] [(5, .one .sl)] (.n (.n .z (.n .x .z)) (.n (.n .z (.n .z (.n (.n .z (.n (.lp false 1000000 [(26, .one (.i .i64))] [] (.n .z (.n (.n .x .x) (.n (.n .z .z) .z)))) .z)) .z))) .z))) .z)) .z))))) = reach_Levels_c k270 := by kernel_rfl
theorem reach_Levels_sound {O : Type} {RO : O → Loc → (Nat → Option Obj) → Prop} : FSound RO Tryz.prog 188 (reach_Levels) :=
   have h : FSound RO Tryz.prog 188 (reach_Levels_c reach_Levels_1) := (reach_Levels_run reach_Levels_1) ▸ run_sound (gcons reach_Levels_1_ent (reach_Levels_1_sound) <| gnil) mixed Tryz.func188 (by kernel_rfl) _
   h
noncomputable def reach_marked_L1 {O : Type} (l5 : SA × Nat) : List AV × AH O → Option ((List AV × AH O) ⊕ (List AV × AH O)) := (fun r6 =>
 (AV.asI .i64 (r6.1.getD 0 .u)).bind fun n7 =>
 (bif (decide (n7 < (l5.2 : Int))) then
 none
 else some (Sum.inr ([], r6.2))))
noncomputable def reach_marked_c {O : Type} (k188 : Sm O) : Sm O := fun xs σ =>
 bif Nat.beq xs.length 2 then
 (AV.asP (xs.getD 0 .u)).bind fun p0 =>
 (AV.asSl (xs.getD 1 .u)).bind fun l1 =>
 let σ2 := σ.bump 1
 let σ3 := σ2.put σ.next (.map [] [] 0)
 (k188 [(.p p0), L l1] σ3).bind fun r4 =>
 (AV.asSl r4.1).bind fun l5 =>
 (loopF (S := List AV × AH O) (T := List AV × AH O) (reach_marked_L1 l5) ([J 0], r4.2)).bind fun r8 =>
 some ((.mp (some σ.next)), r8.2)
 else none
noncomputable def reach_marked {O : Type} : Sm O := reach_marked_c reach_Levels
theorem reach_marked_ent : Entered Tryz.prog 103 := Tryz.call103
theorem reach_marked_run {O : Type} (k188 : Sm O) : run (O := O) Tryz.prog [(188, k188)] Tryz.f103 (.n .z (.n .z (.n (.n .z (.n (.lp false 0 [(15, .one (.i .i64))] [] (.n .z (.n (.n .x .z) (.n (.n (.n .z (.n .z (.n (.lp false 1000000 [(22, .one (.i .i64))] [] (.n .z (.n (.n .x .x) (.n (.n .z .z) .z)))) .z))) .z) .z)))) .z)) .z))) = reach_marked_c k188 := by kernel_rfl
theorem reach_marked_sound {O : Type} {RO : O → Loc → (Nat → Option Obj) → Prop} : FSound RO Tryz.prog 103 (reach_marked) :=
   have h : FSound RO Tryz.prog 103 (reach_marked_c reach_Levels) := (reach_marked_run reach_Levels) ▸ run_sound (gcons reach_Levels_ent (reach_Levels_sound) <| gnil) mixed Tryz.func103 (by kernel_rfl) _
   h
noncomputable def reach_Keep_L2 {O : Type} (l10 : SA × Nat) : List AV × AH O → Option ((List AV × AH O) ⊕ (List AV × AH O)) := (fun r11 =>
 (AV.asI .i64 (r11.1.getD 0 .u)).bind fun n12 =>
 (bif (decide (n12 < (l10.2 : Int))) then
 none
 else some (Sum.inr ([], r11.2))))
noncomputable def reach_Keep_L1 {O : Type} (l5 : SA × Nat) : List AV × AH O → Option ((List AV × AH O) ⊕ (List AV × AH O)) := (fun r6 =>
 (AV.asSl (r6.1.getD 0 .u)).bind fun l7 =>
 (AV.asI .i64 (r6.1.getD 1 .u)).bind fun n8 =>
 (bif (decide (n8 < (l5.2 : Int))) then
 none
 else some (Sum.inr ([L l7], r6.2))))
noncomputable def reach_Keep_c {O : Type} (k103 k104 : Sm O) : Sm O := fun xs σ =>
 bif Nat.beq xs.length 2 then
 (AV.asP (xs.getD 0 .u)).bind fun p0 =>
 (AV.asSl (xs.getD 1 .u)).bind fun l1 =>
 (k103 [(.p p0), L l1] σ).bind fun r2 =>
 (AV.asMp r2.1).bind fun m3 =>
 (k104 [(.p p0)] r2.2).bind fun r4 =>
 (AV.asSl r4.1).bind fun l5 =>
 (loopF (S := List AV × AH O) (T := List AV × AH O) (reach_Keep_L1 l5) ([N, J 0], r4.2)).bind fun r9 =>
 (AV.asSl (r9.1.getD 0 .u)).bind fun l10 =>
 (loopF (S := List AV × AH O) (T := List AV × AH O) (reach_Keep_L2 l10) ([J 0], r9.2)).bind fun r13 =>
 some (L l10, r13.2)
 else none
noncomputable def reach_Keep {O : Type} (F : Nat) : Sm O := reach_Keep_c reach_marked (graph_Graph__Ids F)
theorem reach_Keep_ent : Entered Tryz.prog 254 := Tryz.call254
theorem reach_Keep_run {O : Type} (k103 k104 : Sm O) : run (O := O) Tryz.prog [(103, k103), (104, k104)] Tryz.f254 (.n .z (.n .z (.n .z (.n (.n .z (.n (.lp false 0 [(5, .one .sl), (17, .one (.i .i64))] [(5, .one .sl)] (.n .z (.n (.n .x .z) (.n (.n (.n .z (.n .z (.n .x .x))) .z) .z)))) .z)) (.n (.n .z (.n (.lp false 2 [(32, .one (.i .i64))] [] (.n .z (.n (.n .x .z) (.n (.n .z .z) .z)))) .z)) .z))))) = reach_Keep_c k103 k104 := by kernel_rfl
theorem reach_Keep_sound {O : Type} {RO : O → Loc → (Nat → Option Obj) → Prop} (F : Nat) : FSound RO Tryz.prog 254 (reach_Keep F) :=
   have h : FSound RO Tryz.prog 254 (reach_Keep_c reach_marked (graph_Graph__Ids F)) := (reach_Keep_run reach_marked (graph_Graph__Ids F)) ▸ run_sound (gcons reach_marked_ent (reach_marked_sound) <| gcons graph_Graph__Ids_ent (graph_Graph__Ids_sound F) <| gnil) mixed Tryz.func254 (by kernel_rfl) _
   h
noncomputable def twin_handles__clear_L1 {O : Type} (l4 : SA × Nat) : List AV × AH O → Option ((List AV × AH O) ⊕ (List AV × AH O)) := (fun r5 =>
 (AV.asI .i64 (r5.1.getD 0 .u)).bind fun n6 =>
 (AV.asI .i64 (r5.1.getD 1 .u)).bind fun n7 =>
 (bif (decide (n7 < (l4.2 : Int))) then
 none
 else some (Sum.inr ([J n6], r5.2))))
noncomputable def twin_handles__clear_c {O : Type} : Sm O := fun xs σ =>
 bif Nat.beq xs.length 2 then
 (AV.asP (xs.getD 0 .u)).bind fun p0 =>
 (AV.asP (xs.getD 1 .u)).bind fun p1 =>
 Option.bind p0 fun q2 =>
 (σ.ld q2.1 (q2.2 + 2)).bind fun w3 =>
 (AV.asSl w3).bind fun l4 =>
 (loopF (S := List AV × AH O) (T := List AV × AH O) (twin_handles__clear_L1 l4) ([J 0, J 0], σ)).bind fun r8 =>
 (AV.asI .i64 (r8.1.getD 0 .u)).bind fun n9 =>
 some (J n9, r8.2)
 else none
noncomputable def twin_handles__clear {O : Type} : Sm O := twin_handles__clear_c
theorem twin_handles__clear_ent : Entered Tryz.prog 255 := Tryz.call255
theorem twin_handles__clear_run {O : Type} : run (O := O) Tryz.prog [] Tryz.f255 (.n .z (.n .z (.n (.n .z (.n (.lp false 0 [(5, .one (.i .i64)), (14, .one (.i .i64))] [(5, .one (.i .i64))] (.n .z (.n (.n .x .z) (.n (.n (.n .z (.n .z (.n (.g [(2, 4, [(31, .one .b)])]) (.n .x .x)))) .z) .z)))) .z)) .z))) = twin_handles__clear_c  := by kernel_rfl
theorem twin_handles__clear_sound {O : Type} {RO : O → Loc → (Nat → Option Obj) → Prop} : FSound RO Tryz.prog 255 (twin_handles__clear) :=
   have h : FSound RO Tryz.prog 255 (twin_handles__clear_c) := (twin_handles__clear_run) ▸ run_sound (gnil) mixed Tryz.func255 (by kernel_rfl) _
   h
noncomputable def twin_Twin__collect_L3 {O : Type} (l41 : SA × Nat) : List AV × AH O → Option ((List AV × AH O) ⊕ (List AV × AH O)) := (fun r42 =>
 (AV.asI .i64 (r42.1.getD 0 .u)).bind fun n43 =>
 (bif (decide (n43 < (l41.2 : Int))) then
 none
 else some (Sum.inr ([], r42.2))))
noncomputable def twin_Twin__collect_L2 {O : Type} (l21 : SA × Nat) : List AV × AH O → Option ((List AV × AH O) ⊕ (List AV × AH O)) := (fun r22 =>
 (AV.asI .i64 (r22.1.getD 0 .u)).bind fun n23 =>
 (bif (decide (n23 < (l21.2 : Int))) then
 none
 else some (Sum.inr ([], r22.2))))
noncomputable def twin_Twin__collect_L1 {O : Type} (l9 : SA × Nat) : List AV × AH O → Option ((List AV × AH O) ⊕ (List AV × AH O)) := (fun r12 =>
 (AV.asI .i64 (r12.1.getD 0 .u)).bind fun n13 =>
 (bif (decide (n13 < (l9.2 : Int))) then
 none
 else some (Sum.inr ([], r12.2))))
noncomputable def twin_Twin__collect_c {O : Type} (k33 k104 k59 k254 k255 k258 k178 : Sm O) : Sm O := fun xs σ =>
 bif Nat.beq xs.length 1 then
 (AV.asP (xs.getD 0 .u)).bind fun p0 =>
 (k33 [] σ).bind fun r1 =>
 (AV.asP r1.1).bind fun p2 =>
 Option.bind p0 fun q3 =>
 (r1.2.st q3.1 (q3.2 + 20) [J 0, J 0, J 0, J 0, (.p p2)]).bind fun σ4 =>
 Option.bind p0 fun q5 =>
 (σ4.ld q5.1 (q5.2 + 5)).bind fun w6 =>
 (AV.asP w6).bind fun p7 =>
 (k104 [(.p p7)] σ4).bind fun r8 =>
 (AV.asSl r8.1).bind fun l9 =>
 let σ10 := r8.2.bump 1
 let σ11 := σ10.put r8.2.next (.map [] [] 0)
 (loopF (S := List AV × AH O) (T := List AV × AH O) (twin_Twin__collect_L1 l9) ([J 0], σ11)).bind fun r14 =>
 Option.bind p0 fun q15 =>
 (r14.2.ld q15.1 (q15.2 + 5)).bind fun w16 =>
 (AV.asP w16).bind fun p17 =>
 (k59 [(.p p0)] r14.2).bind fun r18 =>
 (AV.asSl r18.1).bind fun l19 =>
 (chkE (r18.2.ld q15.1 (q15.2 + 5)) (some (.p p17))).bind fun _ =>
 (k254 [(.p p17), L l19] r18.2).bind fun r20 =>
 (AV.asSl r20.1).bind fun l21 =>
 (loopF (S := List AV × AH O) (T := List AV × AH O) (twin_Twin__collect_L2 l21) ([J 0], r20.2)).bind fun r24 =>
 Option.bind p0 fun q25 =>
 (r24.2.ld q25.1 ((q25.2 + 14) + 2)).bind fun w26 =>
 (AV.asP w26).bind fun p27 =>
 Option.bind p0 fun q28 =>
 (r24.2.ld q28.1 (q28.2 + 5)).bind fun w29 =>
 (AV.asP w29).bind fun p30 =>
 (k255 [(.p p27), (.p p30)] r24.2).bind fun r31 =>
 (AV.asI .i64 r31.1).bind fun n32 =>
 Option.bind p0 fun q33 =>
 (r31.2.st q33.1 ((q33.2 + 20) + 3) [J n32]).bind fun σ34 =>
 Option.bind p0 fun q35 =>
 (σ34.st q35.1 (q35.2 + 19) [J 0]).bind fun σ36 =>
 Option.bind p0 fun q37 =>
 (σ36.ld q37.1 (q37.2 + 5)).bind fun w38 =>
 (AV.asP w38).bind fun p39 =>
 (k104 [(.p p39)] σ36).bind fun r40 =>
 (AV.asSl r40.1).bind fun l41 =>
 (loopF (S := List AV × AH O) (T := List AV × AH O) (twin_Twin__collect_L3 l41) ([J 0], r40.2)).bind fun r44 =>
 Option.bind p0 fun q45 =>
 (r44.2.ld q45.1 (q45.2 + 18)).bind fun w46 =>
 (AV.asP w46).bind fun p47 =>
 Option.bind p0 fun q48 =>
 (r44.2.ld q48.1 ((q48.2 + 20) + 4)).bind fun w49 =>
 (AV.asP w49).bind fun p50 =>
 (k258 [(.p p47), (.p p50)] r44.2).bind fun r51 =>
 (AV.asTup 0 r51.1).bind fun c52 =>
 Option.bind p0 fun q53 =>
 (r51.2.ld q53.1 (q53.2 + 25)).bind fun w54 =>
 (AV.asI .i64 w54).bind fun n55 =>
 Option.bind p0 fun q56 =>
 (r51.2.st q56.1 (q56.2 + 25) [(.i .i64 (IntKind.i64.wrap (n55 + 1)))]).bind fun σ57 =>
 (k178 [(.p p0)] σ57).bind fun r58 =>
 (AV.asI .i64 r58.1).bind fun n59 =>
 Option.bind p0 fun q60 =>
 (r58.2.st q60.1 ((q60.2 + 25) + 4) [J n59]).bind fun σ61 =>
 some ((.tup []), σ61)
 else none
noncomputable def twin_Twin__collect {O : Type} (F : Nat) : Sm O := twin_Twin__collect_c census_New (graph_Graph__Ids F) twin_Twin__Held (reach_Keep F) twin_handles__clear (survive_Survive__See F) twin_Twin__used
theorem twin_Twin__collect_ent : Entered Tryz.prog 176 := Tryz.call176
theorem twin_Twin__collect_run {O : Type} (k33 k104 k59 k254 k255 k258 k178 : Sm O) : run (O := O) Tryz.prog [(33, k33), (104, k104), (59, k59), (254, k254), (255, k255), (258, k258), (178, k178)] Tryz.f176 (.n .z (.n .z (.n .z (.n (.n .z (.n (.lp false 0 [(25, .one (.i .i64))] [] (.n .z (.n (.n .x .z) (.n (.n .z .z) .z)))) .z)) (.n (.n (.d [] [0, 1, 2, 3, 4, 8, 5, 6, 7] [0, 1, 3, 7, 0, 16, 63, 127, 0]) (.n (.lp false 2 [(49, .one (.i .i64))] [] (.n .z (.n (.n .x .z) (.n (.n (.n .z (.n (.d [] [0, 1, 2, 3, 4, 5, 6, 7, 8, 9, 10, 11, 12, 13] [0, 1, 3, 7, 15, 0, 0, 96, 224, 511, 1023, 2047, 4095, 8191]) (.n .z (.n .x .x)))) .z) .z)))) .z)) (.n (.d [] [0, 1, 2, 3, 4, 5, 6, 7, 8, 9, 10, 11, 12, 13, 14] [0, 0, 2, 6, 14, 30, 0, 64, 192, 448, 1022, 2047, 4095, 8191, 16383]) (.n .z (.n (.n .z (.n (.lp false 4 [(103, .one (.i .i64))] [] (.n .z (.n (.n .x .z) (.n (.n (.n .z (.n .z (.n .z (.n (.d [] [0, 1, 2, 3, 4, 5, 6] [0, 1, 3, 7, 15, 0, 63]) (.n .z (.d [] [0, 1, 2, 3, 4, 5, 6, 7, 8, 9, 10, 11, 12, 13, 14, 15] [0, 1, 3, 7, 0, 16, 0, 64, 192, 448, 960, 2032, 4095, 8191, 16383, 32767])))))) .z) .z)))) .z)) (.n (.d [] [0, 1, 2, 3, 4, 5, 6, 7, 8, 9] [0, 1, 3, 7, 0, 16, 48, 112, 240, 511]) .z))))))))) = twin_Twin__collect_c k33 k104 k59 k254 k255 k258 k178 := by kernel_rfl
theorem twin_Twin__collect_sound {O : Type} {RO : O → Loc → (Nat → Option Obj) → Prop} (F : Nat) : FSound RO Tryz.prog 176 (twin_Twin__collect F) :=
   have h : FSound RO Tryz.prog 176 (twin_Twin__collect_c census_New (graph_Graph__Ids F) twin_Twin__Held (reach_Keep F) twin_handles__clear (survive_Survive__See F) twin_Twin__used) := (twin_Twin__collect_run census_New (graph_Graph__Ids F) twin_Twin__Held (reach_Keep F) twin_handles__clear (survive_Survive__See F) twin_Twin__used) ▸ run_sound (gcons census_New_ent (census_New_sound) <| gcons graph_Graph__Ids_ent (graph_Graph__Ids_sound F) <| gcons twin_Twin__Held_ent (twin_Twin__Held_sound) <| gcons reach_Keep_ent (reach_Keep_sound F) <| gcons twin_handles__clear_ent (twin_handles__clear_sound) <| gcons survive_Survive__See_ent (survive_Survive__See_sound F) <| gcons twin_Twin__used_ent (twin_Twin__used_sound) <| gnil) mixed Tryz.func176 (by kernel_rfl) _
   h
noncomputable def twin_Twin__after_p {O : Type} (w : Words O) (k259 : Sm O) : Sm O := fun xs σ =>
 bif Nat.beq xs.length 3 then
 (AV.asP (xs.getD 0 .u)).bind fun p0 =>
 (AV.asI .i64 (xs.getD 1 .u)).bind fun n1 =>
 (AV.asB (xs.getD 2 .u)).bind fun b2 =>
 Option.bind p0 fun q3 =>
 (σ.ld q3.1 (q3.2 + 6)).bind fun w4 =>
 (AV.asI .i64 w4).bind fun n5 =>
 (σ.ld q3.1 ((q3.2 + 6) + 1)).bind fun w6 =>
 (AV.asI .i64 w6).bind fun n7 =>
 (σ.ld q3.1 (((q3.2 + 6) + 1) + 1)).bind fun w8 =>
 (AV.asI .i64 w8).bind fun n9 =>
 (σ.ld q3.1 ((((q3.2 + 6) + 1) + 1) + 1)).bind fun w10 =>
 (AV.asI .i64 w10).bind fun n11 =>
 (σ.ld q3.1 (((((q3.2 + 6) + 1) + 1) + 1) + 1)).bind fun w12 =>
 (AV.asI .i64 w12).bind fun n13 =>
 (σ.ld q3.1 ((((((q3.2 + 6) + 1) + 1) + 1) + 1) + 1)).bind fun w14 =>
 (AV.asI .i64 w14).bind fun n15 =>
 (σ.ld q3.1 (((((((q3.2 + 6) + 1) + 1) + 1) + 1) + 1) + 1)).bind fun w16 =>
 (AV.asI .i64 w16).bind fun n17 =>
 (σ.ld q3.1 ((((((((q3.2 + 6) + 1) + 1) + 1) + 1) + 1) + 1) + 1)).bind fun w18 =>
 (AV.asI .i64 w18).bind fun n19 =>
 Option.bind p0 fun q20 =>
 (σ.ld q20.1 ((q20.2 + 25) + 4)).bind fun w21 =>
 (AV.asI .i64 w21).bind fun n22 =>
 (k259 [(.agg (P1 n5 n7 n9 n11 n13 n15 n17 n19)), J n22, J n1] σ).bind fun r23 =>
 (AV.asTup 2 r23.1).bind fun c24 =>
 (AV.asAgg 8 (c24.getD 0 .u)).bind fun c25 =>
 w.U0 c25 fun n26 n27 n28 n29 n30 n31 n32 n33 =>
 (AV.asB (c24.getD 1 .u)).bind fun b34 =>
 Option.bind p0 fun q35 =>
 (r23.2.st q35.1 (q35.2 + 6) (P1 n26 n27 n28 n29 n30 n31 n32 n33)).bind fun σ36 =>
 ((bif (b2 == false) then
 some ([(.b (!b34))], σ36)
 else some ([(.b true)], σ36)) : Option (List AV × AH O)).bind fun r37 =>
 (AV.asB (r37.1.getD 0 .u)).bind fun b38 =>
 (bif b38 then
 none
 else some ((.b b34), r37.2))
 else none
noncomputable def twin_Twin__after_c {O : Type} (k259 : Sm O) : Sm O := twin_Twin__after_p fastWords k259
noncomputable def twin_Twin__after {O : Type} : Sm O := twin_Twin__after_c gate_Gate__After
theorem twin_Twin__after_ent : Entered Tryz.prog 177 := Tryz.call177
theorem twin_Twin__after_run {O : Type} (k259 : Sm O) : run (O := O) Tryz.prog [(259, k259)] Tryz.f177 (.n .z (.n .z (.n (.d [] [0, 1, 2, 3, 4, 5, 6, 7, 8, 9, 10, 11, 12, 13, 14, 15, 16, 17, 18] [0, 0, 2, 6, 14, 0, 32, 96, 224, 480, 0, 2046, 4094, 8190, 8190, 16383, 49151, 114687, 262143]) (.n (.n (.g [(1, 2, [(29, .one .b)])]) (.n .x .z)) .z)))) = twin_Twin__after_c k259 :=
 (show run (O := O) Tryz.prog [(259, k259)] Tryz.f177 (.n .z (.n .z (.n (.d [] [0, 1, 2, 3, 4, 5, 6, 7, 8, 9, 10, 11, 12, 13, 14, 15, 16, 17, 18] [0, 0, 2, 6, 14, 0, 32, 96, 224, 480, 0, 2046, 4094, 8190, 8190, 16383, 49151, 114687, 262143]) (.n (.n (.g [(1, 2, [(29, .one .b)])]) (.n .x .z)) .z)))) = twin_Twin__after_p slowWords k259 by kernel_rfl).trans (congrArg (fun w => twin_Twin__after_p w k259) words_eq)
theorem twin_Twin__after_sound {O : Type} {RO : O → Loc → (Nat → Option Obj) → Prop} : FSound RO Tryz.prog 177 (twin_Twin__after) :=
   have h : FSound RO Tryz.prog 177 (twin_Twin__after_c gate_Gate__After) := (twin_Twin__after_run gate_Gate__After) ▸ run_sound (gcons gate_Gate__After_ent (gate_Gate__After_sound) <| gnil) mixed Tryz.func177 (by kernel_rfl) _
   h
noncomputable def twin_Twin__request_c {O : Type} (k178 k250 k251 k176 k177 : Sm O) : Sm O := fun xs σ =>
 bif Nat.beq xs.length 2 then
 (AV.asP (xs.getD 0 .u)).bind fun p0 =>
 (AV.asI .i64 (xs.getD 1 .u)).bind fun n1 =>
 Option.bind p0 fun q2 =>
 (σ.ld q2.1 (q2.2 + 6)).bind fun w3 =>
 (AV.asI .i64 w3).bind fun n4 =>
 (σ.ld q2.1 ((q2.2 + 6) + 1)).bind fun w5 =>
 (AV.asI .i64 w5).bind fun n6 =>
 (σ.ld q2.1 (((q2.2 + 6) + 1) + 1)).bind fun w7 =>
 (AV.asI .i64 w7).bind fun n8 =>
 (σ.ld q2.1 ((((q2.2 + 6) + 1) + 1) + 1)).bind fun w9 =>
 (AV.asI .i64 w9).bind fun n10 =>
 (σ.ld q2.1 (((((q2.2 + 6) + 1) + 1) + 1) + 1)).bind fun w11 =>
 (AV.asI .i64 w11).bind fun n12 =>
 (σ.ld q2.1 ((((((q2.2 + 6) + 1) + 1) + 1) + 1) + 1)).bind fun w13 =>
 (AV.asI .i64 w13).bind fun n14 =>
 (σ.ld q2.1 (((((((q2.2 + 6) + 1) + 1) + 1) + 1) + 1) + 1)).bind fun w15 =>
 (AV.asI .i64 w15).bind fun n16 =>
 (σ.ld q2.1 ((((((((q2.2 + 6) + 1) + 1) + 1) + 1) + 1) + 1) + 1)).bind fun w17 =>
 (AV.asI .i64 w17).bind fun n18 =>
 (k178 [(.p p0)] σ).bind fun r19 =>
 (AV.asI .i64 r19.1).bind fun n20 =>
 (chkE (r19.2.ld q2.1 (q2.2 + 6)) (some (.i .i64 n4))).bind fun _ =>
 (chkE (r19.2.ld q2.1 ((q2.2 + 6) + 1)) (some (.i .i64 n6))).bind fun _ =>
 (chkE (r19.2.ld q2.1 (((q2.2 + 6) + 1) + 1)) (some (.i .i64 n8))).bind fun _ =>
 (chkE (r19.2.ld q2.1 ((((q2.2 + 6) + 1) + 1) + 1)) (some (.i .i64 n10))).bind fun _ =>
 (chkE (r19.2.ld q2.1 (((((q2.2 + 6) + 1) + 1) + 1) + 1)) (some (.i .i64 n12))).bind fun _ =>
 (chkE (r19.2.ld q2.1 ((((((q2.2 + 6) + 1) + 1) + 1) + 1) + 1)) (some (.i .i64 n14))).bind fun _ =>
 (chkE (r19.2.ld q2.1 (((((((q2.2 + 6) + 1) + 1) + 1) + 1) + 1) + 1)) (some (.i .i64 n16))).bind fun _ =>
 (chkE (r19.2.ld q2.1 ((((((((q2.2 + 6) + 1) + 1) + 1) + 1) + 1) + 1) + 1)) (some (.i .i64 n18))).bind fun _ =>
 (k250 [(.agg (P1 n4 n6 n8 n10 n12 n14 n16 n18)), J n20, J n1] r19.2).bind fun r21 =>
 (AV.asB r21.1).bind fun b22 =>
 (bif b22 then
 Option.bind p0 fun q23 =>
 (r21.2.ld q23.1 (q23.2 + 6)).bind fun w24 =>
 (AV.asI .i64 w24).bind fun n25 =>
 (r21.2.ld q23.1 ((q23.2 + 6) + 1)).bind fun w26 =>
 (AV.asI .i64 w26).bind fun n27 =>
 (r21.2.ld q23.1 (((q23.2 + 6) + 1) + 1)).bind fun w28 =>
 (AV.asI .i64 w28).bind fun n29 =>
 (r21.2.ld q23.1 ((((q23.2 + 6) + 1) + 1) + 1)).bind fun w30 =>
 (AV.asI .i64 w30).bind fun n31 =>
 (r21.2.ld q23.1 (((((q23.2 + 6) + 1) + 1) + 1) + 1)).bind fun w32 =>
 (AV.asI .i64 w32).bind fun n33 =>
 (r21.2.ld q23.1 ((((((q23.2 + 6) + 1) + 1) + 1) + 1) + 1)).bind fun w34 =>
 (AV.asI .i64 w34).bind fun n35 =>
 (r21.2.ld q23.1 (((((((q23.2 + 6) + 1) + 1) + 1) + 1) + 1) + 1)).bind fun w36 =>
 (AV.asI .i64 w36).bind fun n37 =>
 (r21.2.ld q23.1 ((((((((q23.2 + 6) + 1) + 1) + 1) + 1) + 1) + 1) + 1)).bind fun w38 =>
 (AV.asI .i64 w38).bind fun n39 =>
 (k251 [(.agg (P1 n25 n27 n29 n31 n33 n35 n37 n39))] r21.2).bind fun r40 =>
 (AV.asB r40.1).bind fun b41 =>
 (k176 [(.p p0)] r40.2).bind fun r42 =>
 (AV.asTup 0 r42.1).bind fun c43 =>
 (k177 [(.p p0), J n1, (.b b41)] r42.2).bind fun r44 =>
 (AV.asB r44.1).bind fun b45 =>
 (bif (!b45) then
 none
 else Option.bind p0 fun q46 =>
 (r44.2.ld q46.1 ((q46.2 + 25) + 3)).bind fun w47 =>
 (AV.asI .i64 w47).bind fun n48 =>
 Option.bind p0 fun q49 =>
 (r44.2.st q49.1 ((q49.2 + 25) + 3) [(.i .i64 (IntKind.i64.wrap (n48 + n1)))]).bind fun σ50 =>
 some (J 0, σ50))
 else none)
 else none
noncomputable def twin_Twin__request {O : Type} (F : Nat) : Sm O := twin_Twin__request_c twin_Twin__used gate_Gate__Asks gate_Gate__Pressed (twin_Twin__collect F) twin_Twin__after
theorem twin_Twin__request_ent : Entered Tryz.prog 160 := Tryz.call160
theorem twin_Twin__request_run {O : Type} (k178 k250 k251 k176 k177 : Sm O) : run (O := O) Tryz.prog [(178, k178), (250, k250), (251, k251), (176, k176), (177, k177)] Tryz.f160 (.n .z (.n (.n (.d [] [0, 1, 2, 3, 4, 6, 5, 7] [0, 1, 3, 7, 0, 16, 0, 127]) (.n (.n .z (.n .z (.n .z (.n .x .z)))) .x)) (.n .z .z))) = twin_Twin__request_c k178 k250 k251 k176 k177 := by kernel_rfl
theorem twin_Twin__request_sound {O : Type} {RO : O → Loc → (Nat → Option Obj) → Prop} (F : Nat) : FSound RO Tryz.prog 160 (twin_Twin__request F) :=
   have h : FSound RO Tryz.prog 160 (twin_Twin__request_c twin_Twin__used gate_Gate__Asks gate_Gate__Pressed (twin_Twin__collect F) twin_Twin__after) := (twin_Twin__request_run twin_Twin__used gate_Gate__Asks gate_Gate__Pressed (twin_Twin__collect F) twin_Twin__after) ▸ run_sound (gcons twin_Twin__used_ent (twin_Twin__used_sound) <| gcons gate_Gate__Asks_ent (gate_Gate__Asks_sound) <| gcons gate_Gate__Pressed_ent (gate_Gate__Pressed_sound) <| gcons twin_Twin__collect_ent (twin_Twin__collect_sound F) <| gcons twin_Twin__after_ent (twin_Twin__after_sound) <| gnil) mixed Tryz.func160 (by kernel_rfl) _
   h
noncomputable def twin_handles__add_c {O : Type} : Sm O := fun xs σ =>
 bif Nat.beq xs.length 2 then
 (AV.asP (xs.getD 0 .u)).bind fun p0 =>
 (AV.asI .i64 (xs.getD 1 .u)).bind fun n1 =>
 Option.bind p0 fun q2 =>
 (σ.ld q2.1 q2.2).bind fun w3 =>
 (AV.asSl w3).bind fun l4 =>
 Option.bind p0 fun q5 =>
 (σ.ld q5.1 (q5.2 + 3)).bind fun w6 =>
 (AV.asSl w6).bind fun l7 =>
 (bif (decide ((l7.2 : Int) > 0)) then
 none
 else let σ8 := σ.bump 2
 Option.bind p0 fun q9 =>
 (σ8.ld q9.1 q9.2).bind fun w10 =>
 (AV.asSl w10).bind fun l11 =>
 let σ12 := σ8.put σ.next (.cells true 3 [J 0])
 (σ12.rdSl (.loc (.n σ.next) 0 1) 1 1).bind fun new13 =>
 (bif (Nat.ble ((l11.2 + 1) * 9) 35184372088832) then
 (σ12.appSl (σ.next + 1) 3 1 l11.1 l11.2 1 new13).bind fun r14 =>
 (AV.asSl r14.1).bind fun l15 =>
 Option.bind p0 fun q16 =>
 (r14.2.st q16.1 q16.2 [L l15]).bind fun σ17 =>
 Option.bind p0 fun q18 =>
 (σ17.ld q18.1 q18.2).bind fun w19 =>
 (AV.asSl w19).bind fun l20 =>
 (bif ((decide ((0 : Int) ≤ (l4.2 : Int))) && (decide ((l4.2 : Int) < (l20.2 : Int)))) then
 (SA.ref l20.1).bind fun q21 =>
 (σ17.ld q21.1 (q21.2 + ((l4.2 : Int).toNat * 1))).bind fun w22 =>
 (AV.asI .i64 w22).bind fun n23 =>
 let v24 : Int := (ibits .or .i64 (IntKind.i64.wrap (n23 * 2 ^ 20)) (l4.2 : Int))
 Option.bind p0 fun q25 =>
 (σ17.ld q25.1 (q25.2 + 1)).bind fun w26 =>
 (AV.asMp w26).bind fun m27 =>
 Option.bind m27 fun b28 =>
 (entsOf σ17 (.mp (some b28))).bind fun m29 =>
 (findM .i64 v24 m29).bind fun f30 =>
 let σ31 := σ17.put b28 (updB σ17 b28 f30 m29 (.i .i64 v24) (.i .i64 n1))
 let σ32 := σ31.bump 2
 Option.bind p0 fun q33 =>
 (σ32.ld q33.1 (q33.2 + 2)).bind fun w34 =>
 (AV.asSl w34).bind fun l35 =>
 let σ36 := σ32.put σ31.next (.cells true 3 [J v24])
 (σ36.rdSl (.loc (.n σ31.next) 0 1) 1 1).bind fun new37 =>
 (bif (Nat.ble ((l35.2 + 1) * 9) 35184372088832) then
 (σ36.appSl (σ31.next + 1) 3 1 l35.1 l35.2 1 new37).bind fun r38 =>
 (AV.asSl r38.1).bind fun l39 =>
 Option.bind p0 fun q40 =>
 (r38.2.st q40.1 (q40.2 + 2) [L l39]).bind fun σ41 =>
 some (J v24, σ41)
 else none)
 else none)
 else none))
 else none
noncomputable def twin_handles__add {O : Type} : Sm O := twin_handles__add_c
theorem twin_handles__add_ent : Entered Tryz.prog 168 := Tryz.call168
theorem twin_handles__add_run {O : Type} : run (O := O) Tryz.prog [] Tryz.f168 (.n .z (.n .z (.n (.n .z (.n .z (.n .x .z))) (.n .z (.n .z (.n .z .z)))))) = twin_handles__add_c  := by kernel_rfl
theorem twin_handles__add_sound {O : Type} {RO : O → Loc → (Nat → Option Obj) → Prop} : FSound RO Tryz.prog 168 (twin_handles__add) :=
   have h : FSound RO Tryz.prog 168 (twin_handles__add_c) := (twin_handles__add_run) ▸ run_sound (gnil) mixed Tryz.func168 (by kernel_rfl) _
   h
noncomputable def twin_Twin__handle_c {O : Type} (k160 k168 : Sm O) : Sm O := fun xs σ =>
 bif Nat.beq xs.length 2 then
 (AV.asP (xs.getD 0 .u)).bind fun p0 =>
 (AV.asAgg 5 (xs.getD 1 .u)).bind fun c1 =>
 I6 c1 0 fun n2 => I6 c1 1 fun n3 => I6 c1 2 fun n4 => I6 c1 3 fun n5 => I6 c1 4 fun n6 => let σ7 := σ.bump 1
 let σ8 := σ7.put σ.next (.cells true 131 [J n2, J n3, J n4, J n5, J n6])
 Option.bind p0 fun q9 =>
 (σ8.ld q9.1 ((q9.2 + 14) + 1)).bind fun w10 =>
 (AV.asP w10).bind fun p11 =>
 (σ8.ld (.n σ.next) 0).bind fun w12 =>
 (AV.asI .i64 w12).bind fun n13 =>
 (bif ((n13 : Int) == 5) then
 none
 else (k160 [(.p p0), J 4] σ8).bind fun r14 =>
 (AV.asI .i64 r14.1).bind fun n15 =>
 (bif ((n15 : Int) != 0) then
 none
 else let σ16 := r14.2.bump 1
 (k168 [(.p p11), J 0] σ16).bind fun r17 =>
 (AV.asI .i64 r17.1).bind fun n18 =>
 let σ19 := r17.2.put r14.2.next (.cells true 3 [J n18])
 some ((.tup [(.sl (.loc (.n r14.2.next) 0 1) 1), J 0]), σ19)))
 else none
noncomputable def twin_Twin__handle {O : Type} (F : Nat) : Sm O := twin_Twin__handle_c (twin_Twin__request F) twin_handles__add
theorem twin_Twin__handle_ent : Entered Tryz.prog 85 := Tryz.call85
theorem twin_Twin__handle_run {O : Type} (k160 k168 : Sm O) : run (O := O) Tryz.prog [(160, k160), (168, k168)] Tryz.f85 (.n .z (.n .z (.n .z (.n (.n .z (.n .x .z)) (.n (.n .z (.n .z (.n .x .z))) .z))))) = twin_Twin__handle_c k160 k168 := by kernel_rfl
theorem twin_Twin__handle_sound {O : Type} {RO : O → Loc → (Nat → Option Obj) → Prop} (F : Nat) : FSound RO Tryz.prog 85 (twin_Twin__handle F) :=
   have h : FSound RO Tryz.prog 85 (twin_Twin__handle_c (twin_Twin__request F) twin_handles__add) := (twin_Twin__handle_run (twin_Twin__request F) twin_handles__add) ▸ run_sound (gcons twin_Twin__request_ent (twin_Twin__request_sound F) <| gcons twin_handles__add_ent (twin_handles__add_sound) <| gnil) mixed Tryz.func85 (by kernel_rfl) _
   h
noncomputable def twin_Twin__op_c {O : Type} (k85 : Sm O) : Sm O := fun xs σ =>
 bif Nat.beq xs.length 2 then
 (AV.asP (xs.getD 0 .u)).bind fun p0 =>
 (AV.asAgg 5 (xs.getD 1 .u)).bind fun c1 =>
 I6 c1 0 fun n2 => I6 c1 1 fun n3 => I6 c1 2 fun n4 => I6 c1 3 fun n5 => I6 c1 4 fun n6 => let σ7 := σ.bump 1
 let σ8 := σ7.put σ.next (.cells true 131 [J n2, J n3, J n4, J n5, J n6])
 let σ9 := σ8.bump 1
 (σ9.ld (.n σ.next) 1).bind fun w10 =>
 (AV.asI .i64 w10).bind fun n11 =>
 (σ9.ld (.n σ.next) 2).bind fun w12 =>
 (AV.asI .i64 w12).bind fun n13 =>
 (σ9.ld (.n σ.next) 3).bind fun w14 =>
 (AV.asI .i64 w14).bind fun n15 =>
 (σ9.ld (.n σ.next) 4).bind fun w16 =>
 (AV.asI .i64 w16).bind fun n17 =>
 let σ18 := σ9.put σ8.next (.cells true 129 [J 0, J 0, J 0, J 0])
 (σ18.st (.n σ8.next) 0 [J n11, J n13, J n15, J n17]).bind fun σ19 =>
 (σ19.ld (.n σ.next) 0).bind fun w20 =>
 (AV.asI .i64 w20).bind fun n21 =>
 (bif ((n21 : Int) == 0) then
 none
 else (bif ((n21 : Int) == 1) then
 (bif ((n21 : Int) == 1) then
 (σ19.ld (.n σ.next) 0).bind fun w22 =>
 (AV.asI .i64 w22).bind fun n23 =>
 (σ19.ld (.n σ.next) 1).bind fun w24 =>
 (AV.asI .i64 w24).bind fun n25 =>
 (σ19.ld (.n σ.next) 2).bind fun w26 =>
 (AV.asI .i64 w26).bind fun n27 =>
 (σ19.ld (.n σ.next) 3).bind fun w28 =>
 (AV.asI .i64 w28).bind fun n29 =>
 (σ19.ld (.n σ.next) 4).bind fun w30 =>
 (AV.asI .i64 w30).bind fun n31 =>
 (k85 [(.p p0), (.agg [J n23, J n25, J n27, J n29, J n31])] σ19).bind fun r32 =>
 (AV.asTup 2 r32.1).bind fun c33 =>
 Is c33 0 fun l34 => I6 c33 1 fun n35 => some ((.tup [L l34, J n35]), r32.2)
 else none)
 else none))
 else none
noncomputable def twin_Twin__op {O : Type} (F : Nat) : Sm O := twin_Twin__op_c (twin_Twin__handle F)
theorem twin_Twin__op_ent : Entered Tryz.prog 49 := Tryz.call49
theorem twin_Twin__op_run {O : Type} (k85 : Sm O) : run (O := O) Tryz.prog [(85, k85)] Tryz.f49 (.n .z (.n .z (.n (.n .z (.n (.n .z (.n .x (.n (.n .z (.n .z .x)) (.n .z .x)))) .z)) .z))) = twin_Twin__op_c k85 := by kernel_rfl
theorem twin_Twin__op_sound {O : Type} {RO : O → Loc → (Nat → Option Obj) → Prop} (F : Nat) : FSound RO Tryz.prog 49 (twin_Twin__op F) :=
   have h : FSound RO Tryz.prog 49 (twin_Twin__op_c (twin_Twin__handle F)) := (twin_Twin__op_run (twin_Twin__handle F)) ▸ run_sound (gcons twin_Twin__handle_ent (twin_Twin__handle_sound F) <| gnil) mixed Tryz.func49 (by kernel_rfl) _
   h
noncomputable def twin_Twin__Do_c {O : Type} (k46 k49 : Sm O) : Sm O := fun xs σ =>
 bif Nat.beq xs.length 2 then
 (AV.asP (xs.getD 0 .u)).bind fun p0 =>
 (AV.asSl (xs.getD 1 .u)).bind fun l1 =>
 let σ2 := σ.bump 1
 let σ3 := σ2.put σ.next (.cells true 43 [J 0, N])
 let σ4 := σ3.bump 1
 (k46 [L l1] σ4).bind fun r5 =>
 (AV.asTup 2 r5.1).bind fun c6 =>
 (AV.asAgg 5 (c6.getD 0 .u)).bind fun c7 =>
 I6 c7 0 fun n8 => I6 c7 1 fun n9 => I6 c7 2 fun n10 => I6 c7 3 fun n11 => I6 c7 4 fun n12 => I6 c6 1 fun n13 => let σ14 := r5.2.put σ3.next (.cells true 131 [J 0, J 0, J 0, J 0, J 0])
 (σ14.st (.n σ3.next) 0 [J n8, J n9, J n10, J n11, J n12]).bind fun σ15 =>
 (bif ((n13 : Int) != 0) then
 none
 else (σ15.ld (.n σ3.next) 0).bind fun w16 =>
 (AV.asI .i64 w16).bind fun n17 =>
 (σ15.ld (.n σ3.next) 1).bind fun w18 =>
 (AV.asI .i64 w18).bind fun n19 =>
 (σ15.ld (.n σ3.next) 2).bind fun w20 =>
 (AV.asI .i64 w20).bind fun n21 =>
 (σ15.ld (.n σ3.next) 3).bind fun w22 =>
 (AV.asI .i64 w22).bind fun n23 =>
 (σ15.ld (.n σ3.next) 4).bind fun w24 =>
 (AV.asI .i64 w24).bind fun n25 =>
 (k49 [(.p p0), (.agg [J n17, J n19, J n21, J n23, J n25])] σ15).bind fun r26 =>
 (AV.asTup 2 r26.1).bind fun c27 =>
 Is c27 0 fun l28 => I6 c27 1 fun n29 => (bif ((n29 : Int) != 0) then
 none
 else (r26.2.st (.n σ.next) 0 [J 0, L l28]).bind fun σ30 =>
 (σ30.ld (.n σ.next) 0).bind fun w31 =>
 (AV.asI .i64 w31).bind fun n32 =>
 (σ30.ld (.n σ.next) 1).bind fun w33 =>
 (AV.asSl w33).bind fun l34 =>
 some ((.agg [J n32, L l34]), σ30)))
 else none
noncomputable def twin_Twin__Do {O : Type} (F : Nat) : Sm O := twin_Twin__Do_c record_Parse (twin_Twin__op F)
theorem twin_Twin__Do_ent : Entered Tryz.prog 24 := Tryz.call24
theorem twin_Twin__Do_run {O : Type} (k46 k49 : Sm O) : run (O := O) Tryz.prog [(46, k46), (49, k49)] Tryz.f24 (.n .z (.n .z (.n (.n .z (.n .x .z)) (.n .z (.n (.n .z (.n .x .z)) .z))))) = twin_Twin__Do_c k46 k49 := by kernel_rfl
theorem twin_Twin__Do_sound {O : Type} {RO : O → Loc → (Nat → Option Obj) → Prop} (F : Nat) : FSound RO Tryz.prog 24 (twin_Twin__Do F) :=
   have h : FSound RO Tryz.prog 24 (twin_Twin__Do_c record_Parse (twin_Twin__op F)) := (twin_Twin__Do_run record_Parse (twin_Twin__op F)) ▸ run_sound (gcons record_Parse_ent (record_Parse_sound) <| gcons twin_Twin__op_ent (twin_Twin__op_sound F) <| gnil) mixed Tryz.func24 (by kernel_rfl) _
   h
noncomputable def twin_Run_L1 {O : Type} (l1 : SA × Nat) : List AV × AH O → Option ((List AV × AH O) ⊕ (List AV × AH O)) := (fun r8 =>
 (AV.asSl (r8.1.getD 0 .u)).bind fun l9 =>
 (AV.asI .i64 (r8.1.getD 1 .u)).bind fun n10 =>
 (bif (decide (n10 < (l1.2 : Int))) then
 none
 else some (Sum.inr ([L l9], r8.2))))
noncomputable def twin_Run_c {O : Type} (k18 k24 : Sm O) : Sm O := fun xs σ =>
 bif Nat.beq xs.length 2 then
 (AV.asSl (xs.getD 0 .u)).bind fun l0 =>
 (AV.asSl (xs.getD 1 .u)).bind fun l1 =>
 (k18 [L l0] σ).bind fun r2 =>
 (AV.asTup 2 r2.1).bind fun c3 =>
 (AV.asP (c3.getD 0 .u)).bind fun p4 =>
 I6 c3 1 fun n5 => (bif ((n5 : Int) != 0) then
 none
 else let σ6 := r2.2.bump 1
 let σ7 := σ6.put r2.2.next (.cells true 43 [J 0, L l0])
 (loopF (S := List AV × AH O) (T := List AV × AH O) (twin_Run_L1 l1) ([(.sl (.loc (.n r2.2.next) 0 2) 1), J 0], σ7)).bind fun r11 =>
 (AV.asSl (r11.1.getD 0 .u)).bind fun l12 =>
 some (L l12, r11.2))
 else none
noncomputable def twin_Run {O : Type} (F : Nat) : Sm O := twin_Run_c twin_New (twin_Twin__Do F)
theorem twin_Run_ent : Entered Tryz.prog 13 := Tryz.call13
theorem twin_Run_run {O : Type} (k18 k24 : Sm O) : run (O := O) Tryz.prog [(18, k18), (24, k24)] Tryz.f13 (.n .z (.n .z (.n (.n .z (.n .x .z)) (.n .z (.n (.n .z (.n (.lp false 0 [(7, .one .sl), (25, .one (.i .i64))] [(7, .one .sl)] (.n .z (.n (.n .x .z) (.n (.n .z .z) .z)))) .z)) .z))))) = twin_Run_c k18 k24 := by kernel_rfl
theorem twin_Run_sound {O : Type} {RO : O → Loc → (Nat → Option Obj) → Prop} (F : Nat) : FSound RO Tryz.prog 13 (twin_Run F) :=
   have h : FSound RO Tryz.prog 13 (twin_Run_c twin_New (twin_Twin__Do F)) := (twin_Run_run twin_New (twin_Twin__Do F)) ▸ run_sound (gcons twin_New_ent (twin_New_sound) <| gcons twin_Twin__Do_ent (twin_Twin__Do_sound F) <| gnil) mixed Tryz.func13 (by kernel_rfl) _
   h
noncomputable def slices_Equal___int_int__L1 {O : Type} (l0 : SA × Nat) (l1 : SA × Nat) : List AV × AH O → Option ((List AV × AH O) ⊕ (List AV × AH O)) := (fun r2 =>
 (AV.asI .i64 (r2.1.getD 0 .u)).bind fun n3 =>
 (bif (decide (n3 < (l0.2 : Int))) then
 (bif ((decide ((0 : Int) ≤ n3)) && (decide (n3 < (l0.2 : Int)))) then
 (SA.ref l0.1).bind fun q4 =>
 (r2.2.ld q4.1 (q4.2 + (n3.toNat * 1))).bind fun w5 =>
 (AV.asI .i64 w5).bind fun n6 =>
 (bif ((decide ((0 : Int) ≤ n3)) && (decide (n3 < (l1.2 : Int)))) then
 (SA.ref l1.1).bind fun q7 =>
 (r2.2.ld q7.1 (q7.2 + (n3.toNat * 1))).bind fun w8 =>
 (AV.asI .i64 w8).bind fun n9 =>
 (bif ((n6 : Int) != n9) then
 none
 else some (Sum.inl ([(.i .i64 (IntKind.i64.wrap (n3 + 1)))], r2.2)))
 else none)
 else none)
 else some (Sum.inr ([], r2.2))))
noncomputable def slices_Equal___int_int__c {O : Type} : Sm O := fun xs σ =>
 bif Nat.beq xs.length 2 then
 (AV.asSl (xs.getD 0 .u)).bind fun l0 =>
 (AV.asSl (xs.getD 1 .u)).bind fun l1 =>
 (bif (((l0.2 : Int) : Int) != (l1.2 : Int)) then
 none
 else (loopF (S := List AV × AH O) (T := List AV × AH O) (slices_Equal___int_int__L1 l0 l1) ([J 0], σ)).bind fun r10 =>
 some ((.b true), r10.2))
 else none
noncomputable def slices_Equal___int_int_ {O : Type} : Sm O := slices_Equal___int_int__c
theorem slices_Equal___int_int__ent : Entered Tryz.prog 25 := Tryz.call25
theorem slices_Equal___int_int__run {O : Type} : run (O := O) Tryz.prog [] Tryz.f25 (.n .z (.n (.n .z (.n .x .z)) (.n (.n .z (.n (.lp false 0 [(13, .one (.i .i64))] [] (.n .z (.n .z (.n (.n (.n .z (.n (.d [] [0, 1, 2, 3, 4, 5, 6, 7, 8] [0, 0, 3, 7, 0, 0, 48, 112, 255]) (.n .x .z))) .z) .z)))) .z)) .z))) = slices_Equal___int_int__c  := by kernel_rfl
theorem slices_Equal___int_int__sound {O : Type} {RO : O → Loc → (Nat → Option Obj) → Prop} : FSound RO Tryz.prog 25 (slices_Equal___int_int_) :=
   have h : FSound RO Tryz.prog 25 (slices_Equal___int_int__c) := (slices_Equal___int_int__run) ▸ run_sound (gnil) mixed Tryz.func25 (by kernel_rfl) _
   h
noncomputable def trial_same_c {O : Type} (k25 : Sm O) : Sm O := fun xs σ =>
 bif Nat.beq xs.length 2 then
 (AV.asAgg 2 (xs.getD 0 .u)).bind fun c0 =>
 I6 c0 0 fun n1 => Is c0 1 fun l2 => (AV.asAgg 2 (xs.getD 1 .u)).bind fun c3 =>
 I6 c3 0 fun n4 => Is c3 1 fun l5 => let σ6 := σ.bump 2
 let σ7 := σ6.put σ.next (.cells true 43 [J n1, L l2])
 let σ8 := σ7.put (σ.next + 1) (.cells true 43 [J n4, L l5])
 (σ8.ld (.n σ.next) 0).bind fun w9 =>
 (AV.asI .i64 w9).bind fun n10 =>
 (σ8.ld (.n (σ.next + 1)) 0).bind fun w11 =>
 (AV.asI .i64 w11).bind fun n12 =>
 ((bif (((n10 : Int) == n12) == true) then
 (σ8.ld (.n σ.next) 1).bind fun w13 =>
 (AV.asSl w13).bind fun l14 =>
 (σ8.ld (.n (σ.next + 1)) 1).bind fun w15 =>
 (AV.asSl w15).bind fun l16 =>
 (k25 [L l14, L l16] σ8).bind fun r17 =>
 (AV.asB r17.1).bind fun b18 =>
 some ([(.b b18)], r17.2)
 else some ([(.b false)], σ8)) : Option (List AV × AH O)).bind fun r19 =>
 (AV.asB (r19.1.getD 0 .u)).bind fun b20 =>
 some ((.b b20), r19.2)
 else none
noncomputable def trial_same {O : Type} : Sm O := trial_same_c slices_Equal___int_int_
theorem trial_same_ent : Entered Tryz.prog 15 := Tryz.call15
theorem trial_same_run {O : Type} (k25 : Sm O) : run (O := O) Tryz.prog [(25, k25)] Tryz.f15 (.n .z (.n (.g [(5, 5, [(16, .one .b)])]) .z)) = trial_same_c k25 := by kernel_rfl
theorem trial_same_sound {O : Type} {RO : O → Loc → (Nat → Option Obj) → Prop} : FSound RO Tryz.prog 15 (trial_same) :=
   have h : FSound RO Tryz.prog 15 (trial_same_c slices_Equal___int_int_) := (trial_same_run slices_Equal___int_int_) ▸ run_sound (gcons slices_Equal___int_int__ent (slices_Equal___int_int__sound) <| gnil) mixed Tryz.func15 (by kernel_rfl) _
   h
noncomputable def slices_EqualFunc_api_Answer__L1 {O : Type} (l0 : SA × Nat) (l1 : SA × Nat) (k15 : Sm O) (f2 : Option (Fn × List AV × List AV)) : List AV × AH O → Option ((List AV × AH O) ⊕ (List AV × AH O)) := (fun r3 =>
 (AV.asI .i64 (r3.1.getD 0 .u)).bind fun n4 =>
 (bif (decide (n4 < (l0.2 : Int))) then
 let σ5 := r3.2.bump 1
 (bif ((decide ((0 : Int) ≤ n4)) && (decide (n4 < (l0.2 : Int)))) then
 (SA.ref l0.1).bind fun q6 =>
 (σ5.ld q6.1 (q6.2 + (n4.toNat * 2))).bind fun w7 =>
 (AV.asI .i64 w7).bind fun n8 =>
 (σ5.ld q6.1 ((q6.2 + (n4.toNat * 2)) + 1)).bind fun w9 =>
 (AV.asSl w9).bind fun l10 =>
 let σ11 := σ5.put r3.2.next (.cells true 43 [J 0, N])
 (σ11.st (.n r3.2.next) 0 [J n8, L l10]).bind fun σ12 =>
 let σ13 := σ12.bump 1
 (bif ((decide ((0 : Int) ≤ n4)) && (decide (n4 < (l1.2 : Int)))) then
 (SA.ref l1.1).bind fun q14 =>
 (σ13.ld q14.1 (q14.2 + (n4.toNat * 2))).bind fun w15 =>
 (AV.asI .i64 w15).bind fun n16 =>
 (σ13.ld q14.1 ((q14.2 + (n4.toNat * 2)) + 1)).bind fun w17 =>
 (AV.asSl w17).bind fun l18 =>
 let σ19 := σ13.put σ12.next (.cells true 43 [J 0, N])
 (σ19.st (.n σ12.next) 0 [J n16, L l18]).bind fun σ20 =>
 (σ20.ld (.n r3.2.next) 0).bind fun w21 =>
 (AV.asI .i64 w21).bind fun n22 =>
 (σ20.ld (.n r3.2.next) 1).bind fun w23 =>
 (AV.asSl w23).bind fun l24 =>
 (σ20.ld (.n σ12.next) 0).bind fun w25 =>
 (AV.asI .i64 w25).bind fun n26 =>
 (σ20.ld (.n σ12.next) 1).bind fun w27 =>
 (AV.asSl w27).bind fun l28 =>
 (callV [(15, k15)] f2 [(.agg [J n22, L l24]), (.agg [J n26, L l28])] σ20).bind fun r29 =>
 (AV.asB r29.1).bind fun b30 =>
 (bif (!b30) then
 none
 else some (Sum.inl ([(.i .i64 (IntKind.i64.wrap (n4 + 1)))], r29.2)))
 else none)
 else none)
 else some (Sum.inr ([], r3.2))))
noncomputable def slices_EqualFunc_api_Answer__c {O : Type} (k15 : Sm O) : Sm O := fun xs σ =>
 bif Nat.beq xs.length 3 then
 (AV.asSl (xs.getD 0 .u)).bind fun l0 =>
 (AV.asSl (xs.getD 1 .u)).bind fun l1 =>
 (AV.asF (xs.getD 2 .u)).bind fun f2 =>
 (bif (((l0.2 : Int) : Int) != (l1.2 : Int)) then
 none
 else (loopF (S := List AV × AH O) (T := List AV × AH O) (slices_EqualFunc_api_Answer__L1 l0 l1 k15 f2) ([J 0], σ)).bind fun r31 =>
 some ((.b true), r31.2))
 else none
noncomputable def slices_EqualFunc_api_Answer_ {O : Type} : Sm O := slices_EqualFunc_api_Answer__c trial_same
theorem slices_EqualFunc_api_Answer__ent : Entered Tryz.prog 14 := Tryz.call14
theorem slices_EqualFunc_api_Answer__run {O : Type} (k15 : Sm O) : run (O := O) Tryz.prog [(15, k15)] Tryz.f14 (.n .z (.n (.n .z (.n .x .z)) (.n (.n .z (.n (.lp false 0 [(17, .one (.i .i64))] [] (.n .z (.n .z (.n (.n (.n .z (.n .z (.n .z (.n .x .z)))) .z) .z)))) .z)) .z))) = slices_EqualFunc_api_Answer__c k15 := by kernel_rfl
theorem slices_EqualFunc_api_Answer__sound {O : Type} {RO : O → Loc → (Nat → Option Obj) → Prop} : FSound RO Tryz.prog 14 (slices_EqualFunc_api_Answer_) :=
   have h : FSound RO Tryz.prog 14 (slices_EqualFunc_api_Answer__c trial_same) := (slices_EqualFunc_api_Answer__run trial_same) ▸ run_sound (gcons trial_same_ent (trial_same_sound) <| gnil) mixed Tryz.func14 (by kernel_rfl) _
   h
noncomputable def service_Service__Heap_c {O : Type} : Sm O := fun xs σ =>
 bif Nat.beq xs.length 1 then
 (AV.asP (xs.getD 0 .u)).bind fun p0 =>
 Option.bind p0 fun q1 =>
 (σ.ld q1.1 q1.2).bind fun w2 =>
 (AV.asP w2).bind fun p3 =>
 some ((.p p3), σ)
 else none
noncomputable def service_Service__Heap {O : Type} : Sm O := service_Service__Heap_c
theorem service_Service__Heap_ent : Entered Tryz.prog 45 := Tryz.call45
theorem service_Service__Heap_run {O : Type} : run (O := O) Tryz.prog [] Tryz.f45 (.n .z .z) = service_Service__Heap_c  := by kernel_rfl
theorem service_Service__Heap_sound {O : Type} {RO : O → Loc → (Nat → Option Obj) → Prop} : FSound RO Tryz.prog 45 (service_Service__Heap) :=
   have h : FSound RO Tryz.prog 45 (service_Service__Heap_c) := (service_Service__Heap_run) ▸ run_sound (gnil) mixed Tryz.func45 (by kernel_rfl) _
   h
noncomputable def trial_trial__heap_c {O : Type} (k45 : Sm O) : Sm O := fun xs σ =>
 bif Nat.beq xs.length 1 then
 (AV.asP (xs.getD 0 .u)).bind fun p0 =>
 Option.bind p0 fun q1 =>
 (σ.ld q1.1 (q1.2 + 5)).bind fun w2 =>
 (AV.asP w2).bind fun p3 =>
 (k45 [(.p p3)] σ).bind fun r4 =>
 (AV.asP r4.1).bind fun p5 =>
 some ((.p p5), r4.2)
 else none
noncomputable def trial_trial__heap {O : Type} : Sm O := trial_trial__heap_c service_Service__Heap
theorem trial_trial__heap_ent : Entered Tryz.prog 21 := Tryz.call21
theorem trial_trial__heap_run {O : Type} (k45 : Sm O) : run (O := O) Tryz.prog [(45, k45)] Tryz.f21 (.n .z .z) = trial_trial__heap_c k45 := by kernel_rfl
theorem trial_trial__heap_sound {O : Type} {RO : O → Loc → (Nat → Option Obj) → Prop} : FSound RO Tryz.prog 21 (trial_trial__heap) :=
   have h : FSound RO Tryz.prog 21 (trial_trial__heap_c service_Service__Heap) := (trial_trial__heap_run service_Service__Heap) ▸ run_sound (gcons service_Service__Heap_ent (service_Service__Heap_sound) <| gnil) mixed Tryz.func21 (by kernel_rfl) _
   h
noncomputable def heap_Heap__Space_c {O : Type} : Sm O := fun xs σ =>
 bif Nat.beq xs.length 1 then
 (AV.asP (xs.getD 0 .u)).bind fun p0 =>
 Option.bind p0 fun q1 =>
 (σ.ld q1.1 (q1.2 + 5)).bind fun w2 =>
 (AV.asP w2).bind fun p3 =>
 some ((.p p3), σ)
 else none
noncomputable def heap_Heap__Space {O : Type} : Sm O := heap_Heap__Space_c
theorem heap_Heap__Space_ent : Entered Tryz.prog 34 := Tryz.call34
theorem heap_Heap__Space_run {O : Type} : run (O := O) Tryz.prog [] Tryz.f34 (.n .z .z) = heap_Heap__Space_c  := by kernel_rfl
theorem heap_Heap__Space_sound {O : Type} {RO : O → Loc → (Nat → Option Obj) → Prop} : FSound RO Tryz.prog 34 (heap_Heap__Space) :=
   have h : FSound RO Tryz.prog 34 (heap_Heap__Space_c) := (heap_Heap__Space_run) ▸ run_sound (gnil) mixed Tryz.func34 (by kernel_rfl) _
   h
noncomputable def heap_Heap__Count_p {O : Type} (w : Words O) (k56 : Sm O) : Sm O := fun xs σ =>
 bif Nat.beq xs.length 1 then
 (AV.asP (xs.getD 0 .u)).bind fun p0 =>
 let σ1 := σ.bump 1
 let σ2 := σ1.put σ.next (.cells true 109 P0)
 let σ3 := σ2.bump 1
 Option.bind p0 fun q4 =>
 (σ3.ld q4.1 (q4.2 + 32)).bind fun w5 =>
 (AV.asI .i64 w5).bind fun n6 =>
 (σ3.ld q4.1 ((q4.2 + 32) + 1)).bind fun w7 =>
 (AV.asI .i64 w7).bind fun n8 =>
 (σ3.ld q4.1 (((q4.2 + 32) + 1) + 1)).bind fun w9 =>
 (AV.asI .i64 w9).bind fun n10 =>
 (σ3.ld q4.1 ((((q4.2 + 32) + 1) + 1) + 1)).bind fun w11 =>
 (AV.asI .i64 w11).bind fun n12 =>
 (σ3.ld q4.1 (((((q4.2 + 32) + 1) + 1) + 1) + 1)).bind fun w13 =>
 (AV.asI .i64 w13).bind fun n14 =>
 (σ3.ld q4.1 ((((((q4.2 + 32) + 1) + 1) + 1) + 1) + 1)).bind fun w15 =>
 (AV.asI .i64 w15).bind fun n16 =>
 (σ3.ld q4.1 (((((((q4.2 + 32) + 1) + 1) + 1) + 1) + 1) + 1)).bind fun w17 =>
 (AV.asI .i64 w17).bind fun n18 =>
 (σ3.ld q4.1 ((((((((q4.2 + 32) + 1) + 1) + 1) + 1) + 1) + 1) + 1)).bind fun w19 =>
 (AV.asI .i64 w19).bind fun n20 =>
 let σ21 := σ3.put σ2.next (.cells true 109 P0)
 (σ21.st (.n σ2.next) 0 (P1 n6 n8 n10 n12 n14 n16 n18 n20)).bind fun σ22 =>
 Option.bind p0 fun q23 =>
 (σ22.ld q23.1 ((q23.2 + 7) + 5)).bind fun w24 =>
 (AV.asI .i64 w24).bind fun n25 =>
 (k56 [(.p p0)] σ22).bind fun r26 =>
 (AV.asI .i64 r26.1).bind fun n27 =>
 (chkE (r26.2.ld q23.1 ((q23.2 + 7) + 5)) (some (.i .i64 n25))).bind fun _ =>
 (r26.2.st (.n σ2.next) 4 [J n25]).bind fun σ28 =>
 (σ28.st (.n σ2.next) 5 [J n27]).bind fun σ29 =>
 w.W0 σ29 (.n σ2.next) 0 fun n31 n33 n35 n37 n39 n41 n43 n45 =>
 (σ29.st (.n σ.next) 0 (P1 n31 n33 n35 n37 n39 n41 n43 n45)).bind fun σ46 =>
 w.W0 σ46 (.n σ.next) 0 fun n48 n50 n52 n54 n56 n58 n60 n62 =>
 some ((.agg (P1 n48 n50 n52 n54 n56 n58 n60 n62)), σ46)
 else none
noncomputable def heap_Heap__Count_c {O : Type} (k56 : Sm O) : Sm O := heap_Heap__Count_p fastWords k56
noncomputable def heap_Heap__Count {O : Type} : Sm O := heap_Heap__Count_c heap_Heap__used
theorem heap_Heap__Count_ent : Entered Tryz.prog 37 := Tryz.call37
theorem heap_Heap__Count_run {O : Type} (k56 : Sm O) : run (O := O) Tryz.prog [(56, k56)] Tryz.f37 (.n .z (.n .z (.n (.d [] [0, 1, 2, 3, 4, 5, 6, 8, 7, 9, 10, 11] [0, 1, 3, 7, 15, 31, 0, 64, 63, 511, 1023, 2047]) .z))) = heap_Heap__Count_c k56 :=
 (show run (O := O) Tryz.prog [(56, k56)] Tryz.f37 (.n .z (.n .z (.n (.d [] [0, 1, 2, 3, 4, 5, 6, 8, 7, 9, 10, 11] [0, 1, 3, 7, 15, 31, 0, 64, 63, 511, 1023, 2047]) .z))) = heap_Heap__Count_p slowWords k56 by kernel_rfl).trans (congrArg (fun w => heap_Heap__Count_p w k56) words_eq)
theorem heap_Heap__Count_sound {O : Type} {RO : O → Loc → (Nat → Option Obj) → Prop} : FSound RO Tryz.prog 37 (heap_Heap__Count) :=
   have h : FSound RO Tryz.prog 37 (heap_Heap__Count_c heap_Heap__used) := (heap_Heap__Count_run heap_Heap__used) ▸ run_sound (gcons heap_Heap__used_ent (heap_Heap__used_sound) <| gnil) mixed Tryz.func37 (by kernel_rfl) _
   h
noncomputable def reach_From_L1 {O : Type} (l5 : SA × Nat) : List AV × AH O → Option ((List AV × AH O) ⊕ (List AV × AH O)) := (fun r6 =>
 (AV.asSl (r6.1.getD 0 .u)).bind fun l7 =>
 (AV.asI .i64 (r6.1.getD 1 .u)).bind fun n8 =>
 (bif (decide (n8 < (l5.2 : Int))) then
 none
 else some (Sum.inr ([L l7], r6.2))))
noncomputable def reach_From_c {O : Type} (k103 k104 : Sm O) : Sm O := fun xs σ =>
 bif Nat.beq xs.length 2 then
 (AV.asP (xs.getD 0 .u)).bind fun p0 =>
 (AV.asSl (xs.getD 1 .u)).bind fun l1 =>
 (k103 [(.p p0), L l1] σ).bind fun r2 =>
 (AV.asMp r2.1).bind fun m3 =>
 (k104 [(.p p0)] r2.2).bind fun r4 =>
 (AV.asSl r4.1).bind fun l5 =>
 (loopF (S := List AV × AH O) (T := List AV × AH O) (reach_From_L1 l5) ([N, J 0], r4.2)).bind fun r9 =>
 (AV.asSl (r9.1.getD 0 .u)).bind fun l10 =>
 some (L l10, r9.2)
 else none
noncomputable def reach_From {O : Type} (F : Nat) : Sm O := reach_From_c reach_marked (graph_Graph__Ids F)
theorem reach_From_ent : Entered Tryz.prog 58 := Tryz.call58
theorem reach_From_run {O : Type} (k103 k104 : Sm O) : run (O := O) Tryz.prog [(103, k103), (104, k104)] Tryz.f58 (.n .z (.n .z (.n .z (.n (.n .z (.n (.lp false 0 [(5, .one .sl), (15, .one (.i .i64))] [(5, .one .sl)] (.n .z (.n (.n .x .z) (.n (.n (.n .z (.n .z (.n .x .x))) .z) .z)))) .z)) .z)))) = reach_From_c k103 k104 := by kernel_rfl
theorem reach_From_sound {O : Type} {RO : O → Loc → (Nat → Option Obj) → Prop} (F : Nat) : FSound RO Tryz.prog 58 (reach_From F) :=
   have h : FSound RO Tryz.prog 58 (reach_From_c reach_marked (graph_Graph__Ids F)) := (reach_From_run reach_marked (graph_Graph__Ids F)) ▸ run_sound (gcons reach_marked_ent (reach_marked_sound) <| gcons graph_Graph__Ids_ent (graph_Graph__Ids_sound F) <| gnil) mixed Tryz.func58 (by kernel_rfl) _
   h
noncomputable def reach_Words_L1 {O : Type} (l2 : SA × Nat) : List AV × AH O → Option ((List AV × AH O) ⊕ (List AV × AH O)) := (fun r5 =>
 (AV.asI .i64 (r5.1.getD 0 .u)).bind fun n6 =>
 (AV.asI .i64 (r5.1.getD 1 .u)).bind fun n7 =>
 (bif (decide (n7 < (l2.2 : Int))) then
 none
 else some (Sum.inr ([J n6], r5.2))))
noncomputable def reach_Words_c {O : Type} : Sm O := fun xs σ =>
 bif Nat.beq xs.length 3 then
 (AV.asP (xs.getD 0 .u)).bind fun p0 =>
 (AV.asI .i64 (xs.getD 1 .u)).bind fun n1 =>
 (AV.asSl (xs.getD 2 .u)).bind fun l2 =>
 let σ3 := σ.bump 1
 let σ4 := σ3.put σ.next (.map [] [] 0)
 (loopF (S := List AV × AH O) (T := List AV × AH O) (reach_Words_L1 l2) ([J 0, J 0], σ4)).bind fun r8 =>
 (AV.asI .i64 (r8.1.getD 0 .u)).bind fun n9 =>
 some (J n9, r8.2)
 else none
noncomputable def reach_Words {O : Type} : Sm O := reach_Words_c
theorem reach_Words_ent : Entered Tryz.prog 57 := Tryz.call57
theorem reach_Words_run {O : Type} : run (O := O) Tryz.prog [] Tryz.f57 (.n .z (.n .z (.n .z (.n (.n .z (.n (.lp false 0 [(7, .one (.i .i64)), (16, .one (.i .i64))] [(7, .one (.i .i64))] (.n .z (.n (.n .x .z) (.n (.n (.n .z (.n .z (.n (.n (.g [(2, 4, [(33, .one .b)])]) (.n .x .x)) .z))) .z) .z)))) .z)) .z)))) = reach_Words_c  := by kernel_rfl
theorem reach_Words_sound {O : Type} {RO : O → Loc → (Nat → Option Obj) → Prop} : FSound RO Tryz.prog 57 (reach_Words) :=
   have h : FSound RO Tryz.prog 57 (reach_Words_c) := (reach_Words_run) ▸ run_sound (gnil) mixed Tryz.func57 (by kernel_rfl) _
   h
noncomputable def twin_Twin__Live_c {O : Type} (k59 k58 k57 k60 : Sm O) : Sm O := fun xs σ =>
 bif Nat.beq xs.length 1 then
 (AV.asP (xs.getD 0 .u)).bind fun p0 =>
 Option.bind p0 fun q1 =>
 (σ.ld q1.1 (q1.2 + 5)).bind fun w2 =>
 (AV.asP w2).bind fun p3 =>
 Option.bind p0 fun q4 =>
 (σ.ld q4.1 (q4.2 + 2)).bind fun w5 =>
 (AV.asI .i64 w5).bind fun n6 =>
 Option.bind p0 fun q7 =>
 (σ.ld q7.1 (q7.2 + 5)).bind fun w8 =>
 (AV.asP w8).bind fun p9 =>
 Option.bind p0 fun q10 =>
 (k59 [(.p p0)] σ).bind fun r11 =>
 (AV.asSl r11.1).bind fun l12 =>
 (chkE (r11.2.ld q1.1 (q1.2 + 5)) (some (.p p3))).bind fun _ =>
 (chkE (r11.2.ld q4.1 (q4.2 + 2)) (some (.i .i64 n6))).bind fun _ =>
 (chkE (r11.2.ld q7.1 (q7.2 + 5)) (some (.p p9))).bind fun _ =>
 (k58 [(.p p9), L l12] r11.2).bind fun r13 =>
 (AV.asSl r13.1).bind fun l14 =>
 (chkE (r13.2.ld q1.1 (q1.2 + 5)) (some (.p p3))).bind fun _ =>
 (chkE (r13.2.ld q4.1 (q4.2 + 2)) (some (.i .i64 n6))).bind fun _ =>
 (k57 [(.p p3), J n6, L l14] r13.2).bind fun r15 =>
 (AV.asI .i64 r15.1).bind fun n16 =>
 (k60 [(.p (some (q10.1, (q10.2 + 14))))] r15.2).bind fun r17 =>
 (AV.asI .i64 r17.1).bind fun n18 =>
 some ((.i .i64 (IntKind.i64.wrap (n16 + n18))), r17.2)
 else none
noncomputable def twin_Twin__Live {O : Type} (F : Nat) : Sm O := twin_Twin__Live_c twin_Twin__Held (reach_From F) reach_Words twin_roots__charge
theorem twin_Twin__Live_ent : Entered Tryz.prog 38 := Tryz.call38
theorem twin_Twin__Live_run {O : Type} (k59 k58 k57 k60 : Sm O) : run (O := O) Tryz.prog [(59, k59), (58, k58), (57, k57), (60, k60)] Tryz.f38 (.n .z (.n (.d [] [0, 1, 2, 3, 4, 5, 6, 7, 8, 9, 10, 11, 12, 13, 17, 18, 19, 14, 15, 16, 20, 21, 22] [0, 1, 3, 7, 0, 16, 48, 112, 240, 0, 512, 1536, 3584, 0, 8192, 32256, 65535, 0, 131072, 393216, 1048575, 2097151, 4194303]) .z)) = twin_Twin__Live_c k59 k58 k57 k60 := by kernel_rfl
theorem twin_Twin__Live_sound {O : Type} {RO : O → Loc → (Nat → Option Obj) → Prop} (F : Nat) : FSound RO Tryz.prog 38 (twin_Twin__Live F) :=
   have h : FSound RO Tryz.prog 38 (twin_Twin__Live_c twin_Twin__Held (reach_From F) reach_Words twin_roots__charge) := (twin_Twin__Live_run twin_Twin__Held (reach_From F) reach_Words twin_roots__charge) ▸ run_sound (gcons twin_Twin__Held_ent (twin_Twin__Held_sound) <| gcons reach_From_ent (reach_From_sound F) <| gcons reach_Words_ent (reach_Words_sound) <| gcons twin_roots__charge_ent (twin_roots__charge_sound) <| gnil) mixed Tryz.func38 (by kernel_rfl) _
   h
noncomputable def heap_Heap__Last_c {O : Type} : Sm O := fun xs σ =>
 bif Nat.beq xs.length 1 then
 (AV.asP (xs.getD 0 .u)).bind fun p0 =>
 let σ1 := σ.bump 1
 let σ2 := σ1.put σ.next (.cells true 146 [J 0, J 0, J 0, J 0, J 0, J 0, J 0, (.i .u64 0), (.i .u64 0), (.p none)])
 Option.bind p0 fun q3 =>
 (σ2.ld q3.1 (q3.2 + 21)).bind fun w4 =>
 (AV.asI .i64 w4).bind fun n5 =>
 (σ2.ld q3.1 ((q3.2 + 21) + 1)).bind fun w6 =>
 (AV.asI .i64 w6).bind fun n7 =>
 (σ2.ld q3.1 (((q3.2 + 21) + 1) + 1)).bind fun w8 =>
 (AV.asI .i64 w8).bind fun n9 =>
 (σ2.ld q3.1 ((((q3.2 + 21) + 1) + 1) + 1)).bind fun w10 =>
 (AV.asI .i64 w10).bind fun n11 =>
 (σ2.ld q3.1 (((((q3.2 + 21) + 1) + 1) + 1) + 1)).bind fun w12 =>
 (AV.asI .i64 w12).bind fun n13 =>
 (σ2.ld q3.1 ((((((q3.2 + 21) + 1) + 1) + 1) + 1) + 1)).bind fun w14 =>
 (AV.asI .i64 w14).bind fun n15 =>
 (σ2.ld q3.1 (((((((q3.2 + 21) + 1) + 1) + 1) + 1) + 1) + 1)).bind fun w16 =>
 (AV.asI .i64 w16).bind fun n17 =>
 (σ2.ld q3.1 ((((((((q3.2 + 21) + 1) + 1) + 1) + 1) + 1) + 1) + 1)).bind fun w18 =>
 (AV.asI .u64 w18).bind fun n19 =>
 (σ2.ld q3.1 (((((((((q3.2 + 21) + 1) + 1) + 1) + 1) + 1) + 1) + 1) + 1)).bind fun w20 =>
 (AV.asI .u64 w20).bind fun n21 =>
 (σ2.ld q3.1 ((((((((((q3.2 + 21) + 1) + 1) + 1) + 1) + 1) + 1) + 1) + 1) + 1)).bind fun w22 =>
 (AV.asP w22).bind fun p23 =>
 (σ2.st (.n σ.next) 0 [J n5, J n7, J n9, J n11, J n13, J n15, J n17, (.i .u64 n19), (.i .u64 n21), (.p p23)]).bind fun σ24 =>
 (σ24.ld (.n σ.next) 0).bind fun w25 =>
 (AV.asI .i64 w25).bind fun n26 =>
 (σ24.ld (.n σ.next) 1).bind fun w27 =>
 (AV.asI .i64 w27).bind fun n28 =>
 (σ24.ld (.n σ.next) 2).bind fun w29 =>
 (AV.asI .i64 w29).bind fun n30 =>
 (σ24.ld (.n σ.next) 3).bind fun w31 =>
 (AV.asI .i64 w31).bind fun n32 =>
 (σ24.ld (.n σ.next) 4).bind fun w33 =>
 (AV.asI .i64 w33).bind fun n34 =>
 (σ24.ld (.n σ.next) 5).bind fun w35 =>
 (AV.asI .i64 w35).bind fun n36 =>
 (σ24.ld (.n σ.next) 6).bind fun w37 =>
 (AV.asI .i64 w37).bind fun n38 =>
 (σ24.ld (.n σ.next) 7).bind fun w39 =>
 (AV.asI .u64 w39).bind fun n40 =>
 (σ24.ld (.n σ.next) 8).bind fun w41 =>
 (AV.asI .u64 w41).bind fun n42 =>
 (σ24.ld (.n σ.next) 9).bind fun w43 =>
 (AV.asP w43).bind fun p44 =>
 some ((.agg [J n26, J n28, J n30, J n32, J n34, J n36, J n38, (.i .u64 n40), (.i .u64 n42), (.p p44)]), σ24)
 else none
noncomputable def heap_Heap__Last {O : Type} : Sm O := heap_Heap__Last_c
theorem heap_Heap__Last_ent : Entered Tryz.prog 63 := Tryz.call63
theorem heap_Heap__Last_run {O : Type} : run (O := O) Tryz.prog [] Tryz.f63 (.n .z .z) = heap_Heap__Last_c  := by kernel_rfl
theorem heap_Heap__Last_sound {O : Type} {RO : O → Loc → (Nat → Option Obj) → Prop} : FSound RO Tryz.prog 63 (heap_Heap__Last) :=
   have h : FSound RO Tryz.prog 63 (heap_Heap__Last_c) := (heap_Heap__Last_run) ▸ run_sound (gnil) mixed Tryz.func63 (by kernel_rfl) _
   h
noncomputable def cost_Collection_c {O : Type} (k108 k61 k107 : Sm O) : Sm O := fun xs σ =>
 bif Nat.beq xs.length 2 then
 (AV.asI .i64 (xs.getD 0 .u)).bind fun n0 =>
 (AV.asI .i64 (xs.getD 1 .u)).bind fun n1 =>
 let σ2 := σ.bump 1
 let σ3 := σ2.put σ.next (.cells true 98 [(.i .u64 0), (.i .u64 0)])
 let σ4 := σ3.bump 1
 (k108 [J n0, (.i .u64 12)] σ4).bind fun r5 =>
 (AV.asAgg 2 r5.1).bind fun c6 =>
 (AV.asI .u64 (c6.getD 0 .u)).bind fun n7 =>
 (AV.asI .u64 (c6.getD 1 .u)).bind fun n8 =>
 (k108 [J n1, (.i .u64 16)] r5.2).bind fun r9 =>
 (AV.asAgg 2 r9.1).bind fun c10 =>
 (AV.asI .u64 (c10.getD 0 .u)).bind fun n11 =>
 (AV.asI .u64 (c10.getD 1 .u)).bind fun n12 =>
 (k61 [(.i .u64 16)] r9.2).bind fun r13 =>
 (AV.asAgg 2 r13.1).bind fun c14 =>
 (AV.asI .u64 (c14.getD 0 .u)).bind fun n15 =>
 (AV.asI .u64 (c14.getD 1 .u)).bind fun n16 =>
 let σ17 := r13.2.put σ3.next (.cells true 98 [(.i .u64 n7), (.i .u64 n8), (.i .u64 n11), (.i .u64 n12), (.i .u64 n15), (.i .u64 n16)])
 (k107 [(.sl (.loc (.n σ3.next) 0 2) 3)] σ17).bind fun r18 =>
 (AV.asAgg 2 r18.1).bind fun c19 =>
 (AV.asI .u64 (c19.getD 0 .u)).bind fun n20 =>
 (AV.asI .u64 (c19.getD 1 .u)).bind fun n21 =>
 (r18.2.st (.n σ.next) 0 [(.i .u64 n20), (.i .u64 n21)]).bind fun σ22 =>
 (σ22.ld (.n σ.next) 0).bind fun w23 =>
 (AV.asI .u64 w23).bind fun n24 =>
 (σ22.ld (.n σ.next) 1).bind fun w25 =>
 (AV.asI .u64 w25).bind fun n26 =>
 some ((.agg [(.i .u64 n24), (.i .u64 n26)]), σ22)
 else none
noncomputable def cost_Collection {O : Type} : Sm O := cost_Collection_c cost_of wide_Of cost_sum
theorem cost_Collection_ent : Entered Tryz.prog 62 := Tryz.call62
theorem cost_Collection_run {O : Type} (k108 k61 k107 : Sm O) : run (O := O) Tryz.prog [(108, k108), (61, k61), (107, k107)] Tryz.f62 (.n .z .z) = cost_Collection_c k108 k61 k107 := by kernel_rfl
theorem cost_Collection_sound {O : Type} {RO : O → Loc → (Nat → Option Obj) → Prop} : FSound RO Tryz.prog 62 (cost_Collection) :=
   have h : FSound RO Tryz.prog 62 (cost_Collection_c cost_of wide_Of cost_sum) := (cost_Collection_run cost_of wide_Of cost_sum) ▸ run_sound (gcons cost_of_ent (cost_of_sound) <| gcons wide_Of_ent (wide_Of_sound) <| gcons cost_sum_ent (cost_sum_sound) <| gnil) mixed Tryz.func62 (by kernel_rfl) _
   h
noncomputable def cost_Bound_c {O : Type} (k108 k107 : Sm O) : Sm O := fun xs σ =>
 bif Nat.beq xs.length 3 then
 (AV.asI .i64 (xs.getD 0 .u)).bind fun n0 =>
 (AV.asI .i64 (xs.getD 1 .u)).bind fun n1 =>
 (AV.asI .i64 (xs.getD 2 .u)).bind fun n2 =>
 let σ3 := σ.bump 1
 let σ4 := σ3.put σ.next (.cells true 98 [(.i .u64 0), (.i .u64 0)])
 let σ5 := σ4.bump 1
 (k108 [J n0, (.i .u64 80)] σ5).bind fun r6 =>
 (AV.asAgg 2 r6.1).bind fun c7 =>
 (AV.asI .u64 (c7.getD 0 .u)).bind fun n8 =>
 (AV.asI .u64 (c7.getD 1 .u)).bind fun n9 =>
 (k108 [J n1, (.i .u64 80)] r6.2).bind fun r10 =>
 (AV.asAgg 2 r10.1).bind fun c11 =>
 (AV.asI .u64 (c11.getD 0 .u)).bind fun n12 =>
 (AV.asI .u64 (c11.getD 1 .u)).bind fun n13 =>
 (k108 [J n2, (.i .u64 80)] r10.2).bind fun r14 =>
 (AV.asAgg 2 r14.1).bind fun c15 =>
 (AV.asI .u64 (c15.getD 0 .u)).bind fun n16 =>
 (AV.asI .u64 (c15.getD 1 .u)).bind fun n17 =>
 let σ18 := r14.2.put σ4.next (.cells true 98 [(.i .u64 n8), (.i .u64 n9), (.i .u64 n12), (.i .u64 n13), (.i .u64 n16), (.i .u64 n17)])
 (k107 [(.sl (.loc (.n σ4.next) 0 2) 3)] σ18).bind fun r19 =>
 (AV.asAgg 2 r19.1).bind fun c20 =>
 (AV.asI .u64 (c20.getD 0 .u)).bind fun n21 =>
 (AV.asI .u64 (c20.getD 1 .u)).bind fun n22 =>
 (r19.2.st (.n σ.next) 0 [(.i .u64 n21), (.i .u64 n22)]).bind fun σ23 =>
 (σ23.ld (.n σ.next) 0).bind fun w24 =>
 (AV.asI .u64 w24).bind fun n25 =>
 (σ23.ld (.n σ.next) 1).bind fun w26 =>
 (AV.asI .u64 w26).bind fun n27 =>
 some ((.agg [(.i .u64 n25), (.i .u64 n27)]), σ23)
 else none
noncomputable def cost_Bound {O : Type} : Sm O := cost_Bound_c cost_of cost_sum
theorem cost_Bound_ent : Entered Tryz.prog 66 := Tryz.call66
theorem cost_Bound_run {O : Type} (k108 k107 : Sm O) : run (O := O) Tryz.prog [(108, k108), (107, k107)] Tryz.f66 (.n .z .z) = cost_Bound_c k108 k107 := by kernel_rfl
theorem cost_Bound_sound {O : Type} {RO : O → Loc → (Nat → Option Obj) → Prop} : FSound RO Tryz.prog 66 (cost_Bound) :=
   have h : FSound RO Tryz.prog 66 (cost_Bound_c cost_of cost_sum) := (cost_Bound_run cost_of cost_sum) ▸ run_sound (gcons cost_of_ent (cost_of_sound) <| gcons cost_sum_ent (cost_sum_sound) <| gnil) mixed Tryz.func66 (by kernel_rfl) _
   h
noncomputable def trial_trial__dear_p {O : Type} (w : Words O) (k21 k61 k37 k63 k62 k54 k34 k35 k65 k64 k66 k36 : Sm O) : Sm O := fun xs σ =>
 bif Nat.beq xs.length 4 then
 (AV.asP (xs.getD 0 .u)).bind fun p0 =>
 (AV.asAgg 2 (xs.getD 1 .u)).bind fun c1 =>
 (AV.asI .u64 (c1.getD 0 .u)).bind fun n2 =>
 (AV.asI .u64 (c1.getD 1 .u)).bind fun n3 =>
 (AV.asI .i64 (xs.getD 2 .u)).bind fun n4 =>
 (AV.asI .i64 (xs.getD 3 .u)).bind fun n5 =>
 let σ6 := σ.bump 1
 let σ7 := σ6.put σ.next (.cells true 98 [(.i .u64 n2), (.i .u64 n3)])
 (k21 [(.p p0)] σ7).bind fun r8 =>
 (AV.asP r8.1).bind fun p9 =>
 let σ10 := r8.2.bump 1
 let v11 : Int := (IntKind.i64.wrap (64 + (if 0 > n5 then 0 else n5)))
 (k61 [(.i .u64 (IntKind.u64.wrap v11))] σ10).bind fun r12 =>
 (AV.asAgg 2 r12.1).bind fun c13 =>
 (AV.asI .u64 (c13.getD 0 .u)).bind fun n14 =>
 (AV.asI .u64 (c13.getD 1 .u)).bind fun n15 =>
 let σ16 := r12.2.put r8.2.next (.cells true 98 [(.i .u64 0), (.i .u64 0)])
 (σ16.st (.n r8.2.next) 0 [(.i .u64 n14), (.i .u64 n15)]).bind fun σ17 =>
 let σ18 := σ17.bump 1
 (k37 [(.p p9)] σ18).bind fun r19 =>
 (AV.asAgg 8 r19.1).bind fun c20 =>
 w.U0 c20 fun n21 n22 n23 n24 n25 n26 n27 n28 =>
 let σ29 := r19.2.put σ17.next (.cells true 109 P0)
 (σ29.st (.n σ17.next) 0 (P1 n21 n22 n23 n24 n25 n26 n27 n28)).bind fun σ30 =>
 (σ30.ld (.n σ17.next) 0).bind fun w31 =>
 (AV.asI .i64 w31).bind fun n32 =>
 (bif (decide (n32 > n4)) then
 (σ30.ld (.n r8.2.next) 0).bind fun w33 =>
 (AV.asI .u64 w33).bind fun n34 =>
 (σ30.ld (.n r8.2.next) 1).bind fun w35 =>
 (AV.asI .u64 w35).bind fun n36 =>
 (σ30.ld (.n σ17.next) 6).bind fun w37 =>
 (AV.asI .i64 w37).bind fun n38 =>
 (k63 [(.p p9)] σ30).bind fun r39 =>
 (AV.asAgg 10 r39.1).bind fun c40 =>
 I6 c40 0 fun n41 => I6 c40 1 fun n42 => I6 c40 2 fun n43 => I6 c40 3 fun n44 => I6 c40 4 fun n45 => I6 c40 5 fun n46 => I6 c40 6 fun n47 => (AV.asI .u64 (c40.getD 7 .u)).bind fun n48 =>
 (AV.asI .u64 (c40.getD 8 .u)).bind fun n49 =>
 (AV.asP (c40.getD 9 .u)).bind fun p50 =>
 (chkE (r39.2.ld (.n r8.2.next) 0) (some (.i .u64 n34))).bind fun _ =>
 (chkE (r39.2.ld (.n r8.2.next) 1) (some (.i .u64 n36))).bind fun _ =>
 (chkE (r39.2.ld (.n σ17.next) 6) (some (.i .i64 n38))).bind fun _ =>
 (k62 [J n38, J n45] r39.2).bind fun r51 =>
 (AV.asAgg 2 r51.1).bind fun c52 =>
 (AV.asI .u64 (c52.getD 0 .u)).bind fun n53 =>
 (AV.asI .u64 (c52.getD 1 .u)).bind fun n54 =>
 (chkE (r51.2.ld (.n r8.2.next) 0) (some (.i .u64 n34))).bind fun _ =>
 (chkE (r51.2.ld (.n r8.2.next) 1) (some (.i .u64 n36))).bind fun _ =>
 (k54 [(.agg [(.i .u64 n34), (.i .u64 n36)]), (.agg [(.i .u64 n53), (.i .u64 n54)])] r51.2).bind fun r55 =>
 (AV.asTup 2 r55.1).bind fun c56 =>
 (AV.asAgg 2 (c56.getD 0 .u)).bind fun c57 =>
 (AV.asI .u64 (c57.getD 0 .u)).bind fun n58 =>
 (AV.asI .u64 (c57.getD 1 .u)).bind fun n59 =>
 (AV.asB (c56.getD 1 .u)).bind fun b60 =>
 (r55.2.st (.n r8.2.next) 0 [(.i .u64 n58), (.i .u64 n59)]).bind fun σ61 =>
 let σ62 := σ61.bump 1
 (k37 [(.p p9)] σ62).bind fun r63 =>
 (AV.asAgg 8 r63.1).bind fun c64 =>
 w.U0 c64 fun n65 n66 n67 n68 n69 n70 n71 n72 =>
 let σ73 := r63.2.put σ61.next (.cells true 109 P0)
 (σ73.st (.n σ61.next) 0 (P1 n65 n66 n67 n68 n69 n70 n71 n72)).bind fun σ74 =>
 (k34 [(.p p9)] σ74).bind fun r75 =>
 (AV.asP r75.1).bind fun p76 =>
 (k35 [(.p p76)] r75.2).bind fun r77 =>
 (AV.asP r77.1).bind fun p78 =>
 (r77.2.ld (.n r8.2.next) 0).bind fun w79 =>
 (AV.asI .u64 w79).bind fun n80 =>
 (r77.2.ld (.n r8.2.next) 1).bind fun w81 =>
 (AV.asI .u64 w81).bind fun n82 =>
 Option.bind p78 fun q83 =>
 (r77.2.ld q83.1 q83.2).bind fun w84 =>
 (AV.asP w84).bind fun p85 =>
 (r77.2.ld (.n σ.next) 0).bind fun w86 =>
 (AV.asI .u64 w86).bind fun n87 =>
 (r77.2.ld (.n σ.next) 1).bind fun w88 =>
 (AV.asI .u64 w88).bind fun n89 =>
 (k65 [(.p p85), (.agg [(.i .u64 n87), (.i .u64 n89)])] r77.2).bind fun r90 =>
 (AV.asAgg 2 r90.1).bind fun c91 =>
 (AV.asI .u64 (c91.getD 0 .u)).bind fun n92 =>
 (AV.asI .u64 (c91.getD 1 .u)).bind fun n93 =>
 (chkE (r90.2.ld (.n r8.2.next) 0) (some (.i .u64 n80))).bind fun _ =>
 (chkE (r90.2.ld (.n r8.2.next) 1) (some (.i .u64 n82))).bind fun _ =>
 (k64 [(.agg [(.i .u64 n80), (.i .u64 n82)]), (.agg [(.i .u64 n92), (.i .u64 n93)])] r90.2).bind fun r94 =>
 (AV.asB r94.1).bind fun b95 =>
 ((bif (b95 == false) then
 (r94.2.ld (.n σ61.next) 3).bind fun w96 =>
 (AV.asI .i64 w96).bind fun n97 =>
 Option.bind p0 fun q98 =>
 (r94.2.ld q98.1 (q98.2 + 7)).bind fun w99 =>
 (AV.asI .i64 w99).bind fun n100 =>
 (r94.2.ld (.n σ61.next) 7).bind fun w101 =>
 (AV.asI .i64 w101).bind fun n102 =>
 Option.bind p78 fun q103 =>
 (r94.2.ld q103.1 q103.2).bind fun w104 =>
 (AV.asP w104).bind fun p105 =>
 (k66 [J n97, J n100, J n102] r94.2).bind fun r106 =>
 (AV.asAgg 2 r106.1).bind fun c107 =>
 (AV.asI .u64 (c107.getD 0 .u)).bind fun n108 =>
 (AV.asI .u64 (c107.getD 1 .u)).bind fun n109 =>
 (chkE (r106.2.ld q103.1 q103.2) (some (.p p105))).bind fun _ =>
 (k36 [(.p p105)] r106.2).bind fun r110 =>
 (AV.asAgg 2 r110.1).bind fun c111 =>
 (AV.asI .u64 (c111.getD 0 .u)).bind fun n112 =>
 (AV.asI .u64 (c111.getD 1 .u)).bind fun n113 =>
 (k64 [(.agg [(.i .u64 n108), (.i .u64 n109)]), (.agg [(.i .u64 n112), (.i .u64 n113)])] r110.2).bind fun r114 =>
 (AV.asB r114.1).bind fun b115 =>
 some ([(.b b115)], r114.2)
 else some ([(.b true)], r94.2)) : Option (List AV × AH O)).bind fun r116 =>
 (AV.asB (r116.1.getD 0 .u)).bind fun b117 =>
 some ((.b b117), r116.2)
 else none)
 else none
noncomputable def trial_trial__dear_c {O : Type} (k21 k61 k37 k63 k62 k54 k34 k35 k65 k64 k66 k36 : Sm O) : Sm O := trial_trial__dear_p fastWords k21 k61 k37 k63 k62 k54 k34 k35 k65 k64 k66 k36
noncomputable def trial_trial__dear {O : Type} : Sm O := trial_trial__dear_c trial_trial__heap wide_Of heap_Heap__Count heap_Heap__Last cost_Collection wide_Add heap_Heap__Space store_Store__Mem meter_Meter__Since wide_Less cost_Bound meter_Meter__Steps
theorem trial_trial__dear_ent : Entered Tryz.prog 39 := Tryz.call39
theorem trial_trial__dear_run {O : Type} (k21 k61 k37 k63 k62 k54 k34 k35 k65 k64 k66 k36 : Sm O) : run (O := O) Tryz.prog [(21, k21), (61, k61), (37, k37), (63, k63), (62, k62), (54, k54), (34, k34), (35, k35), (65, k65), (64, k64), (66, k66), (36, k36)] Tryz.f39 (.n .z (.n .z (.n .z (.n (.n .z (.n .z (.n (.d [] [0, 1, 2, 3, 4, 5, 6, 7, 8, 9, 10, 11, 12] [0, 0, 2, 0, 8, 24, 56, 126, 255, 511, 1023, 1023, 2047]) .x))) (.n .z (.n .z (.n (.d [(8, 15, [(68, .one .b)])] [0, 1, 2, 3, 4, 5, 6, 7, 8, 9, 10, 11, 12, 13, 14, 15, 16, 18, 19, 20, 21, 17, 22, 23, 24, 25] [0, 0, 2, 6, 14, 0, 62, 127, 255, 511, 1023, 511, 2559, 6655, 14847, 511, 33279, 131071, 511, 262655, 786943, 1835519, 4194303, 8388607, 16777215, 33554431]) .z))))))) = trial_trial__dear_c k21 k61 k37 k63 k62 k54 k34 k35 k65 k64 k66 k36 :=
 (show run (O := O) Tryz.prog [(21, k21), (61, k61), (37, k37), (63, k63), (62, k62), (54, k54), (34, k34), (35, k35), (65, k65), (64, k64), (66, k66), (36, k36)] Tryz.f39 (.n .z (.n .z (.n .z (.n (.n .z (.n .z (.n (.d [] [0, 1, 2, 3, 4, 5, 6, 7, 8, 9, 10, 11, 12] [0, 0, 2, 0, 8, 24, 56, 126, 255, 511, 1023, 1023, 2047]) .x))) (.n .z (.n .z (.n (.d [(8, 15, [(68, .one .b)])] [0, 1, 2, 3, 4, 5, 6, 7, 8, 9, 10, 11, 12, 13, 14, 15, 16, 18, 19, 20, 21, 17, 22, 23, 24, 25] [0, 0, 2, 6, 14, 0, 62, 127, 255, 511, 1023, 511, 2559, 6655, 14847, 511, 33279, 131071, 511, 262655, 786943, 1835519, 4194303, 8388607, 16777215, 33554431]) .z))))))) = trial_trial__dear_p slowWords k21 k61 k37 k63 k62 k54 k34 k35 k65 k64 k66 k36 by kernel_rfl).trans (congrArg (fun w => trial_trial__dear_p w k21 k61 k37 k63 k62 k54 k34 k35 k65 k64 k66 k36) words_eq)
theorem trial_trial__dear_sound {O : Type} {RO : O → Loc → (Nat → Option Obj) → Prop} : FSound RO Tryz.prog 39 (trial_trial__dear) :=
   have h : FSound RO Tryz.prog 39 (trial_trial__dear_c trial_trial__heap wide_Of heap_Heap__Count heap_Heap__Last cost_Collection wide_Add heap_Heap__Space store_Store__Mem meter_Meter__Since wide_Less cost_Bound meter_Meter__Steps) := (trial_trial__dear_run trial_trial__heap wide_Of heap_Heap__Count heap_Heap__Last cost_Collection wide_Add heap_Heap__Space store_Store__Mem meter_Meter__Since wide_Less cost_Bound meter_Meter__Steps) ▸ run_sound (gcons trial_trial__heap_ent (trial_trial__heap_sound) <| gcons wide_Of_ent (wide_Of_sound) <| gcons heap_Heap__Count_ent (heap_Heap__Count_sound) <| gcons heap_Heap__Last_ent (heap_Heap__Last_sound) <| gcons cost_Collection_ent (cost_Collection_sound) <| gcons wide_Add_ent (wide_Add_sound) <| gcons heap_Heap__Space_ent (heap_Heap__Space_sound) <| gcons store_Store__Mem_ent (store_Store__Mem_sound) <| gcons meter_Meter__Since_ent (meter_Meter__Since_sound) <| gcons wide_Less_ent (wide_Less_sound) <| gcons cost_Bound_ent (cost_Bound_sound) <| gcons meter_Meter__Steps_ent (meter_Meter__Steps_sound) <| gnil) mixed Tryz.func39 (by kernel_rfl) _
   h
noncomputable def meter_Meter__High_c {O : Type} : Sm O := fun xs σ =>
 bif Nat.beq xs.length 1 then
 (AV.asP (xs.getD 0 .u)).bind fun p0 =>
 (bif (Option.isNone p0) then
 none
 else Option.bind p0 fun q1 =>
 (σ.ld q1.1 ((q1.2 + 4) + 1)).bind fun w2 =>
 (AV.asI .i64 w2).bind fun n3 =>
 some (J n3, σ))
 else none
noncomputable def meter_Meter__High {O : Type} : Sm O := meter_Meter__High_c
theorem meter_Meter__High_ent : Entered Tryz.prog 40 := Tryz.call40
theorem meter_Meter__High_run {O : Type} : run (O := O) Tryz.prog [] Tryz.f40 (.n .z (.n (.n .z (.n .x .z)) .z)) = meter_Meter__High_c  := by kernel_rfl
theorem meter_Meter__High_sound {O : Type} {RO : O → Loc → (Nat → Option Obj) → Prop} : FSound RO Tryz.prog 40 (meter_Meter__High) :=
   have h : FSound RO Tryz.prog 40 (meter_Meter__High_c) := (meter_Meter__High_run) ▸ run_sound (gnil) mixed Tryz.func40 (by kernel_rfl) _
   h
noncomputable def cost_Held_c {O : Type} : Sm O := fun xs σ =>
 bif Nat.beq xs.length 1 then
 (AV.asI .i64 (xs.getD 0 .u)).bind fun n0 =>
 let c1 : Bool := (decide ((if 0 > n0 then 0 else n0) > 384307168202282325))
 (bif c1 then
 none
 else let v2 : Int := (IntKind.i64.wrap (12 * (if 0 > n0 then 0 else n0)))
 some ((.i .i64 (IntKind.i64.wrap (v2 + 256))), σ))
 else none
noncomputable def cost_Held {O : Type} : Sm O := cost_Held_c
theorem cost_Held_ent : Entered Tryz.prog 41 := Tryz.call41
theorem cost_Held_run {O : Type} : run (O := O) Tryz.prog [] Tryz.f41 (.n .z (.n .z (.n (.n .z (.n .x .z)) .z))) = cost_Held_c  := by kernel_rfl
theorem cost_Held_sound {O : Type} {RO : O → Loc → (Nat → Option Obj) → Prop} : FSound RO Tryz.prog 41 (cost_Held) :=
   have h : FSound RO Tryz.prog 41 (cost_Held_c) := (cost_Held_run) ▸ run_sound (gnil) mixed Tryz.func41 (by kernel_rfl) _
   h
noncomputable def heap_Heap__Ledger_c {O : Type} : Sm O := fun xs σ =>
 bif Nat.beq xs.length 1 then
 (AV.asP (xs.getD 0 .u)).bind fun p0 =>
 let σ1 := σ.bump 1
 let σ2 := σ1.put σ.next (.cells true 118 [(.i .u64 0), (.i .u64 0), (.i .u64 0), (.i .u64 0)])
 Option.bind p0 fun q3 =>
 (σ2.ld q3.1 (q3.2 + 15)).bind fun w4 =>
 (AV.asI .u64 w4).bind fun n5 =>
 (σ2.ld q3.1 ((q3.2 + 15) + 1)).bind fun w6 =>
 (AV.asI .u64 w6).bind fun n7 =>
 (σ2.ld q3.1 (((q3.2 + 15) + 1) + 1)).bind fun w8 =>
 (AV.asI .u64 w8).bind fun n9 =>
 (σ2.ld q3.1 ((((q3.2 + 15) + 1) + 1) + 1)).bind fun w10 =>
 (AV.asI .u64 w10).bind fun n11 =>
 (σ2.st (.n σ.next) 0 [(.i .u64 n5), (.i .u64 n7), (.i .u64 n9), (.i .u64 n11)]).bind fun σ12 =>
 (σ12.ld (.n σ.next) 0).bind fun w13 =>
 (AV.asI .u64 w13).bind fun n14 =>
 (σ12.ld (.n σ.next) 1).bind fun w15 =>
 (AV.asI .u64 w15).bind fun n16 =>
 (σ12.ld (.n σ.next) 2).bind fun w17 =>
 (AV.asI .u64 w17).bind fun n18 =>
 (σ12.ld (.n σ.next) 3).bind fun w19 =>
 (AV.asI .u64 w19).bind fun n20 =>
 some ((.agg [(.i .u64 n14), (.i .u64 n16), (.i .u64 n18), (.i .u64 n20)]), σ12)
 else none
noncomputable def heap_Heap__Ledger {O : Type} : Sm O := heap_Heap__Ledger_c
theorem heap_Heap__Ledger_ent : Entered Tryz.prog 42 := Tryz.call42
theorem heap_Heap__Ledger_run {O : Type} : run (O := O) Tryz.prog [] Tryz.f42 (.n .z .z) = heap_Heap__Ledger_c  := by kernel_rfl
theorem heap_Heap__Ledger_sound {O : Type} {RO : O → Loc → (Nat → Option Obj) → Prop} : FSound RO Tryz.prog 42 (heap_Heap__Ledger) :=
   have h : FSound RO Tryz.prog 42 (heap_Heap__Ledger_c) := (heap_Heap__Ledger_run) ▸ run_sound (gnil) mixed Tryz.func42 (by kernel_rfl) _
   h
noncomputable def ledger_Ledger__Balance_c {O : Type} (k67 : Sm O) : Sm O := fun xs σ =>
 bif Nat.beq xs.length 1 then
 (AV.asAgg 4 (xs.getD 0 .u)).bind fun c0 =>
 (AV.asI .u64 (c0.getD 0 .u)).bind fun n1 =>
 (AV.asI .u64 (c0.getD 1 .u)).bind fun n2 =>
 (AV.asI .u64 (c0.getD 2 .u)).bind fun n3 =>
 (AV.asI .u64 (c0.getD 3 .u)).bind fun n4 =>
 let σ5 := σ.bump 2
 let σ6 := σ5.put σ.next (.cells true 118 [(.i .u64 n1), (.i .u64 n2), (.i .u64 n3), (.i .u64 n4)])
 let σ7 := σ6.put (σ.next + 1) (.cells true 98 [(.i .u64 0), (.i .u64 0)])
 (σ7.ld (.n σ.next) 0).bind fun w8 =>
 (AV.asI .u64 w8).bind fun n9 =>
 (σ7.ld (.n σ.next) 1).bind fun w10 =>
 (AV.asI .u64 w10).bind fun n11 =>
 (σ7.ld (.n σ.next) 2).bind fun w12 =>
 (AV.asI .u64 w12).bind fun n13 =>
 (σ7.ld (.n σ.next) 3).bind fun w14 =>
 (AV.asI .u64 w14).bind fun n15 =>
 (k67 [(.agg [(.i .u64 n9), (.i .u64 n11)]), (.agg [(.i .u64 n13), (.i .u64 n15)])] σ7).bind fun r16 =>
 (AV.asTup 2 r16.1).bind fun c17 =>
 (AV.asAgg 2 (c17.getD 0 .u)).bind fun c18 =>
 (AV.asI .u64 (c18.getD 0 .u)).bind fun n19 =>
 (AV.asI .u64 (c18.getD 1 .u)).bind fun n20 =>
 (AV.asB (c17.getD 1 .u)).bind fun b21 =>
 (r16.2.st (.n (σ.next + 1)) 0 [(.i .u64 n19), (.i .u64 n20)]).bind fun σ22 =>
 (σ22.ld (.n (σ.next + 1)) 0).bind fun w23 =>
 (AV.asI .u64 w23).bind fun n24 =>
 (σ22.ld (.n (σ.next + 1)) 1).bind fun w25 =>
 (AV.asI .u64 w25).bind fun n26 =>
 some ((.tup [(.agg [(.i .u64 n24), (.i .u64 n26)]), (.b b21)]), σ22)
 else none
noncomputable def ledger_Ledger__Balance {O : Type} : Sm O := ledger_Ledger__Balance_c wide_Sub
theorem ledger_Ledger__Balance_ent : Entered Tryz.prog 43 := Tryz.call43
theorem ledger_Ledger__Balance_run {O : Type} (k67 : Sm O) : run (O := O) Tryz.prog [(67, k67)] Tryz.f43 (.n .z .z) = ledger_Ledger__Balance_c k67 := by kernel_rfl
theorem ledger_Ledger__Balance_sound {O : Type} {RO : O → Loc → (Nat → Option Obj) → Prop} : FSound RO Tryz.prog 43 (ledger_Ledger__Balance) :=
   have h : FSound RO Tryz.prog 43 (ledger_Ledger__Balance_c wide_Sub) := (ledger_Ledger__Balance_run wide_Sub) ▸ run_sound (gcons wide_Sub_ent (wide_Sub_sound) <| gnil) mixed Tryz.func43 (by kernel_rfl) _
   h
noncomputable def trial_trial__step_p {O : Type} (w : Words O) (k21 k34 k35 k36 k37 k23 k24 k15 k38 k39 k40 k41 k42 k43 : Sm O) : Sm O := fun xs σ =>
 bif Nat.beq xs.length 2 then
 (AV.asP (xs.getD 0 .u)).bind fun p0 =>
 (AV.asSl (xs.getD 1 .u)).bind fun l1 =>
 let σ2 := σ.bump 1
 (k21 [(.p p0)] σ2).bind fun r3 =>
 (AV.asP r3.1).bind fun p4 =>
 (k34 [(.p p4)] r3.2).bind fun r5 =>
 (AV.asP r5.1).bind fun p6 =>
 (k35 [(.p p6)] r5.2).bind fun r7 =>
 (AV.asP r7.1).bind fun p8 =>
 Option.bind p8 fun q9 =>
 (r7.2.ld q9.1 q9.2).bind fun w10 =>
 (AV.asP w10).bind fun p11 =>
 (k36 [(.p p11)] r7.2).bind fun r12 =>
 (AV.asAgg 2 r12.1).bind fun c13 =>
 (AV.asI .u64 (c13.getD 0 .u)).bind fun n14 =>
 (AV.asI .u64 (c13.getD 1 .u)).bind fun n15 =>
 (k21 [(.p p0)] r12.2).bind fun r16 =>
 (AV.asP r16.1).bind fun p17 =>
 (k37 [(.p p17)] r16.2).bind fun r18 =>
 (AV.asAgg 8 r18.1).bind fun c19 =>
 w.U0 c19 fun n20 n21 n22 n23 n24 n25 n26 n27 =>
 let σ28 := r18.2.put σ.next (.cells true 98 [(.i .u64 0), (.i .u64 0)])
 (σ28.st (.n σ.next) 0 [(.i .u64 n14), (.i .u64 n15)]).bind fun σ29 =>
 Option.bind p0 fun q30 =>
 (σ29.ld q30.1 (q30.2 + 7)).bind fun w31 =>
 (AV.asI .i64 w31).bind fun n32 =>
 Option.bind p0 fun q33 =>
 (σ29.st q33.1 (q33.2 + 7) [(.i .i64 (IntKind.i64.wrap (n32 + 1)))]).bind fun σ34 =>
 ((bif ((((l1.2 : Int) : Int) == 2) == true) then
 (bif (decide ((0 : Int) < (l1.2 : Int))) then
 (SA.ref l1.1).bind fun q35 =>
 (σ34.ld q35.1 q35.2).bind fun w36 =>
 (AV.asI .i64 w36).bind fun n37 =>
 some ([(.b ((n37 : Int) == 3))], σ34)
 else none)
 else some ([(.b false)], σ34)) : Option (List AV × AH O)).bind fun r38 =>
 (AV.asB (r38.1.getD 0 .u)).bind fun b39 =>
 (bif b39 then
 none
 else let σ40 := r38.2.bump 1
 Option.bind p0 fun q41 =>
 (σ40.ld q41.1 (q41.2 + 5)).bind fun w42 =>
 (AV.asP w42).bind fun p43 =>
 (k23 [(.p p43), L l1] σ40).bind fun r44 =>
 (AV.asAgg 2 r44.1).bind fun c45 =>
 I6 c45 0 fun n46 => Is c45 1 fun l47 => let σ48 := r44.2.put r38.2.next (.cells true 43 [J 0, N])
 (σ48.st (.n r38.2.next) 0 [J n46, L l47]).bind fun σ49 =>
 let σ50 := σ49.bump 1
 (k21 [(.p p0)] σ50).bind fun r51 =>
 (AV.asP r51.1).bind fun p52 =>
 (k37 [(.p p52)] r51.2).bind fun r53 =>
 (AV.asAgg 8 r53.1).bind fun c54 =>
 w.U0 c54 fun n55 n56 n57 n58 n59 n60 n61 n62 =>
 let σ63 := r53.2.put σ49.next (.cells true 109 P0)
 (σ63.st (.n σ49.next) 0 (P1 n55 n56 n57 n58 n59 n60 n61 n62)).bind fun σ64 =>
 (σ64.ld (.n r38.2.next) 0).bind fun w65 =>
 (AV.asI .i64 w65).bind fun n66 =>
 (σ64.ld (.n r38.2.next) 1).bind fun w67 =>
 (AV.asSl w67).bind fun l68 =>
 Option.bind p0 fun q69 =>
 (σ64.ld q69.1 (q69.2 + 6)).bind fun w70 =>
 (AV.asP w70).bind fun p71 =>
 (k24 [(.p p71), L l1] σ64).bind fun r72 =>
 (AV.asAgg 2 r72.1).bind fun c73 =>
 I6 c73 0 fun n74 => Is c73 1 fun l75 => (chkE (r72.2.ld (.n r38.2.next) 0) (some (.i .i64 n66))).bind fun _ =>
 (chkE (r72.2.ld (.n r38.2.next) 1) (some (.sl l68.1 l68.2))).bind fun _ =>
 (k15 [(.agg [J n66, L l68]), (.agg [J n74, L l75])] r72.2).bind fun r76 =>
 (AV.asB r76.1).bind fun b77 =>
 (bif (!b77) then
 none
 else Option.bind p0 fun q78 =>
 (r76.2.ld q78.1 (q78.2 + 6)).bind fun w79 =>
 (AV.asP w79).bind fun p80 =>
 (r76.2.ld (.n σ49.next) 5).bind fun w81 =>
 (AV.asI .i64 w81).bind fun n82 =>
 (k38 [(.p p80)] r76.2).bind fun r83 =>
 (AV.asI .i64 r83.1).bind fun n84 =>
 (chkE (r83.2.ld (.n σ49.next) 5) (some (.i .i64 n82))).bind fun _ =>
 ((bif ((decide (n84 > n82)) == false) then
 Option.bind p0 fun q85 =>
 (r83.2.ld q85.1 (q85.2 + 6)).bind fun w86 =>
 (AV.asP w86).bind fun p87 =>
 Option.bind p0 fun q88 =>
 (r83.2.ld q88.1 q88.2).bind fun w89 =>
 (AV.asI .i64 w89).bind fun n90 =>
 (k38 [(.p p87)] r83.2).bind fun r91 =>
 (AV.asI .i64 r91.1).bind fun n92 =>
 (chkE (r91.2.ld q88.1 q88.2) (some (.i .i64 n90))).bind fun _ =>
 some ([(.b (decide (n92 > n90)))], r91.2)
 else some ([(.b true)], r83.2)) : Option (List AV × AH O)).bind fun r93 =>
 (AV.asB (r93.1.getD 0 .u)).bind fun b94 =>
 (bif b94 then
 none
 else (r93.2.ld (.n σ.next) 0).bind fun w95 =>
 (AV.asI .u64 w95).bind fun n96 =>
 (r93.2.ld (.n σ.next) 1).bind fun w97 =>
 (AV.asI .u64 w97).bind fun n98 =>
 (k39 [(.p p0), (.agg [(.i .u64 n96), (.i .u64 n98)]), J n20, J 0] r93.2).bind fun r99 =>
 (AV.asB r99.1).bind fun b100 =>
 (bif b100 then
 none
 else Option.bind p0 fun q101 =>
 (r99.2.ld q101.1 q101.2).bind fun w102 =>
 (AV.asI .i64 w102).bind fun n103 =>
 (k21 [(.p p0)] r99.2).bind fun r104 =>
 (AV.asP r104.1).bind fun p105 =>
 (chkE (r104.2.ld q101.1 q101.2) (some (.i .i64 n103))).bind fun _ =>
 (k34 [(.p p105)] r104.2).bind fun r106 =>
 (AV.asP r106.1).bind fun p107 =>
 (chkE (r106.2.ld q101.1 q101.2) (some (.i .i64 n103))).bind fun _ =>
 (k35 [(.p p107)] r106.2).bind fun r108 =>
 (AV.asP r108.1).bind fun p109 =>
 (chkE (r108.2.ld q101.1 q101.2) (some (.i .i64 n103))).bind fun _ =>
 Option.bind p109 fun q110 =>
 (r108.2.ld q110.1 q110.2).bind fun w111 =>
 (AV.asP w111).bind fun p112 =>
 (k40 [(.p p112)] r108.2).bind fun r113 =>
 (AV.asI .i64 r113.1).bind fun n114 =>
 (chkE (r113.2.ld q101.1 q101.2) (some (.i .i64 n103))).bind fun _ =>
 (k41 [J n103] r113.2).bind fun r115 =>
 (AV.asI .i64 r115.1).bind fun n116 =>
 (bif (decide (n114 > n116)) then
 none
 else let σ117 := r115.2.bump 1
 (k21 [(.p p0)] σ117).bind fun r118 =>
 (AV.asP r118.1).bind fun p119 =>
 (k42 [(.p p119)] r118.2).bind fun r120 =>
 (AV.asAgg 4 r120.1).bind fun c121 =>
 (AV.asI .u64 (c121.getD 0 .u)).bind fun n122 =>
 (AV.asI .u64 (c121.getD 1 .u)).bind fun n123 =>
 (AV.asI .u64 (c121.getD 2 .u)).bind fun n124 =>
 (AV.asI .u64 (c121.getD 3 .u)).bind fun n125 =>
 (k43 [(.agg [(.i .u64 n122), (.i .u64 n123), (.i .u64 n124), (.i .u64 n125)])] r120.2).bind fun r126 =>
 (AV.asTup 2 r126.1).bind fun c127 =>
 (AV.asAgg 2 (c127.getD 0 .u)).bind fun c128 =>
 (AV.asI .u64 (c128.getD 0 .u)).bind fun n129 =>
 (AV.asI .u64 (c128.getD 1 .u)).bind fun n130 =>
 (AV.asB (c127.getD 1 .u)).bind fun b131 =>
 let σ132 := r126.2.put r115.2.next (.cells true 98 [(.i .u64 0), (.i .u64 0)])
 (σ132.st (.n r115.2.next) 0 [(.i .u64 n129), (.i .u64 n130)]).bind fun σ133 =>
 (bif (!b131) then
 none
 else some (J 0, σ133)))))))
 else none
noncomputable def trial_trial__step_c {O : Type} (k21 k34 k35 k36 k37 k23 k24 k15 k38 k39 k40 k41 k42 k43 : Sm O) : Sm O := trial_trial__step_p fastWords k21 k34 k35 k36 k37 k23 k24 k15 k38 k39 k40 k41 k42 k43
noncomputable def trial_trial__step {O : Type} (F : Nat) : Sm O := trial_trial__step_c trial_trial__heap heap_Heap__Space store_Store__Mem meter_Meter__Steps heap_Heap__Count (service_Service__Do F) (twin_Twin__Do F) trial_same (twin_Twin__Live F) trial_trial__dear meter_Meter__High cost_Held heap_Heap__Ledger ledger_Ledger__Balance
theorem trial_trial__step_ent : Entered Tryz.prog 19 := Tryz.call19
theorem trial_trial__step_run {O : Type} (k21 k34 k35 k36 k37 k23 k24 k15 k38 k39 k40 k41 k42 k43 : Sm O) : run (O := O) Tryz.prog [(21, k21), (34, k34), (35, k35), (36, k36), (37, k37), (23, k23), (24, k24), (15, k15), (38, k38), (39, k39), (40, k40), (41, k41), (42, k42), (43, k43)] Tryz.f19 (.n .z (.n .z (.n .z (.n .z (.n (.n (.g [(3, 4, [(39, .one .b)])]) (.n .x .z)) (.n .z (.n (.n .z (.n (.n (.d [] [0, 1, 2, 3, 4, 5, 6, 7, 8, 9] [0, 0, 2, 6, 14, 0, 62, 127, 255, 511]) (.n .x (.n (.d [(8, 11, [(85, .one .b)])] [0, 1, 2, 3, 5, 6, 4, 7, 8, 9, 10, 11, 12, 14, 15, 16, 17, 18, 13, 19, 20, 21] [0, 1, 3, 7, 15, 0, 32, 127, 255, 511, 1023, 2047, 4095, 8191, 511, 16895, 49663, 115199, 246271, 524287, 1048575, 2097151]) (.n .x (.n .z (.n .x (.n (.d [] [0, 8, 9, 10, 11, 12, 1, 2, 3, 4, 5, 6, 7, 13, 14, 15] [0, 1, 3, 7, 15, 31, 63, 127, 0, 256, 768, 1792, 3840, 8191, 16383, 32767]) (.n .x .z)))))))) .z)) (.n (.n .z (.n .z (.n .x .z))) .z)))))))) = trial_trial__step_c k21 k34 k35 k36 k37 k23 k24 k15 k38 k39 k40 k41 k42 k43 :=
 (show run (O := O) Tryz.prog [(21, k21), (34, k34), (35, k35), (36, k36), (37, k37), (23, k23), (24, k24), (15, k15), (38, k38), (39, k39), (40, k40), (41, k41), (42, k42), (43, k43)] Tryz.f19 (.n .z (.n .z (.n .z (.n .z (.n (.n (.g [(3, 4, [(39, .one .b)])]) (.n .x .z)) (.n .z (.n (.n .z (.n (.n (.d [] [0, 1, 2, 3, 4, 5, 6, 7, 8, 9] [0, 0, 2, 6, 14, 0, 62, 127, 255, 511]) (.n .x (.n (.d [(8, 11, [(85, .one .b)])] [0, 1, 2, 3, 5, 6, 4, 7, 8, 9, 10, 11, 12, 14, 15, 16, 17, 18, 13, 19, 20, 21] [0, 1, 3, 7, 15, 0, 32, 127, 255, 511, 1023, 2047, 4095, 8191, 511, 16895, 49663, 115199, 246271, 524287, 1048575, 2097151]) (.n .x (.n .z (.n .x (.n (.d [] [0, 8, 9, 10, 11, 12, 1, 2, 3, 4, 5, 6, 7, 13, 14, 15] [0, 1, 3, 7, 15, 31, 63, 127, 0, 256, 768, 1792, 3840, 8191, 16383, 32767]) (.n .x .z)))))))) .z)) (.n (.n .z (.n .z (.n .x .z))) .z)))))))) = trial_trial__step_p slowWords k21 k34 k35 k36 k37 k23 k24 k15 k38 k39 k40 k41 k42 k43 by kernel_rfl).trans (congrArg (fun w => trial_trial__step_p w k21 k34 k35 k36 k37 k23 k24 k15 k38 k39 k40 k41 k42 k43) words_eq)
theorem trial_trial__step_sound {O : Type} {RO : O → Loc → (Nat → Option Obj) → Prop} (F : Nat) : FSound RO Tryz.prog 19 (trial_trial__step F) :=
   have h : FSound RO Tryz.prog 19 (trial_trial__step_c trial_trial__heap heap_Heap__Space store_Store__Mem meter_Meter__Steps heap_Heap__Count (service_Service__Do F) (twin_Twin__Do F) trial_same (twin_Twin__Live F) trial_trial__dear meter_Meter__High cost_Held heap_Heap__Ledger ledger_Ledger__Balance) := (trial_trial__step_run trial_trial__heap heap_Heap__Space store_Store__Mem meter_Meter__Steps heap_Heap__Count (service_Service__Do F) (twin_Twin__Do F) trial_same (twin_Twin__Live F) trial_trial__dear meter_Meter__High cost_Held heap_Heap__Ledger ledger_Ledger__Balance) ▸ run_sound (gcons trial_trial__heap_ent (trial_trial__heap_sound) <| gcons heap_Heap__Space_ent (heap_Heap__Space_sound) <| gcons store_Store__Mem_ent (store_Store__Mem_sound) <| gcons meter_Meter__Steps_ent (meter_Meter__Steps_sound) <| gcons heap_Heap__Count_ent (heap_Heap__Count_sound) <| gcons service_Service__Do_ent (service_Service__Do_sound F) <| gcons twin_Twin__Do_ent (twin_Twin__Do_sound F) <| gcons trial_same_ent (trial_same_sound) <| gcons twin_Twin__Live_ent (twin_Twin__Live_sound F) <| gcons trial_trial__dear_ent (trial_trial__dear_sound) <| gcons meter_Meter__High_ent (meter_Meter__High_sound) <| gcons cost_Held_ent (cost_Held_sound) <| gcons heap_Heap__Ledger_ent (heap_Heap__Ledger_sound) <| gcons ledger_Ledger__Balance_ent (ledger_Ledger__Balance_sound) <| gnil) mixed Tryz.func19 (by kernel_rfl) _
   h
noncomputable def audit_view__small_L1 {O : Type} (k112 : Sm O) (p7 : Option (Bid × Nat)) : List AV × AH O → Option ((List AV × AH O) ⊕ (List AV × AH O)) := (fun r8 =>
 (AV.asI .i64 (r8.1.getD 0 .u)).bind fun n9 =>
 (k112 [(.p p7)] r8.2).bind fun r10 =>
 (AV.asI .i64 r10.1).bind fun n11 =>
 (bif (decide (n9 < n11)) then
 none
 else some (Sum.inr ([], r10.2))))
noncomputable def audit_view__small_c {O : Type} (k34 k111 k112 : Sm O) : Sm O := fun xs σ =>
 bif Nat.beq xs.length 1 then
 (AV.asP (xs.getD 0 .u)).bind fun p0 =>
 Option.bind p0 fun q1 =>
 (σ.ld q1.1 q1.2).bind fun w2 =>
 (AV.asP w2).bind fun p3 =>
 (k34 [(.p p3)] σ).bind fun r4 =>
 (AV.asP r4.1).bind fun p5 =>
 (k111 [(.p p5)] r4.2).bind fun r6 =>
 (AV.asP r6.1).bind fun p7 =>
 (loopF (S := List AV × AH O) (T := List AV × AH O) (audit_view__small_L1 k112 p7) ([J 0], r6.2)).bind fun r12 =>
 some ((.b true), r12.2)
 else none
noncomputable def audit_view__small {O : Type} : Sm O := audit_view__small_c heap_Heap__Space store_Store__Semi semi_Semi__Top
theorem audit_view__small_ent : Entered Tryz.prog 68 := Tryz.call68
theorem audit_view__small_run {O : Type} (k34 k111 k112 : Sm O) : run (O := O) Tryz.prog [(34, k34), (111, k111), (112, k112)] Tryz.f68 (.n .z (.n .z (.n (.n .z (.n (.lp false 0 [(4, .one (.i .i64))] [] (.n (.n .z (.n .x .z)) (.n (.n .z (.n .z (.n (.n (.g [(2, 2, [(37, .one .b)]), (6, 7, [(46, .one .b)])]) (.n .x .x)) (.n .z .z)))) .z))) .z)) .z))) = audit_view__small_c k34 k111 k112 := by kernel_rfl
theorem audit_view__small_sound {O : Type} {RO : O → Loc → (Nat → Option Obj) → Prop} : FSound RO Tryz.prog 68 (audit_view__small) :=
   have h : FSound RO Tryz.prog 68 (audit_view__small_c heap_Heap__Space store_Store__Semi semi_Semi__Top) := (audit_view__small_run heap_Heap__Space store_Store__Semi semi_Semi__Top) ▸ run_sound (gcons heap_Heap__Space_ent (heap_Heap__Space_sound) <| gcons store_Store__Semi_ent (store_Store__Semi_sound) <| gcons semi_Semi__Top_ent (semi_Semi__Top_sound) <| gnil) mixed Tryz.func68 (by kernel_rfl) _
   h
noncomputable def large_Large__All_1_R0_c {O : Type} (ky0 : Sm O) : Sm O := roundW 200000 1 fun env0 ys0 blk0 σ =>
 (AV.asP (env0 2)).bind fun p0 =>
 (AV.asI .i64 (ys0.getD 0 .u)).bind fun n1 =>
 (busyL σ blk0).bind fun σ2 =>
 Option.bind p0 fun q3 =>
 (σ2.ld q3.1 q3.2).bind fun w4 =>
 (AV.asF w4).bind fun f5 =>
 (callV [(1000000, ky0)] f5 [J n1] σ2).bind fun r6 =>
 (AV.asB r6.1).bind fun b7 =>
 (bif (!b7) then
 none
 else none)
noncomputable def large_Large__All_1_R0 {O : Type} (ky0 : Sm O) : Sm O := large_Large__All_1_R0_c ky0
theorem large_Large__All_1_R0_run {O : Type} (ky0 : Sm O) : roundAt (O := O) Tryz.prog [(1000000, ky0)] 200 Tryz.f200 0 [(2, .one .p)] [(24, .one (.i .i64))] (.n .z (.n (.n .z (.n .x .x)) .z)) = large_Large__All_1_R0_c ky0 := by kernel_rfl
theorem large_Large__All_1_R0_sound {O : Type} {RO : O → Loc → (Nat → Option Obj) → Prop} {ky0 : Sm O} (hy : YSound RO Tryz.prog ky0) : YSound RO Tryz.prog (large_Large__All_1_R0 ky0) :=
   have h : YSound RO Tryz.prog (large_Large__All_1_R0_c ky0) := (large_Large__All_1_R0_run ky0) ▸ roundAt_sound (gyld hy <| gnil) mixed Tryz.func200 _ _ _ _
   h
noncomputable def large_Large__All_1_L1 {O : Type} (σ2 : AH O) (xs : List AV) (k201 : Sm O) (k202 : Sm O) (kr283 : Sm O) (ky0 : Sm O) (σ : AH O) : List AV × AH O → Option ((List AV × AH O) ⊕ (List AV × AH O)) := (fun r27 =>
 (AV.asI .i64 (r27.1.getD 0 .u)).bind fun n28 =>
 (bif (decide (n28 < 2)) then
 let σ29 := r27.2.bump 1
 (bif ((decide ((0 : Int) ≤ n28)) && (decide (n28 < 2))) then
 (σ29.ld (.n σ2.next) (0 + (n28.toNat * 3))).bind fun w30 =>
 (AV.asI .i64 w30).bind fun n31 =>
 (σ29.ld (.n σ2.next) ((0 + (n28.toNat * 3)) + 1)).bind fun w32 =>
 (AV.asI .i64 w32).bind fun n33 =>
 (σ29.ld (.n σ2.next) (((0 + (n28.toNat * 3)) + 1) + 1)).bind fun w34 =>
 (AV.asI .i64 w34).bind fun n35 =>
 let σ36 := σ29.put r27.2.next (.cells true 296 [J 0, J 0, J 0])
 (σ36.st (.n r27.2.next) 0 [J n31, J n33, J n35]).bind fun σ37 =>
 (AV.asPS (xs.getD 1 .u)).bind fun q38 =>
 (σ37.ld q38.1 q38.2).bind fun w39 =>
 (AV.asP w39).bind fun p40 =>
 (AV.asPS (xs.getD 1 .u)).bind fun q41 =>
 (σ37.ld (.n r27.2.next) 0).bind fun w42 =>
 (AV.asI .i64 w42).bind fun n43 =>
 (σ37.ld (.n r27.2.next) 1).bind fun w44 =>
 (AV.asI .i64 w44).bind fun n45 =>
 (σ37.ld (.n r27.2.next) 2).bind fun w46 =>
 (AV.asI .i64 w46).bind fun n47 =>
 (k201 [(.p p40)] σ37).bind fun r48 =>
 (AV.asAgg 5 r48.1).bind fun c49 =>
 (AV.asP (c49.getD 0 .u)).bind fun p50 =>
 I6 c49 1 fun n51 => I6 c49 2 fun n52 => I6 c49 3 fun n53 => I6 c49 4 fun n54 => (chkE (r48.2.ld (.n r27.2.next) 0) (some (.i .i64 n43))).bind fun _ =>
 (chkE (r48.2.ld (.n r27.2.next) 1) (some (.i .i64 n45))).bind fun _ =>
 (chkE (r48.2.ld (.n r27.2.next) 2) (some (.i .i64 n47))).bind fun _ =>
 (k202 [(.agg [(.p p50), J n51, J n52, J n53, J n54]), (.agg [J n43, J n45, J n47])] r48.2).bind fun r55 =>
 (AV.asF r55.1).bind fun f56 =>
 (rangeV [(201, k201), (202, k202), (2000283, kr283), (1000000, ky0)] f56 200000 [(2, (.p (some ((.n σ.next), 0))))] r55.2).bind fun r57 =>
 (lstN r57.2 r55.2.next).bind fun st58 =>
 let σ59 := r57.2.kill r55.2.next
 (bif Nat.beq st58 0 then
 some (Sum.inl ([(.i .i64 (IntKind.i64.wrap (n28 + 1)))], σ59))
 else none)
 else none)
 else some (Sum.inr ([], r27.2))))
noncomputable def large_Large__All_1_c {O : Type} (k201 k202 kr283 ky0 : Sm O) : Sm O := fun xs σ =>
 bif Nat.beq xs.length 2 then
 (AV.asF (xs.getD 0 .u)).bind fun f0 =>
 let σ1 := σ.bump 1
 let σ2 := σ1.put σ.next (.cells true 26 [(.fn f0)])
 let σ3 := σ2.bump 1
 (AV.asPS (xs.getD 1 .u)).bind fun q4 =>
 (σ3.ld q4.1 q4.2).bind fun w5 =>
 (AV.asP w5).bind fun p6 =>
 (AV.asPS (xs.getD 1 .u)).bind fun q7 =>
 Option.bind p6 fun q8 =>
 (σ3.ld q8.1 (q8.2 + 2)).bind fun w9 =>
 (AV.asI .i64 w9).bind fun n10 =>
 (σ3.ld q8.1 ((q8.2 + 2) + 1)).bind fun w11 =>
 (AV.asI .i64 w11).bind fun n12 =>
 (σ3.ld q8.1 (((q8.2 + 2) + 1) + 1)).bind fun w13 =>
 (AV.asI .i64 w13).bind fun n14 =>
 (AV.asPS (xs.getD 1 .u)).bind fun q15 =>
 (σ3.ld q15.1 q15.2).bind fun w16 =>
 (AV.asP w16).bind fun p17 =>
 (AV.asPS (xs.getD 1 .u)).bind fun q18 =>
 Option.bind p17 fun q19 =>
 (σ3.ld q19.1 (q19.2 + 5)).bind fun w20 =>
 (AV.asI .i64 w20).bind fun n21 =>
 (σ3.ld q19.1 ((q19.2 + 5) + 1)).bind fun w22 =>
 (AV.asI .i64 w22).bind fun n23 =>
 (σ3.ld q19.1 (((q19.2 + 5) + 1) + 1)).bind fun w24 =>
 (AV.asI .i64 w24).bind fun n25 =>
 let σ26 := σ3.put σ2.next (.cells true 296 [J n10, J n12, J n14, J n21, J n23, J n25])
 (loopF (S := List AV × AH O) (T := List AV × AH O) (large_Large__All_1_L1 σ2 xs k201 k202 kr283 ky0 σ) ([J 0], σ26)).bind fun r60 =>
 some ((.tup []), r60.2)
 else none
noncomputable def large_Large__All_1 {O : Type} (ky0 : Sm O) : Sm O := large_Large__All_1_c large_Large__table chain_Table__All (chain_Table__All_1 (large_Large__All_1_R0 ky0)) ky0
theorem large_Large__All_1_ent : Entered Tryz.prog 200 := Tryz.call200
theorem large_Large__All_1_run {O : Type} (k201 k202 kr283 ky0 : Sm O) : run (O := O) Tryz.prog [(201, k201), (202, k202), (2000283, kr283), (1000000, ky0)] Tryz.f200 (.n .z (.n (.d [] [0, 1, 2, 3, 4, 5, 6, 7, 10, 8, 9] [0, 1, 3, 7, 0, 16, 48, 112, 255, 511, 0]) (.n (.lp false 0 [(16, .one (.i .i64))] [] (.n .z (.n .z (.n (.n (.n .z (.n (.d [] [0, 2, 1, 3] [0, 1, 0, 7]) (.n (.rf 200000 [2] []) .z))) .z) .z)))) .z))) = large_Large__All_1_c k201 k202 kr283 ky0 := by kernel_rfl
theorem large_Large__All_1_sound {O : Type} {RO : O → Loc → (Nat → Option Obj) → Prop} {ky0 : Sm O} (hy : YSound RO Tryz.prog ky0) : FSound RO Tryz.prog 200 (large_Large__All_1 ky0) :=
   have h : FSound RO Tryz.prog 200 (large_Large__All_1_c large_Large__table chain_Table__All (chain_Table__All_1 (large_Large__All_1_R0 ky0)) ky0) := (large_Large__All_1_run large_Large__table chain_Table__All (chain_Table__All_1 (large_Large__All_1_R0 ky0)) ky0) ▸ run_soundR (gcons large_Large__table_ent (large_Large__table_sound) <| gcons chain_Table__All_ent (chain_Table__All_sound) <| grf (c := 283) chain_Table__All_1_ent (chain_Table__All_1_sound (large_Large__All_1_R0_sound hy)) <| gyld hy <| gnil) mixed Tryz.func200 (by kernel_rfl) _ (by kernel_rfl)
   h
noncomputable def large_Large__All_c {O : Type} : Sm O := fun xs σ =>
 bif Nat.beq xs.length 1 then
 (AV.asP (xs.getD 0 .u)).bind fun p0 =>
 let σ1 := σ.bump 1
 let σ2 := σ1.put σ.next (.cells true 170 [(.p p0)])
 some ((.fn (some (.func 200, [], [(.p (some ((.n σ.next), 0)))]))), σ2)
 else none
noncomputable def large_Large__All {O : Type} : Sm O := large_Large__All_c
theorem large_Large__All_ent : Entered Tryz.prog 119 := Tryz.call119
theorem large_Large__All_run {O : Type} : run (O := O) Tryz.prog [] Tryz.f119 (.n .z .z) = large_Large__All_c  := by kernel_rfl
theorem large_Large__All_sound {O : Type} {RO : O → Loc → (Nat → Option Obj) → Prop} : FSound RO Tryz.prog 119 (large_Large__All) :=
   have h : FSound RO Tryz.prog 119 (large_Large__All_c) := (large_Large__All_run) ▸ run_sound (gnil) mixed Tryz.func119 (by kernel_rfl) _
   h
noncomputable def audit_view__large_R0_c {O : Type} : Sm O := roundW 69000 1 fun env0 ys0 blk0 σ =>
 (AV.asP (env0 2)).bind fun p0 =>
 (AV.asI .i64 (ys0.getD 0 .u)).bind fun n1 =>
 (busyL σ blk0).bind fun σ2 =>
 Option.bind p0 fun q3 =>
 (σ2.ld q3.1 q3.2).bind fun w4 =>
 (AV.asP w4).bind fun p5 =>
 none
noncomputable def audit_view__large_R0 {O : Type} : Sm O := audit_view__large_R0_c
theorem audit_view__large_R0_run {O : Type} : roundAt (O := O) Tryz.prog [] 69 Tryz.f69 0 [(2, .one .p)] [(20, .one (.i .i64))] (.n .z (.n (.n .z (.n .z (.n .z (.n (.n (.g [(2, 3, [(44, .one .b)]), (7, 4, [(50, .one .b)])]) (.n .x .x)) .z)))) .z)) = audit_view__large_R0_c  := by kernel_rfl
theorem audit_view__large_R0_sound {O : Type} {RO : O → Loc → (Nat → Option Obj) → Prop} : YSound RO Tryz.prog (audit_view__large_R0) :=
   have h : YSound RO Tryz.prog (audit_view__large_R0_c) := (audit_view__large_R0_run) ▸ roundAt_sound (gnil) mixed Tryz.func69 _ _ _ _
   h
noncomputable def audit_view__large_c {O : Type} (k34 k118 k119 kr200 : Sm O) : Sm O := fun xs σ =>
 bif Nat.beq xs.length 1 then
 (AV.asP (xs.getD 0 .u)).bind fun p0 =>
 let σ1 := σ.bump 1
 let σ2 := σ1.put σ.next (.cells true 126 [(.p p0)])
 let σ3 := σ2.bump 1
 (σ3.ld (.n σ.next) 0).bind fun w4 =>
 (AV.asP w4).bind fun p5 =>
 Option.bind p5 fun q6 =>
 (σ3.ld q6.1 q6.2).bind fun w7 =>
 (AV.asP w7).bind fun p8 =>
 (k34 [(.p p8)] σ3).bind fun r9 =>
 (AV.asP r9.1).bind fun p10 =>
 (k118 [(.p p10)] r9.2).bind fun r11 =>
 (AV.asP r11.1).bind fun p12 =>
 let σ13 := r11.2.put σ2.next (.cells true 170 [(.p none)])
 (σ13.st (.n σ2.next) 0 [(.p p12)]).bind fun σ14 =>
 (σ14.ld (.n σ2.next) 0).bind fun w15 =>
 (AV.asP w15).bind fun p16 =>
 (k119 [(.p p16)] σ14).bind fun r17 =>
 (AV.asF r17.1).bind fun f18 =>
 (rangeV [(34, k34), (118, k118), (119, k119), (2000200, kr200)] f18 69000 [(2, (.p (some ((.n σ2.next), 0))))] r17.2).bind fun r19 =>
 (lstN r19.2 r17.2.next).bind fun st20 =>
 let σ21 := r19.2.kill r17.2.next
 (bif Nat.beq st20 0 then
 some ((.tup []), σ21)
 else none)
 else none
noncomputable def audit_view__large {O : Type} : Sm O := audit_view__large_c heap_Heap__Space store_Store__Large large_Large__All (large_Large__All_1 (audit_view__large_R0))
theorem audit_view__large_ent : Entered Tryz.prog 69 := Tryz.call69
theorem audit_view__large_run {O : Type} (k34 k118 k119 kr200 : Sm O) : run (O := O) Tryz.prog [(34, k34), (118, k118), (119, k119), (2000200, kr200)] Tryz.f69 (.n .z (.n .z (.n .z (.n (.rf 69000 [2] []) .z)))) = audit_view__large_c k34 k118 k119 kr200 := by kernel_rfl
theorem audit_view__large_sound {O : Type} {RO : O → Loc → (Nat → Option Obj) → Prop} : FSound RO Tryz.prog 69 (audit_view__large) :=
   have h : FSound RO Tryz.prog 69 (audit_view__large_c heap_Heap__Space store_Store__Large large_Large__All (large_Large__All_1 (audit_view__large_R0))) := (audit_view__large_run heap_Heap__Space store_Store__Large large_Large__All (large_Large__All_1 (audit_view__large_R0))) ▸ run_soundR (gcons heap_Heap__Space_ent (heap_Heap__Space_sound) <| gcons store_Store__Large_ent (store_Store__Large_sound) <| gcons large_Large__All_ent (large_Large__All_sound) <| grf (c := 200) large_Large__All_1_ent (large_Large__All_1_sound (audit_view__large_R0_sound)) <| gnil) mixed Tryz.func69 (by kernel_rfl) _ (by kernel_rfl)
   h
noncomputable def audit_view__pointers_L1 {O : Type} (l3 : SA × Nat) : List AV × AH O → Option ((List AV × AH O) ⊕ (List AV × AH O)) := (fun r4 =>
 (AV.asI .i64 (r4.1.getD 0 .u)).bind fun n5 =>
 (bif (decide (n5 < (l3.2 : Int))) then
 none
 else some (Sum.inr ([], r4.2))))
noncomputable def audit_view__pointers_c {O : Type} (k34 : Sm O) : Sm O := fun xs σ =>
 bif Nat.beq xs.length 1 then
 (AV.asP (xs.getD 0 .u)).bind fun p0 =>
 Option.bind p0 fun q1 =>
 (σ.ld q1.1 (q1.2 + 1)).bind fun w2 =>
 (AV.asSl w2).bind fun l3 =>
 (loopF (S := List AV × AH O) (T := List AV × AH O) (audit_view__pointers_L1 l3) ([J 0], σ)).bind fun r6 =>
 some ((.tup []), r6.2)
 else none
noncomputable def audit_view__pointers {O : Type} : Sm O := audit_view__pointers_c heap_Heap__Space
theorem audit_view__pointers_ent : Entered Tryz.prog 70 := Tryz.call70
theorem audit_view__pointers_run {O : Type} (k34 : Sm O) : run (O := O) Tryz.prog [(34, k34)] Tryz.f70 (.n .z (.n (.lp false 0 [(12, .one (.i .i64))] [] (.n .z (.n (.n .x .z) (.n (.n (.n .z (.n .z (.n (.lp false 1000000 [(26, .one (.i .i64))] [] (.n .z (.n (.n .x .x) (.n (.n (.n .z (.n .z (.n .z (.n .x .x)))) .z) .z)))) .z))) .z) .z)))) .z)) = audit_view__pointers_c k34 := by kernel_rfl
theorem audit_view__pointers_sound {O : Type} {RO : O → Loc → (Nat → Option Obj) → Prop} : FSound RO Tryz.prog 70 (audit_view__pointers) :=
   have h : FSound RO Tryz.prog 70 (audit_view__pointers_c heap_Heap__Space) := (audit_view__pointers_run heap_Heap__Space) ▸ run_sound (gcons heap_Heap__Space_ent (heap_Heap__Space_sound) <| gnil) mixed Tryz.func70 (by kernel_rfl) _
   h
noncomputable def heap_Heap__Roots_c {O : Type} : Sm O := fun xs σ =>
 bif Nat.beq xs.length 1 then
 (AV.asP (xs.getD 0 .u)).bind fun p0 =>
 Option.bind p0 fun q1 =>
 (σ.ld q1.1 (q1.2 + 6)).bind fun w2 =>
 (AV.asP w2).bind fun p3 =>
 some ((.p p3), σ)
 else none
noncomputable def heap_Heap__Roots {O : Type} : Sm O := heap_Heap__Roots_c
theorem heap_Heap__Roots_ent : Entered Tryz.prog 72 := Tryz.call72
theorem heap_Heap__Roots_run {O : Type} : run (O := O) Tryz.prog [] Tryz.f72 (.n .z .z) = heap_Heap__Roots_c  := by kernel_rfl
theorem heap_Heap__Roots_sound {O : Type} {RO : O → Loc → (Nat → Option Obj) → Prop} : FSound RO Tryz.prog 72 (heap_Heap__Roots) :=
   have h : FSound RO Tryz.prog 72 (heap_Heap__Roots_c) := (heap_Heap__Roots_run) ▸ run_sound (gnil) mixed Tryz.func72 (by kernel_rfl) _
   h
noncomputable def audit_view__roots_c {O : Type} (k125 k72 k127 k128 : Sm O) : Sm O := fun xs σ =>
 bif Nat.beq xs.length 1 then
 (AV.asP (xs.getD 0 .u)).bind fun p0 =>
 let σ1 := σ.bump 1
 let σ2 := σ1.put σ.next (.cells true 126 [(.p p0)])
 let σ3 := σ2.bump 1
 let σ4 := σ3.put σ2.next (.cells true 3 [J 0])
 (σ4.st (.n σ2.next) 0 [J 0]).bind fun σ5 =>
 (σ5.ld (.n σ.next) 0).bind fun w6 =>
 (AV.asP w6).bind fun p7 =>
 Option.bind p7 fun q8 =>
 (σ5.ld q8.1 q8.2).bind fun w9 =>
 (AV.asP w9).bind fun p10 =>
 (k72 [(.p p10)] σ5).bind fun r11 =>
 (AV.asP r11.1).bind fun p12 =>
 (k125 [J 4, (.p (some ((.n σ.next), 0))), (.p (some ((.n σ2.next), 0)))] r11.2).bind fun r13 =>
 (AV.asF r13.1).bind fun f14 =>
 (k127 [(.p p12), (.fn f14)] r13.2).bind fun r15 =>
 (AV.asTup 0 r15.1).bind fun c16 =>
 (r15.2.st (.n σ2.next) 0 [J 0]).bind fun σ17 =>
 (σ17.ld (.n σ.next) 0).bind fun w18 =>
 (AV.asP w18).bind fun p19 =>
 Option.bind p19 fun q20 =>
 (σ17.ld q20.1 q20.2).bind fun w21 =>
 (AV.asP w21).bind fun p22 =>
 (k72 [(.p p22)] σ17).bind fun r23 =>
 (AV.asP r23.1).bind fun p24 =>
 (k125 [J 5, (.p (some ((.n σ.next), 0))), (.p (some ((.n σ2.next), 0)))] r23.2).bind fun r25 =>
 (AV.asF r25.1).bind fun f26 =>
 (k128 [(.p p24), (.fn f26)] r25.2).bind fun r27 =>
 (AV.asTup 0 r27.1).bind fun c28 =>
 some ((.tup []), r27.2)
 else none
noncomputable def audit_view__roots {O : Type} : Sm O := audit_view__roots_c audit_view__roots_1 heap_Heap__Roots roots_Roots__Turn roots_Roots__TurnWeak
theorem audit_view__roots_ent : Entered Tryz.prog 71 := Tryz.call71
theorem audit_view__roots_run {O : Type} (k125 k72 k127 k128 : Sm O) : run (O := O) Tryz.prog [(125, k125), (72, k72), (127, k127), (128, k128)] Tryz.f71 (.n .z (.n .z (.n .z (.n .z .z)))) = audit_view__roots_c k125 k72 k127 k128 := by kernel_rfl
theorem audit_view__roots_sound {O : Type} {RO : O → Loc → (Nat → Option Obj) → Prop} : FSound RO Tryz.prog 71 (audit_view__roots) :=
   have h : FSound RO Tryz.prog 71 (audit_view__roots_c audit_view__roots_1 heap_Heap__Roots roots_Roots__Turn roots_Roots__TurnWeak) := (audit_view__roots_run audit_view__roots_1 heap_Heap__Roots roots_Roots__Turn roots_Roots__TurnWeak) ▸ run_sound (gcons audit_view__roots_1_ent (audit_view__roots_1_sound) <| gcons heap_Heap__Roots_ent (heap_Heap__Roots_sound) <| gcons roots_Roots__Turn_ent (roots_Roots__Turn_sound) <| gcons roots_Roots__TurnWeak_ent (roots_Roots__TurnWeak_sound) <| gnil) mixed Tryz.func71 (by kernel_rfl) _
   h
noncomputable def audit_over_p {O : Type} (w : Words O) (k68 k69 k70 k71 k72 k73 k37 : Sm O) : Sm O := fun xs σ =>
 bif Nat.beq xs.length 1 then
 (AV.asP (xs.getD 0 .u)).bind fun p0 =>
 let σ1 := σ.bump 2
 let σ2 := σ1.put σ.next (.map [] [] 0)
 let σ3 := σ2.put (σ.next + 1) (.cells true 125 [(.p p0), N, N, (.mp (some σ.next)), N, J 0])
 (k68 [(.p (some ((.n (σ.next + 1)), 0)))] σ3).bind fun r4 =>
 (AV.asB r4.1).bind fun b5 =>
 (bif (!b5) then
 none
 else (k69 [(.p (some ((.n (σ.next + 1)), 0)))] r4.2).bind fun r6 =>
 (AV.asTup 0 r6.1).bind fun c7 =>
 (k70 [(.p (some ((.n (σ.next + 1)), 0)))] r6.2).bind fun r8 =>
 (AV.asTup 0 r8.1).bind fun c9 =>
 (k71 [(.p (some ((.n (σ.next + 1)), 0)))] r8.2).bind fun r10 =>
 (AV.asTup 0 r10.1).bind fun c11 =>
 (r10.2.ld (.n (σ.next + 1)) 5).bind fun w12 =>
 (AV.asI .i64 w12).bind fun n13 =>
 (k72 [(.p p0)] r10.2).bind fun r14 =>
 (AV.asP r14.1).bind fun p15 =>
 (chkE (r14.2.ld (.n (σ.next + 1)) 5) (some (.i .i64 n13))).bind fun _ =>
 (k73 [(.p p15)] r14.2).bind fun r16 =>
 (AV.asI .i64 r16.1).bind fun n17 =>
 (chkE (r16.2.ld (.n (σ.next + 1)) 5) (some (.i .i64 n13))).bind fun _ =>
 (k37 [(.p p0)] r16.2).bind fun r18 =>
 (AV.asAgg 8 r18.1).bind fun c19 =>
 w.U0 c19 fun n20 n21 n22 n23 n24 n25 n26 n27 =>
 (bif (((IntKind.i64.wrap (n13 + n17)) : Int) != n25) then
 none
 else some ((.p (some ((.n (σ.next + 1)), 0))), r18.2)))
 else none
noncomputable def audit_over_c {O : Type} (k68 k69 k70 k71 k72 k73 k37 : Sm O) : Sm O := audit_over_p fastWords k68 k69 k70 k71 k72 k73 k37
noncomputable def audit_over {O : Type} : Sm O := audit_over_c audit_view__small audit_view__large audit_view__pointers audit_view__roots heap_Heap__Roots roots_Roots__Charge heap_Heap__Count
theorem audit_over_ent : Entered Tryz.prog 44 := Tryz.call44
theorem audit_over_run {O : Type} (k68 k69 k70 k71 k72 k73 k37 : Sm O) : run (O := O) Tryz.prog [(68, k68), (69, k69), (70, k70), (71, k71), (72, k72), (73, k73), (37, k37)] Tryz.f44 (.n .z (.n .z (.n (.n .z (.n .x .z)) (.n .z (.n .z (.n .z (.n (.n (.d [] [0, 1, 2, 3, 4, 5, 6, 7, 8] [0, 1, 3, 7, 0, 16, 48, 127, 255]) (.n .z (.n .x .z))) .z))))))) = audit_over_c k68 k69 k70 k71 k72 k73 k37 :=
 (show run (O := O) Tryz.prog [(68, k68), (69, k69), (70, k70), (71, k71), (72, k72), (73, k73), (37, k37)] Tryz.f44 (.n .z (.n .z (.n (.n .z (.n .x .z)) (.n .z (.n .z (.n .z (.n (.n (.d [] [0, 1, 2, 3, 4, 5, 6, 7, 8] [0, 1, 3, 7, 0, 16, 48, 127, 255]) (.n .z (.n .x .z))) .z))))))) = audit_over_p slowWords k68 k69 k70 k71 k72 k73 k37 by kernel_rfl).trans (congrArg (fun w => audit_over_p w k68 k69 k70 k71 k72 k73 k37) words_eq)
theorem audit_over_sound {O : Type} {RO : O → Loc → (Nat → Option Obj) → Prop} : FSound RO Tryz.prog 44 (audit_over) :=
   have h : FSound RO Tryz.prog 44 (audit_over_c audit_view__small audit_view__large audit_view__pointers audit_view__roots heap_Heap__Roots roots_Roots__Charge heap_Heap__Count) := (audit_over_run audit_view__small audit_view__large audit_view__pointers audit_view__roots heap_Heap__Roots roots_Roots__Charge heap_Heap__Count) ▸ run_sound (gcons audit_view__small_ent (audit_view__small_sound) <| gcons audit_view__large_ent (audit_view__large_sound) <| gcons audit_view__pointers_ent (audit_view__pointers_sound) <| gcons audit_view__roots_ent (audit_view__roots_sound) <| gcons heap_Heap__Roots_ent (heap_Heap__Roots_sound) <| gcons roots_Roots__Charge_ent (roots_Roots__Charge_sound) <| gcons heap_Heap__Count_ent (heap_Heap__Count_sound) <| gnil) mixed Tryz.func44 (by kernel_rfl) _
   h
noncomputable def audit_Look_c {O : Type} (k44 : Sm O) : Sm O := fun xs σ =>
 bif Nat.beq xs.length 1 then
 (AV.asP (xs.getD 0 .u)).bind fun p0 =>
 (k44 [(.p p0)] σ).bind fun r1 =>
 (AV.asP r1.1).bind fun p2 =>
 Option.bind p2 fun q3 =>
 (r1.2.ld q3.1 (q3.2 + 4)).bind fun w4 =>
 (AV.asSl w4).bind fun l5 =>
 some (L l5, r1.2)
 else none
noncomputable def audit_Look {O : Type} : Sm O := audit_Look_c audit_over
theorem audit_Look_ent : Entered Tryz.prog 20 := Tryz.call20
theorem audit_Look_run {O : Type} (k44 : Sm O) : run (O := O) Tryz.prog [(44, k44)] Tryz.f20 (.n .z .z) = audit_Look_c k44 := by kernel_rfl
theorem audit_Look_sound {O : Type} {RO : O → Loc → (Nat → Option Obj) → Prop} : FSound RO Tryz.prog 20 (audit_Look) :=
   have h : FSound RO Tryz.prog 20 (audit_Look_c audit_over) := (audit_Look_run audit_over) ▸ run_sound (gcons audit_over_ent (audit_over_sound) <| gnil) mixed Tryz.func20 (by kernel_rfl) _
   h
noncomputable def trial_Try_L1 {O : Type} (l1 : SA × Nat) (k19 : Sm O) (r26 : AV × AH O) : List AV × AH O → Option ((List AV × AH O) ⊕ (List AV × AH O)) := (fun r42 =>
 (AV.asI .i64 (r42.1.getD 0 .u)).bind fun n43 =>
 (bif (decide (n43 < (l1.2 : Int))) then
 (bif ((decide ((0 : Int) ≤ n43)) && (decide (n43 < (l1.2 : Int)))) then
 (SA.ref l1.1).bind fun q44 =>
 (r42.2.ld q44.1 (q44.2 + (n43.toNat * 1))).bind fun w45 =>
 (AV.asSl w45).bind fun l46 =>
 (k19 [(.p (some ((.n r26.2.next), 0))), L l46] r42.2).bind fun r47 =>
 (AV.asI .i64 r47.1).bind fun n48 =>
 (bif ((n48 : Int) != 0) then
 none
 else some (Sum.inl ([(.i .i64 (IntKind.i64.wrap (n43 + 1)))], r47.2)))
 else none)
 else some (Sum.inr ([], r42.2))))
noncomputable def trial_Try_c {O : Type} (k12 k13 k14 k15 k16 k17 k18 k19 k21 k20 : Sm O) : Sm O := fun xs σ =>
 bif Nat.beq xs.length 2 then
 (AV.asSl (xs.getD 0 .u)).bind fun l0 =>
 (AV.asSl (xs.getD 1 .u)).bind fun l1 =>
 let σ2 := σ.bump 1
 let σ3 := σ2.put σ.next (.cells true 32 [J 0, J 0])
 (k12 [L l0, N] σ3).bind fun r4 =>
 (AV.asSl r4.1).bind fun l5 =>
 (k13 [L l0, N] r4.2).bind fun r6 =>
 (AV.asSl r6.1).bind fun l7 =>
 (k14 [L l5, L l7, (.fn (some (.func 15, [], [])))] r6.2).bind fun r8 =>
 (AV.asB r8.1).bind fun b9 =>
 (bif (!b9) then
 none
 else let σ10 := r8.2.bump 1
 (k16 [L l0] σ10).bind fun r11 =>
 (AV.asTup 2 r11.1).bind fun c12 =>
 (AV.asAgg 5 (c12.getD 0 .u)).bind fun c13 =>
 I6 c13 0 fun n14 => I6 c13 1 fun n15 => I6 c13 2 fun n16 => I6 c13 3 fun n17 => I6 c13 4 fun n18 => I6 c12 1 fun n19 => let σ20 := r11.2.put r8.2.next (.cells true 46 [J 0, J 0, J 0, J 0, J 0])
 (σ20.st (.n r8.2.next) 0 [J n14, J n15, J n16, J n17, J n18]).bind fun σ21 =>
 (bif ((n19 : Int) != 0) then
 none
 else (k17 [L l0] σ21).bind fun r22 =>
 (AV.asTup 2 r22.1).bind fun c23 =>
 (AV.asP (c23.getD 0 .u)).bind fun p24 =>
 I6 c23 1 fun n25 => (k18 [L l0] r22.2).bind fun r26 =>
 (AV.asTup 2 r26.1).bind fun c27 =>
 (AV.asP (c27.getD 0 .u)).bind fun p28 =>
 I6 c27 1 fun n29 => let σ30 := r26.2.bump 1
 (σ30.ld (.n r8.2.next) 0).bind fun w31 =>
 (AV.asI .i64 w31).bind fun n32 =>
 (σ30.ld (.n r8.2.next) 1).bind fun w33 =>
 (AV.asI .i64 w33).bind fun n34 =>
 (σ30.ld (.n r8.2.next) 2).bind fun w35 =>
 (AV.asI .i64 w35).bind fun n36 =>
 (σ30.ld (.n r8.2.next) 3).bind fun w37 =>
 (AV.asI .i64 w37).bind fun n38 =>
 (σ30.ld (.n r8.2.next) 4).bind fun w39 =>
 (AV.asI .i64 w39).bind fun n40 =>
 let σ41 := σ30.put r26.2.next (.cells true 57 [J n32, J n34, J n36, J n38, J n40, (.p p24), (.p p28), J 0])
 (loopF (S := List AV × AH O) (T := List AV × AH O) (trial_Try_L1 l1 k19 r26) ([J 0], σ41)).bind fun r49 =>
 (k21 [(.p (some ((.n r26.2.next), 0)))] r49.2).bind fun r50 =>
 (AV.asP r50.1).bind fun p51 =>
 (k20 [(.p p51)] r50.2).bind fun r52 =>
 (AV.asSl r52.1).bind fun l53 =>
 (bif (decide ((l53.2 : Int) > 0)) then
 none
 else (r52.2.st (.n σ.next) 0 [J 0, (.i .i64 (l1.2 : Int))]).bind fun σ54 =>
 (σ54.ld (.n σ.next) 0).bind fun w55 =>
 (AV.asI .i64 w55).bind fun n56 =>
 (σ54.ld (.n σ.next) 1).bind fun w57 =>
 (AV.asI .i64 w57).bind fun n58 =>
 some ((.agg [J n56, J n58]), σ54))))
 else none
noncomputable def trial_Try {O : Type} (F : Nat) : Sm O := trial_Try_c (service_Run F) (twin_Run F) slices_EqualFunc_api_Answer_ trial_same config_From service_New twin_New (trial_trial__step F) trial_trial__heap audit_Look
theorem trial_Try_ent : Entered Tryz.prog 9 := Tryz.call9
theorem trial_Try_run {O : Type} (k12 k13 k14 k15 k16 k17 k18 k19 k21 k20 : Sm O) : run (O := O) Tryz.prog [(12, k12), (13, k13), (14, k14), (15, k15), (16, k16), (17, k17), (18, k18), (19, k19), (21, k21), (20, k20)] Tryz.f9 (.n .z (.n .z (.n (.n .z (.n .x .z)) (.n .z (.n (.n .z (.n .x .z)) (.n .z (.n .z (.n .z (.n (.n .z (.n (.lp false 0 [(55, .one (.i .i64))] [] (.n .z (.n .z (.n (.n (.n .z (.n .z (.n .z (.n .x .z)))) .z) .z)))) .z)) (.n (.n .z (.n .x .z)) .z)))))))))) = trial_Try_c k12 k13 k14 k15 k16 k17 k18 k19 k21 k20 := by kernel_rfl
theorem trial_Try_sound {O : Type} {RO : O → Loc → (Nat → Option Obj) → Prop} (F : Nat) : FSound RO Tryz.prog 9 (trial_Try F) :=
   have h : FSound RO Tryz.prog 9 (trial_Try_c (service_Run F) (twin_Run F) slices_EqualFunc_api_Answer_ trial_same config_From service_New twin_New (trial_trial__step F) trial_trial__heap audit_Look) := (trial_Try_run (service_Run F) (twin_Run F) slices_EqualFunc_api_Answer_ trial_same config_From service_New twin_New (trial_trial__step F) trial_trial__heap audit_Look) ▸ run_sound (gcons service_Run_ent (service_Run_sound F) <| gcons twin_Run_ent (twin_Run_sound F) <| gcons slices_EqualFunc_api_Answer__ent (slices_EqualFunc_api_Answer__sound) <| gcons trial_same_ent (trial_same_sound) <| gcons config_From_ent (config_From_sound) <| gcons service_New_ent (service_New_sound) <| gcons twin_New_ent (twin_New_sound) <| gcons trial_trial__step_ent (trial_trial__step_sound F) <| gcons trial_trial__heap_ent (trial_trial__heap_sound) <| gcons audit_Look_ent (audit_Look_sound) <| gnil) mixed Tryz.func9 (by kernel_rfl) _
   h
noncomputable def law45_awake_c {O : Type} (k7 k8 k9 : Sm O) : Sm O := fun xs σ =>
 bif Nat.beq xs.length 0 then
 let σ0 := σ.bump 4
 let σ1 := σ0.put σ.next (.cells true 3 [J 1])
 let σ2 := σ1.put (σ.next + 1) (.cells true 3 [J 2])
 let σ3 := σ2.put ((σ.next + 1) + 1) (.cells true 3 [J 1])
 let σ4 := σ3.put (((σ.next + 1) + 1) + 1) (.cells true 29 [(.sl (.loc (.n σ.next) 0 1) 1), (.sl (.loc (.n (σ.next + 1)) 0 1) 1), (.sl (.loc (.n ((σ.next + 1) + 1)) 0 1) 1)])
 (k7 [(.sl (.loc (.n (((σ.next + 1) + 1) + 1)) 0 1) 3), (.fn (some (.func 8, [], [])))] σ4).bind fun r5 =>
 (AV.asSl r5.1).bind fun l6 =>
 let σ7 := r5.2.bump 3
 ((bif ((((l6.2 : Int) : Int) == 1) == true) then
 (bif (decide ((0 : Int) < (l6.2 : Int))) then
 (SA.ref l6.1).bind fun q8 =>
 (σ7.ld q8.1 q8.2).bind fun w9 =>
 (AV.asSl w9).bind fun l10 =>
 some ([(.b (((l10.2 : Int) : Int) == 1))], σ7)
 else none)
 else some ([(.b false)], σ7)) : Option (List AV × AH O)).bind fun r11 =>
 (AV.asB (r11.1.getD 0 .u)).bind fun b12 =>
 ((bif (b12 == true) then
 (bif (decide ((0 : Int) < (l6.2 : Int))) then
 (SA.ref l6.1).bind fun q13 =>
 (r11.2.ld q13.1 q13.2).bind fun w14 =>
 (AV.asSl w14).bind fun l15 =>
 (bif (decide ((0 : Int) < (l15.2 : Int))) then
 (SA.ref l15.1).bind fun q16 =>
 (r11.2.ld q16.1 q16.2).bind fun w17 =>
 (AV.asI .i64 w17).bind fun n18 =>
 some ([(.b ((n18 : Int) == 2))], r11.2)
 else none)
 else none)
 else some ([(.b false)], r11.2)) : Option (List AV × AH O)).bind fun r19 =>
 (AV.asB (r19.1.getD 0 .u)).bind fun b20 =>
 ((bif (b20 == true) then
 let σ21 := r19.2.put r5.2.next (.cells true 3 [J 16, J 0, J 8, J 1, J 0])
 let σ22 := σ21.put (r5.2.next + 1) (.cells true 3 [J 1])
 let σ23 := σ22.put ((r5.2.next + 1) + 1) (.cells true 29 [(.sl (.loc (.n (r5.2.next + 1)) 0 1) 1)])
 (k9 [(.sl (.loc (.n r5.2.next) 0 1) 5), (.sl (.loc (.n ((r5.2.next + 1) + 1)) 0 1) 1)] σ23).bind fun r24 =>
 (AV.asAgg 2 r24.1).bind fun c25 =>
 I6 c25 0 fun n26 => I6 c25 1 fun n27 => let c28 : Bool := (((n26 : Int) == 0) && (((n27 : Int) == 1) && true))
 some ([(.b c28)], r24.2)
 else some ([(.b false)], r19.2)) : Option (List AV × AH O)).bind fun r29 =>
 (AV.asB (r29.1.getD 0 .u)).bind fun b30 =>
 some ((.b b30), r29.2)
 else none
noncomputable def law45_awake {O : Type} (F : Nat) : Sm O := law45_awake_c trial_Shorter law45_awake_1 (trial_Try F)
theorem law45_awake_ent : Entered Tryz.prog 4 := Tryz.call4
theorem law45_awake_run {O : Type} (k7 k8 k9 : Sm O) : run (O := O) Tryz.prog [(7, k7), (8, k8), (9, k9)] Tryz.f4 (.n .z (.n .z (.n (.g [(3, 5, [(16, .one .b)]), (10, 6, [(24, .one .b)]), (18, 6, [(32, .one .b)])]) .z))) = law45_awake_c k7 k8 k9 := by kernel_rfl
theorem law45_awake_sound {O : Type} {RO : O → Loc → (Nat → Option Obj) → Prop} (F : Nat) : FSound RO Tryz.prog 4 (law45_awake F) :=
   have h : FSound RO Tryz.prog 4 (law45_awake_c trial_Shorter law45_awake_1 (trial_Try F)) := (law45_awake_run trial_Shorter law45_awake_1 (trial_Try F)) ▸ run_sound (gcons trial_Shorter_ent (trial_Shorter_sound) <| gcons law45_awake_1_ent (law45_awake_1_sound) <| gcons trial_Try_ent (trial_Try_sound F) <| gnil) mixed Tryz.func4 (by kernel_rfl) _
   h
noncomputable def trial_Kind__Word_c {O : Type} : Sm O := fun xs σ =>
 bif Nat.beq xs.length 1 then
 (AV.asI .i64 (xs.getD 0 .u)).bind fun n0 =>
 let σ1 := σ.bump 1
 let σ2 := σ1.put σ.next (.cells true 34 [(.s ([] : List UInt8)), (.s ([] : List UInt8)), (.s ([] : List UInt8)), (.s ([] : List UInt8)), (.s ([] : List UInt8)), (.s ([] : List UInt8)), (.s ([] : List UInt8))])
 (σ2.st (.n σ.next) 0 [(.s ([119, 101, 108, 108] : List UInt8)), (.s ([97, 110, 115, 119, 101, 114, 115] : List UInt8)), (.s ([108, 105, 118, 101] : List UInt8)), (.s ([100, 101, 98, 116] : List UInt8)), (.s ([100, 101, 97, 114] : List UInt8)), (.s ([104, 101, 108, 100] : List UInt8)), (.s ([119, 114, 111, 110, 103] : List UInt8))]).bind fun σ3 =>
 ((bif ((decide (n0 < 0)) == false) then
 some ([(.b (decide (n0 ≥ 7)))], σ3)
 else some ([(.b true)], σ3)) : Option (List AV × AH O)).bind fun r4 =>
 (AV.asB (r4.1.getD 0 .u)).bind fun b5 =>
 (bif b5 then
 some ((.s ([] : List UInt8)), r4.2)
 else (bif ((decide ((0 : Int) ≤ n0)) && (decide (n0 < 7))) then
 (r4.2.ld (.n σ.next) (0 + (n0.toNat * 1))).bind fun w6 =>
 (AV.asS w6).bind fun s7 =>
 some ((.s s7), r4.2)
 else none))
 else none
noncomputable def trial_Kind__Word {O : Type} : Sm O := trial_Kind__Word_c
theorem trial_Kind__Word_ent : Entered Tryz.prog 5 := Tryz.call5
theorem trial_Kind__Word_run {O : Type} : run (O := O) Tryz.prog [] Tryz.f5 (.n .z (.n .z (.n (.n (.g [(2, 2, [(10, .one .b)])]) (.n .z .z)) .z))) = trial_Kind__Word_c  := by kernel_rfl
theorem trial_Kind__Word_sound {O : Type} {RO : O → Loc → (Nat → Option Obj) → Prop} : FSound RO Tryz.prog 5 (trial_Kind__Word) :=
   have h : FSound RO Tryz.prog 5 (trial_Kind__Word_c) := (trial_Kind__Word_run) ▸ run_sound (gnil) mixed Tryz.func5 (by kernel_rfl) _
   h
noncomputable def haymowref45_Word_c {O : Type} : Sm O := fun xs σ =>
 bif Nat.beq xs.length 1 then
 (AV.asI .i64 (xs.getD 0 .u)).bind fun n0 =>
 let σ1 := σ.bump 1
 let σ2 := σ1.put σ.next (.cells true 9 [(.s ([119, 101, 108, 108] : List UInt8)), (.s ([97, 110, 115, 119, 101, 114, 115] : List UInt8)), (.s ([108, 105, 118, 101] : List UInt8)), (.s ([100, 101, 98, 116] : List UInt8)), (.s ([100, 101, 97, 114] : List UInt8)), (.s ([104, 101, 108, 100] : List UInt8)), (.s ([119, 114, 111, 110, 103] : List UInt8))])
 ((bif ((decide (n0 < 0)) == false) then
 some ([(.b (decide (n0 > 6)))], σ2)
 else some ([(.b true)], σ2)) : Option (List AV × AH O)).bind fun r3 =>
 (AV.asB (r3.1.getD 0 .u)).bind fun b4 =>
 (bif b4 then
 some ((.s ([] : List UInt8)), r3.2)
 else (bif ((decide ((0 : Int) ≤ n0)) && (decide (n0 < 7))) then
 (r3.2.ld (.n σ.next) (0 + (n0.toNat * 1))).bind fun w5 =>
 (AV.asS w5).bind fun s6 =>
 some ((.s s6), r3.2)
 else none))
 else none
noncomputable def haymowref45_Word {O : Type} : Sm O := haymowref45_Word_c
theorem haymowref45_Word_ent : Entered Tryz.prog 6 := Tryz.call6
theorem haymowref45_Word_run {O : Type} : run (O := O) Tryz.prog [] Tryz.f6 (.n .z (.n .z (.n (.n (.g [(2, 2, [(10, .one .b)])]) (.n .z .z)) .z))) = haymowref45_Word_c  := by kernel_rfl
theorem haymowref45_Word_sound {O : Type} {RO : O → Loc → (Nat → Option Obj) → Prop} : FSound RO Tryz.prog 6 (haymowref45_Word) :=
   have h : FSound RO Tryz.prog 6 (haymowref45_Word_c) := (haymowref45_Word_run) ▸ run_sound (gnil) mixed Tryz.func6 (by kernel_rfl) _
   h
noncomputable def law45_TrialWords_c {O : Type} (k4 k5 k6 : Sm O) : Sm O := fun xs σ =>
 bif Nat.beq xs.length 1 then
 (AV.asI .i64 (xs.getD 0 .u)).bind fun n0 =>
 (k4 [] σ).bind fun r1 =>
 (AV.asB r1.1).bind fun b2 =>
 (bif (!b2) then
 some ((.b false), r1.2)
 else (k5 [J n0] r1.2).bind fun r3 =>
 (AV.asS r3.1).bind fun s4 =>
 (k6 [J n0] r3.2).bind fun r5 =>
 (AV.asS r5.1).bind fun s6 =>
 some ((.b (s4 == s6)), r5.2))
 else none
noncomputable def law45_TrialWords {O : Type} (F : Nat) : Sm O := law45_TrialWords_c (law45_awake F) trial_Kind__Word haymowref45_Word
theorem law45_TrialWords_run {O : Type} (k4 k5 k6 : Sm O) : run (O := O) Tryz.prog [(4, k4), (5, k5), (6, k6)] Tryz.f3 (.n .z (.n (.n .z (.n .z .z)) .z)) = law45_TrialWords_c k4 k5 k6 := by kernel_rfl
theorem law45_TrialWords_sound {O : Type} {RO : O → Loc → (Nat → Option Obj) → Prop} (F : Nat) : FSound RO Tryz.prog 3 (law45_TrialWords F) :=
   have h : FSound RO Tryz.prog 3 (law45_TrialWords_c (law45_awake F) trial_Kind__Word haymowref45_Word) := (law45_TrialWords_run (law45_awake F) trial_Kind__Word haymowref45_Word) ▸ run_sound (gcons law45_awake_ent (law45_awake_sound F) <| gcons trial_Kind__Word_ent (trial_Kind__Word_sound) <| gcons haymowref45_Word_ent (haymowref45_Word_sound) <| gnil) mixed Tryz.func3 (by kernel_rfl) _
   h
end Go.Abs.Tryz
