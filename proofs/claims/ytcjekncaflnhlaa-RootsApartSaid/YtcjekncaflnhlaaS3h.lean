/-
  What the functions of the program do, each as a function of Lean, and that it does so. No conditions.
-/
import Derived.Test.YtcjekncaflnhlaaAbsExtern
import Derived.Test.YtcjekncaflnhlaaProg
import Derived.KernelRfl
set_option linter.unusedVariables false
set_option linter.unusedSimpArgs false
set_option linter.constructorNameAsVariable false
set_option maxRecDepth 100000
namespace Go.Abs.Try
open Go Go.Abs Go.Proofs

theorem mixed : Try.prog.follows .mixedOrders = true := by kernel_rfl
abbrev T_int64 : Nat := 2
abbrev T_int : Nat := 3
abbrev T_bool : Nat := 4
abbrev T_uint8 : Nat := 5
abbrev T_abi_BoundsErrorCode : Nat := 6
abbrev T_runtime_boundsError : Nat := 8
abbrev T_string : Nat := 9
abbrev T_runtime_errorString : Nat := 10
abbrev T_runtime_plainError : Nat := 11
abbrev T_uintptr : Nat := 12
abbrev T_runtime_errorAddressString : Nat := 14
abbrev T_maps_unhashableTypeError : Nat := 19
abbrev T_int32 : Nat := 21
abbrev T_canon_Form : Nat := 27
abbrev T_api_Errno : Nat := 28
abbrev T_haymowref40_Form : Nat := 33
abbrev T_uint64 : Nat := 46
abbrev T_law18_Op : Nat := 48
abbrev T_ref_Ref : Nat := 52
abbrev T_haymowref10_State : Nat := 68
abbrev T_haymowref18_State : Nat := 71
abbrev T_api_Wide : Nat := 74
abbrev T_mem_Mem : Nat := 79
abbrev T_haymowref18_Handle : Nat := 88
abbrev T_diff_Kind : Nat := 116
abbrev T_api_Shape : Nat := 118
abbrev T_api_Header : Nat := 120
abbrev T_canon_Node : Nat := 123
abbrev T_diff_Change : Nat := 125
abbrev T_haymowref40_Node : Nat := 127
abbrev T_haymowref47_Change : Nat := 129
abbrev T_roots_Roots : Nat := 142
abbrev T_law36_Op : Nat := 151
abbrev T_haymowref15_State : Nat := 165
abbrev T_law15_Op : Nat := 170
abbrev T_image_reader : Nat := 185
abbrev T_chain_Chain : Nat := 200
abbrev T_handles_Handles : Nat := 202
abbrev T_chain_Table : Nat := 206
abbrev T_meter_Kind : Nat := 216
abbrev T_haymowref10_Entry : Nat := 220
abbrev T_haymowref01_Four : Nat := 229
abbrev T_meter_words : Nat := 233
abbrev T_meter_Meter : Nat := 235
abbrev T_iter_Seq_int_ : Nat := 237
abbrev T_large_Large : Nat := 240
abbrev T_frames_top : Nat := 248
abbrev T_frames_Frames : Nat := 250
abbrev T_graph_Graph : Nat := 255
abbrev T_graph_node : Nat := 259
abbrev T_haymowref36_Node : Nat := 276
abbrev T_uint : Nat := 303
abbrev T_pool_Pool : Nat := 316
abbrev T_mem_space : Nat := 333
abbrev T_field_Field : Nat := 352
abbrev T_slices_sortedHint : Nat := 364
abbrev T_uint32 : Nat := 370
abbrev T_slices_xorshift : Nat := 382
abbrev T_runtime_TypeAssertionError : Nat := 391
abbrev T_runtime_PanicNilError : Nat := 394
abbrev T_abi_TFlag : Nat := 395
abbrev T_abi_Kind : Nat := 396
abbrev T_abi_NameOff : Nat := 399
abbrev T_abi_TypeOff : Nat := 400
abbrev T_abi_Type : Nat := 402
theorem bits_Add64_ext {O : Type} : ExternOK Try.prog 224 (bits_Add64 (O := O)) := add64_ext Try.func224 (by kernel_rfl) (by kernel_rfl) (by kernel_rfl) rfl

/-- haymow/meter.New -/
noncomputable def meter_New_c {O : Type} : Sm O := fun xs σ =>
 bif Nat.beq xs.length 0 then
 let σ0 := σ.bump 1
 let σ1 := σ0.put σ.next (.cells true 235 [(.i .u64 0), (.i .u64 0), (.i .u64 0), (.i .u64 0), (.i .i64 0), (.i .i64 0)])
 some ((.p (some ((.n σ.next), 0))), σ1)
 else none
noncomputable def meter_New {O : Type} : Sm O := meter_New_c
theorem meter_New_ent : Entered Try.prog 210 := Try.call210
theorem meter_New_run {O : Type} : run (O := O) Try.prog [] Try.f210 (.n .z .z) = meter_New_c  := by kernel_rfl
theorem meter_New_sound {O : Type} {RO : O → Loc → (Nat → Option Obj) → Prop} : FSound RO Try.prog 210 (meter_New) :=
   have h : FSound RO Try.prog 210 (meter_New_c) := (meter_New_run) ▸ run_sound (gnil) mixed Try.func210 (by kernel_rfl) _
   h

/-- haymow/mem.New -/
noncomputable def mem_New_c {O : Type} (k210 : Sm O) : Sm O := fun xs σ =>
 bif Nat.beq xs.length 0 then
 let σ0 := σ.bump 1
 (k210 [] σ0).bind fun r1 =>
 (AV.asP r1.1).bind fun p2 =>
 let σ3 := r1.2.put σ.next (.cells true 79 [(.p p2), (.sl .nil 0), (.i .i64 0), (.i .i64 0)])
 some ((.p (some ((.n σ.next), 0))), σ3)
 else none
noncomputable def mem_New {O : Type} : Sm O := mem_New_c meter_New
theorem mem_New_ent : Entered Try.prog 111 := Try.call111
theorem mem_New_run {O : Type} (k210 : Sm O) : run (O := O) Try.prog [(210, k210)] Try.f111 (.n .z .z) = mem_New_c k210 := by kernel_rfl
theorem mem_New_sound {O : Type} {RO : O → Loc → (Nat → Option Obj) → Prop} : FSound RO Try.prog 111 (mem_New) :=
   have h : FSound RO Try.prog 111 (mem_New_c meter_New) := (mem_New_run meter_New) ▸ run_sound (gcons meter_New_ent (meter_New_sound) <| gnil) mixed Try.func111 (by kernel_rfl) _
   h

/-- (*haymow/meter.words).open -/
noncomputable def meter_words__open_c {O : Type} : Sm O := fun xs σ =>
 bif Nat.beq xs.length 2 then
 (AV.asP (xs.getD 0 .u)).bind fun p0 =>
 (AV.asI .i64 (xs.getD 1 .u)).bind fun n1 =>
 Option.bind p0 fun q2 =>
 (σ.ld q2.1 q2.2).bind fun w3 =>
 (AV.asI .i64 w3).bind fun n4 =>
 Option.bind p0 fun q5 =>
 (σ.st q5.1 q5.2 [(.i .i64 (IntKind.i64.wrap (n4 + n1)))]).bind fun σ6 =>
 Option.bind p0 fun q7 =>
 (σ6.ld q7.1 (q7.2 + 1)).bind fun w8 =>
 (AV.asI .i64 w8).bind fun n9 =>
 Option.bind p0 fun q10 =>
 (σ6.ld q10.1 q10.2).bind fun w11 =>
 (AV.asI .i64 w11).bind fun n12 =>
 Option.bind p0 fun q13 =>
 (σ6.st q13.1 (q13.2 + 1) [(.i .i64 (if n12 > n9 then n12 else n9))]).bind fun σ14 =>
 some ((.tup []), σ14)
 else none
noncomputable def meter_words__open {O : Type} : Sm O := meter_words__open_c
theorem meter_words__open_ent : Entered Try.prog 268 := Try.call268
theorem meter_words__open_run {O : Type} : run (O := O) Try.prog [] Try.f268 (.n .z (.d [] [0, 1, 2, 3, 4, 5, 6, 7, 8, 9, 10, 11, 12] [0, 0, 2, 6, 14, 0, 32, 96, 224, 510, 1023, 2047, 4095])) = meter_words__open_c  := by kernel_rfl
theorem meter_words__open_sound {O : Type} {RO : O → Loc → (Nat → Option Obj) → Prop} : FSound RO Try.prog 268 (meter_words__open) :=
   have h : FSound RO Try.prog 268 (meter_words__open_c) := (meter_words__open_run) ▸ run_sound (gnil) mixed Try.func268 (by kernel_rfl) _
   h

/-- (*haymow/meter.Meter).Hold -/
noncomputable def meter_Meter__Hold_c {O : Type} (k268 : Sm O) : Sm O := fun xs σ =>
 bif Nat.beq xs.length 2 then
 (AV.asP (xs.getD 0 .u)).bind fun p0 =>
 (AV.asI .i64 (xs.getD 1 .u)).bind fun n1 =>
 ((bif ((Option.isNone p0) == false) then
 some ([(.b (decide (n1 < 0)))], σ)
 else some ([(.b true)], σ)) : Option (List AV × AH O)).bind fun r2 =>
 (AV.asB (r2.1.getD 0 .u)).bind fun b3 =>
 (bif b3 then
 some ((.i .i64 1), r2.2)
 else Option.bind p0 fun q4 =>
 (r2.2.ld q4.1 (q4.2 + 4)).bind fun w5 =>
 (AV.asI .i64 w5).bind fun n6 =>
 let c7 : Bool := (decide (n1 > (IntKind.i64.wrap (281474976710656 - n6))))
 (bif c7 then
 some ((.i .i64 3), r2.2)
 else Option.bind p0 fun q8 =>
 (k268 [(.p (some (q8.1, (q8.2 + 4)))), (.i .i64 n1)] r2.2).bind fun r9 =>
 (AV.asTup 0 r9.1).bind fun c10 =>
 some ((.i .i64 0), r9.2)))
 else none
noncomputable def meter_Meter__Hold {O : Type} : Sm O := meter_Meter__Hold_c meter_words__open
theorem meter_Meter__Hold_ent : Entered Try.prog 232 := Try.call232
theorem meter_Meter__Hold_run {O : Type} (k268 : Sm O) : run (O := O) Try.prog [(268, k268)] Try.f232 (.n .z (.n (.n (.n (.g [(2, 2, [(11, .one .b)])]) (.n .z (.n .z (.n .z .z)))) .z) (.n .z .z))) = meter_Meter__Hold_c k268 := by kernel_rfl
theorem meter_Meter__Hold_sound {O : Type} {RO : O → Loc → (Nat → Option Obj) → Prop} : FSound RO Try.prog 232 (meter_Meter__Hold) :=
   have h : FSound RO Try.prog 232 (meter_Meter__Hold_c meter_words__open) := (meter_Meter__Hold_run meter_words__open) ▸ run_sound (gcons meter_words__open_ent (meter_words__open_sound) <| gnil) mixed Try.func232 (by kernel_rfl) _
   h

/-- (*haymow/mem.Mem).Open -/
noncomputable def mem_Mem__Open_L1 {O : Type} (p0 : Option (Bid × Nat)) : List AV × AH O → Option ((List AV × AH O) ⊕ (List AV × AH O)) := (fun r8 =>
 (AV.asI .i64 (r8.1.getD 0 .u)).bind fun n9 =>
 Option.bind p0 fun q10 =>
 (r8.2.ld q10.1 (q10.2 + 1)).bind fun w11 =>
 (AV.asSl w11).bind fun l12 =>
 ((bif ((decide (n9 < (l12.2 : Int))) == true) then
 Option.bind p0 fun q13 =>
 (r8.2.ld q13.1 (q13.2 + 1)).bind fun w14 =>
 (AV.asSl w14).bind fun l15 =>
 (bif ((decide ((0 : Int) ≤ n9)) && (decide (n9 < (l15.2 : Int)))) then
 (SA.ref l15.1).bind fun q16 =>
 (r8.2.ld q16.1 ((q16.2 + (n9.toNat * 2)) + 1)).bind fun w17 =>
 (AV.asB w17).bind fun b18 =>
 some ([(.b b18)], r8.2)
 else none)
 else some ([(.b false)], r8.2)) : Option (List AV × AH O)).bind fun r19 =>
 (AV.asB (r19.1.getD 0 .u)).bind fun b20 =>
 (bif b20 then
 some (Sum.inl ([(.i .i64 (IntKind.i64.wrap (n9 + 1)))], r19.2))
 else some (Sum.inr ([(.i .i64 n9)], r19.2))))
noncomputable def mem_Mem__Open_c {O : Type} (k232 : Sm O) : Sm O := fun xs σ =>
 bif Nat.beq xs.length 2 then
 (AV.asP (xs.getD 0 .u)).bind fun p0 =>
 (AV.asI .i64 (xs.getD 1 .u)).bind fun n1 =>
 (bif (decide (n1 < 0)) then
 some ((.tup [(.i .i64 0), (.i .i64 1)]), σ)
 else (bif (decide (n1 > 4194304)) then
 some ((.tup [(.i .i64 0), (.i .i64 7)]), σ)
 else Option.bind p0 fun q2 =>
 (σ.ld q2.1 (q2.2 + 3)).bind fun w3 =>
 (AV.asI .i64 w3).bind fun n4 =>
 (bif (decide (n4 ≥ 262144)) then
 some ((.tup [(.i .i64 0), (.i .i64 3)]), σ)
 else Option.bind p0 fun q5 =>
 (σ.ld q5.1 (q5.2 + 2)).bind fun w6 =>
 (AV.asI .i64 w6).bind fun n7 =>
 (loopF (S := List AV × AH O) (T := List AV × AH O) (mem_Mem__Open_L1 p0) ([(.i .i64 n7)], σ)).bind fun r21 =>
 (AV.asI .i64 (r21.1.getD 0 .u)).bind fun n22 =>
 Option.bind p0 fun q23 =>
 (r21.2.ld q23.1 (q23.2 + 1)).bind fun w24 =>
 (AV.asSl w24).bind fun l25 =>
 ((bif ((n22 : Int) == (l25.2 : Int)) then
 let σ26 := r21.2.bump 2
 Option.bind p0 fun q27 =>
 (σ26.ld q27.1 (q27.2 + 1)).bind fun w28 =>
 (AV.asSl w28).bind fun l29 =>
 let σ30 := σ26.put r21.2.next (.cells true 333 [(.sl .nil 0), (.b false)])
 (σ30.rdSl (.loc (.n r21.2.next) 0 2) 1 2).bind fun new31 =>
 (bif (Nat.ble ((l29.2 + 1) * 33) 35184372088832) then
 (σ30.appSl (r21.2.next + 1) 333 2 l29.1 l29.2 1 new31).bind fun r32 =>
 (AV.asSl r32.1).bind fun l33 =>
 Option.bind p0 fun q34 =>
 (r32.2.st q34.1 (q34.2 + 1) [(.sl l33.1 l33.2)]).bind fun σ35 =>
 some ([], σ35)
 else none)
 else some ([], r21.2)) : Option (List AV × AH O)).bind fun r36 =>
 let σ37 := r36.2.bump 1
 Option.bind p0 fun q38 =>
 (σ37.ld q38.1 (q38.2 + 1)).bind fun w39 =>
 (AV.asSl w39).bind fun l40 =>
 (bif ((((decide ((0 : Int) ≤ n1)) && (decide (n1 ≤ n1))) && (decide ((n1 * 8) ≤ 140737488355328))) && (decide (n1 ≤ 140737488355328))) then
 let σ41 := σ37.put r36.2.next (.cells true 46 ((List.replicate n1.toNat [(.i .u64 0)]).flatten))
 (bif ((decide ((0 : Int) ≤ n22)) && (decide (n22 < (l40.2 : Int)))) then
 (SA.ref l40.1).bind fun q42 =>
 (σ41.st q42.1 (q42.2 + (n22.toNat * 2)) [(.sl (.loc (.n r36.2.next) 0 1) n1.toNat), (.b true)]).bind fun σ43 =>
 Option.bind p0 fun q44 =>
 (σ43.ld q44.1 (q44.2 + 3)).bind fun w45 =>
 (AV.asI .i64 w45).bind fun n46 =>
 Option.bind p0 fun q47 =>
 (σ43.st q47.1 (q47.2 + 2) [(.i .i64 (IntKind.i64.wrap (n22 + 1)))]).bind fun σ48 =>
 Option.bind p0 fun q49 =>
 (σ48.st q49.1 (q49.2 + 3) [(.i .i64 (IntKind.i64.wrap (n46 + 1)))]).bind fun σ50 =>
 Option.bind p0 fun q51 =>
 (σ50.ld q51.1 q51.2).bind fun w52 =>
 (AV.asP w52).bind fun p53 =>
 (k232 [(.p p53), (.i .i64 n1)] σ50).bind fun r54 =>
 (AV.asI .i64 r54.1).bind fun n55 =>
 some ((.tup [(.i .i64 n22), (.i .i64 0)]), r54.2)
 else none)
 else none))))
 else none
noncomputable def mem_Mem__Open {O : Type} : Sm O := mem_Mem__Open_c meter_Meter__Hold
theorem mem_Mem__Open_ent : Entered Try.prog 141 := Try.call141
theorem mem_Mem__Open_run {O : Type} (k232 : Sm O) : run (O := O) Try.prog [(232, k232)] Try.f141 (.n .z (.n (.n (.n .z (.n .z (.n .z (.n .z (.n .z (.n .z .z)))))) .z) (.n .z (.n (.n (.lp false 1 [(6, .one (.i .i64))] [(6, .one (.i .i64))] (.n (.n (.g [(7, 8, [(39, .one .b)])]) .z) .z)) .z) (.n (.n .z (.j false [] .z .z)) (.n (.d [] [0, 1, 2, 3, 4, 5, 6, 7, 8, 9] [0, 1, 3, 7, 0, 0, 32, 96, 255, 511]) (.n .z (.n .z .z)))))))) = mem_Mem__Open_c k232 := by kernel_rfl
theorem mem_Mem__Open_sound {O : Type} {RO : O → Loc → (Nat → Option Obj) → Prop} : FSound RO Try.prog 141 (mem_Mem__Open) :=
   have h : FSound RO Try.prog 141 (mem_Mem__Open_c meter_Meter__Hold) := (mem_Mem__Open_run meter_Meter__Hold) ▸ run_sound (gcons meter_Meter__Hold_ent (meter_Meter__Hold_sound) <| gnil) mixed Try.func141 (by kernel_rfl) _
   h

/-- haymow/pool.New -/
noncomputable def pool_New_c {O : Type} (k141 : Sm O) : Sm O := fun xs σ =>
 bif Nat.beq xs.length 2 then
 (AV.asP (xs.getD 0 .u)).bind fun p0 =>
 (AV.asI .i64 (xs.getD 1 .u)).bind fun n1 =>
 ((bif ((Option.isNone p0) == false) then
 some ([(.b (decide (n1 < 1)))], σ)
 else some ([(.b true)], σ)) : Option (List AV × AH O)).bind fun r2 =>
 (AV.asB (r2.1.getD 0 .u)).bind fun b3 =>
 ((bif (b3 == false) then
 some ([(.b (decide (n1 > 60)))], r2.2)
 else some ([(.b true)], r2.2)) : Option (List AV × AH O)).bind fun r4 =>
 (AV.asB (r4.1.getD 0 .u)).bind fun b5 =>
 (bif b5 then
 some ((.tup [(.p none), (.i .i64 1)]), r4.2)
 else (k141 [(.p p0), (.i .i64 0)] r4.2).bind fun r6 =>
 (AV.asTup 2 r6.1).bind fun c7 =>
 (AV.asI .i64 (c7.getD 0 .u)).bind fun n8 =>
 (AV.asI .i64 (c7.getD 1 .u)).bind fun n9 =>
 (bif ((n9 : Int) != 0) then
 some ((.tup [(.p none), (.i .i64 n9)]), r6.2)
 else let σ10 := r6.2.bump 1
 let σ11 := σ10.put r6.2.next (.cells true 316 [(.p p0), (.i .i64 n8), (.i .i64 n1), (.i .i64 0), (.i .i64 0), (.i .i64 0), (.i .i64 0)])
 some ((.tup [(.p (some ((.n r6.2.next), 0))), (.i .i64 0)]), σ11)))
 else none
noncomputable def pool_New {O : Type} : Sm O := pool_New_c mem_Mem__Open
theorem pool_New_ent : Entered Try.prog 110 := Try.call110
theorem pool_New_run {O : Type} (k141 : Sm O) : run (O := O) Try.prog [(141, k141)] Try.f110 (.n .z (.n (.n (.g [(2, 2, [(13, .one .b)]), (6, 2, [(17, .one .b)])]) (.n .z .z)) (.n .z (.n (.n .z (.n .z .z)) .z)))) = pool_New_c k141 := by kernel_rfl
theorem pool_New_sound {O : Type} {RO : O → Loc → (Nat → Option Obj) → Prop} : FSound RO Try.prog 110 (pool_New) :=
   have h : FSound RO Try.prog 110 (pool_New_c mem_Mem__Open) := (pool_New_run mem_Mem__Open) ▸ run_sound (gcons mem_Mem__Open_ent (mem_Mem__Open_sound) <| gnil) mixed Try.func110 (by kernel_rfl) _
   h

/-- haymow/handles.New -/
noncomputable def handles_New_c {O : Type} (k110 : Sm O) : Sm O := fun xs σ =>
 bif Nat.beq xs.length 1 then
 (AV.asP (xs.getD 0 .u)).bind fun p0 =>
 (k110 [(.p p0), (.i .i64 3)] σ).bind fun r1 =>
 (AV.asTup 2 r1.1).bind fun c2 =>
 (AV.asP (c2.getD 0 .u)).bind fun p3 =>
 (AV.asI .i64 (c2.getD 1 .u)).bind fun n4 =>
 (bif ((n4 : Int) != 0) then
 some ((.tup [(.p none), (.i .i64 n4)]), r1.2)
 else let σ5 := r1.2.bump 1
 let σ6 := σ5.put r1.2.next (.cells true 202 [(.p p3), (.i .i64 0), (.i .i64 0), (.i .i64 0)])
 some ((.tup [(.p (some ((.n r1.2.next), 0))), (.i .i64 0)]), σ6))
 else none
noncomputable def handles_New {O : Type} : Sm O := handles_New_c pool_New
theorem handles_New_ent : Entered Try.prog 21 := Try.call21
theorem handles_New_run {O : Type} (k110 : Sm O) : run (O := O) Try.prog [(110, k110)] Try.f21 (.n .z (.n .z (.n (.n .z (.n .z .z)) .z))) = handles_New_c k110 := by kernel_rfl
theorem handles_New_sound {O : Type} {RO : O → Loc → (Nat → Option Obj) → Prop} : FSound RO Try.prog 21 (handles_New) :=
   have h : FSound RO Try.prog 21 (handles_New_c pool_New) := (handles_New_run pool_New) ▸ run_sound (gcons pool_New_ent (pool_New_sound) <| gnil) mixed Try.func21 (by kernel_rfl) _
   h

/-- haymow/haymowlaw18.made -/
noncomputable def law18_made_c {O : Type} (k111 k21 : Sm O) : Sm O := fun xs σ =>
 bif Nat.beq xs.length 0 then
 (k111 [] σ).bind fun r0 =>
 (AV.asP r0.1).bind fun p1 =>
 (bif (Option.isNone p1) then
 some ((.tup [(.p none), (.p none), (.b false)]), r0.2)
 else (k21 [(.p p1)] r0.2).bind fun r2 =>
 (AV.asTup 2 r2.1).bind fun c3 =>
 (AV.asP (c3.getD 0 .u)).bind fun p4 =>
 (AV.asI .i64 (c3.getD 1 .u)).bind fun n5 =>
 ((bif ((!(Option.isNone p4)) == true) then
 some ([(.b ((n5 : Int) == 0))], r2.2)
 else some ([(.b false)], r2.2)) : Option (List AV × AH O)).bind fun r6 =>
 (AV.asB (r6.1.getD 0 .u)).bind fun b7 =>
 some ((.tup [(.p p1), (.p p4), (.b b7)]), r6.2))
 else none
noncomputable def law18_made {O : Type} : Sm O := law18_made_c mem_New handles_New
theorem law18_made_ent : Entered Try.prog 22 := Try.call22
theorem law18_made_run {O : Type} (k111 k21 : Sm O) : run (O := O) Try.prog [(111, k111), (21, k21)] Try.f22 (.n .z (.n .z (.n (.n .z (.n .z .z)) (.n .z (.n (.g [(4, 2, [(21, .one .b)])]) .z))))) = law18_made_c k111 k21 := by kernel_rfl
theorem law18_made_sound {O : Type} {RO : O → Loc → (Nat → Option Obj) → Prop} : FSound RO Try.prog 22 (law18_made) :=
   have h : FSound RO Try.prog 22 (law18_made_c mem_New handles_New) := (law18_made_run mem_New handles_New) ▸ run_sound (gcons mem_New_ent (mem_New_sound) <| gcons handles_New_ent (handles_New_sound) <| gnil) mixed Try.func22 (by kernel_rfl) _
   h

/-- (*haymow/pool.Pool).width -/
noncomputable def pool_Pool__width_c {O : Type} : Sm O := fun xs σ =>
 bif Nat.beq xs.length 1 then
 (AV.asP (xs.getD 0 .u)).bind fun p0 =>
 Option.bind p0 fun q1 =>
 (σ.ld q1.1 (q1.2 + 2)).bind fun w2 =>
 (AV.asI .i64 w2).bind fun n3 =>
 some ((.i .i64 (IntKind.i64.wrap (n3 + 1))), σ)
 else none
noncomputable def pool_Pool__width {O : Type} : Sm O := pool_Pool__width_c
theorem pool_Pool__width_ent : Entered Try.prog 260 := Try.call260
theorem pool_Pool__width_run {O : Type} : run (O := O) Try.prog [] Try.f260 (.n .z .z) = pool_Pool__width_c  := by kernel_rfl
theorem pool_Pool__width_sound {O : Type} {RO : O → Loc → (Nat → Option Obj) → Prop} : FSound RO Try.prog 260 (pool_Pool__width) :=
   have h : FSound RO Try.prog 260 (pool_Pool__width_c) := (pool_Pool__width_run) ▸ run_sound (gnil) mixed Try.func260 (by kernel_rfl) _
   h

/-- (*haymow/mem.Mem).at -/
noncomputable def mem_Mem__at_c {O : Type} : Sm O := fun xs σ =>
 bif Nat.beq xs.length 2 then
 (AV.asP (xs.getD 0 .u)).bind fun p0 =>
 (AV.asI .i64 (xs.getD 1 .u)).bind fun n1 =>
 ((bif ((decide (n1 < 0)) == false) then
 Option.bind p0 fun q2 =>
 (σ.ld q2.1 (q2.2 + 1)).bind fun w3 =>
 (AV.asSl w3).bind fun l4 =>
 some ([(.b (decide (n1 ≥ (l4.2 : Int))))], σ)
 else some ([(.b true)], σ)) : Option (List AV × AH O)).bind fun r5 =>
 (AV.asB (r5.1.getD 0 .u)).bind fun b6 =>
 ((bif (b6 == false) then
 Option.bind p0 fun q7 =>
 (r5.2.ld q7.1 (q7.2 + 1)).bind fun w8 =>
 (AV.asSl w8).bind fun l9 =>
 (bif ((decide ((0 : Int) ≤ n1)) && (decide (n1 < (l9.2 : Int)))) then
 (SA.ref l9.1).bind fun q10 =>
 (r5.2.ld q10.1 ((q10.2 + (n1.toNat * 2)) + 1)).bind fun w11 =>
 (AV.asB w11).bind fun b12 =>
 some ([(.b (!b12))], r5.2)
 else none)
 else some ([(.b true)], r5.2)) : Option (List AV × AH O)).bind fun r13 =>
 (AV.asB (r13.1.getD 0 .u)).bind fun b14 =>
 (bif b14 then
 some ((.p none), r13.2)
 else Option.bind p0 fun q15 =>
 (r13.2.ld q15.1 (q15.2 + 1)).bind fun w16 =>
 (AV.asSl w16).bind fun l17 =>
 (bif ((decide ((0 : Int) ≤ n1)) && (decide (n1 < (l17.2 : Int)))) then
 (SA.ref l17.1).bind fun q18 =>
 some ((.p (some (q18.1, (q18.2 + (n1.toNat * 2))))), r13.2)
 else none))
 else none
noncomputable def mem_Mem__at {O : Type} : Sm O := mem_Mem__at_c
theorem mem_Mem__at_ent : Entered Try.prog 233 := Try.call233
theorem mem_Mem__at_run {O : Type} : run (O := O) Try.prog [] Try.f233 (.n .z (.n (.n (.g [(2, 7, [(15, .one .b)]), (11, 9, [(26, .one .b)])]) (.n .z .z)) .z)) = mem_Mem__at_c  := by kernel_rfl
theorem mem_Mem__at_sound {O : Type} {RO : O → Loc → (Nat → Option Obj) → Prop} : FSound RO Try.prog 233 (mem_Mem__at) :=
   have h : FSound RO Try.prog 233 (mem_Mem__at_c) := (mem_Mem__at_run) ▸ run_sound (gnil) mixed Try.func233 (by kernel_rfl) _
   h

/-- (*haymow/mem.Mem).Grow -/
noncomputable def mem_Mem__Grow_c {O : Type} (k233 k232 : Sm O) : Sm O := fun xs σ =>
 bif Nat.beq xs.length 3 then
 (AV.asP (xs.getD 0 .u)).bind fun p0 =>
 (AV.asI .i64 (xs.getD 1 .u)).bind fun n1 =>
 (AV.asI .i64 (xs.getD 2 .u)).bind fun n2 =>
 (k233 [(.p p0), (.i .i64 n1)] σ).bind fun r3 =>
 (AV.asP r3.1).bind fun p4 =>
 (bif (Option.isNone p4) then
 some ((.i .i64 10), r3.2)
 else Option.bind p4 fun q5 =>
 (r3.2.ld q5.1 q5.2).bind fun w6 =>
 (AV.asSl w6).bind fun l7 =>
 (bif (decide (n2 < (l7.2 : Int))) then
 some ((.i .i64 1), r3.2)
 else (bif (decide (n2 > 4194304)) then
 some ((.i .i64 7), r3.2)
 else Option.bind p0 fun q8 =>
 (r3.2.ld q8.1 q8.2).bind fun w9 =>
 (AV.asP w9).bind fun p10 =>
 Option.bind p4 fun q11 =>
 (r3.2.ld q11.1 q11.2).bind fun w12 =>
 (AV.asSl w12).bind fun l13 =>
 (k232 [(.p p10), (.i .i64 (IntKind.i64.wrap (n2 - (l13.2 : Int))))] r3.2).bind fun r14 =>
 (AV.asI .i64 r14.1).bind fun n15 =>
 let σ16 := r14.2.bump 1
 (bif ((((decide ((0 : Int) ≤ n2)) && (decide (n2 ≤ n2))) && (decide ((n2 * 8) ≤ 140737488355328))) && (decide (n2 ≤ 140737488355328))) then
 let σ17 := σ16.put r14.2.next (.cells true 46 ((List.replicate n2.toNat [(.i .u64 0)]).flatten))
 Option.bind p4 fun q18 =>
 (σ17.ld q18.1 q18.2).bind fun w19 =>
 (AV.asSl w19).bind fun l20 =>
 (bif Nat.beq (min l20.2 n2.toNat) 0 then
 Option.bind p4 fun q24 =>
 (σ17.st q24.1 q24.2 [(.sl (.loc (.n r14.2.next) 0 1) n2.toNat)]).bind fun σ25 =>
 some ((.i .i64 0), σ25)
 else
 (σ17.rdSl l20.1 (min l20.2 n2.toNat) 1).bind fun c22 =>
 (σ17.wrSl (.loc (.n r14.2.next) 0 1) c22).bind fun σ23 =>
 Option.bind p4 fun q26 =>
 (σ23.st q26.1 q26.2 [(.sl (.loc (.n r14.2.next) 0 1) n2.toNat)]).bind fun σ27 =>
 some ((.i .i64 0), σ27))
 else none))))
 else none
noncomputable def mem_Mem__Grow {O : Type} : Sm O := mem_Mem__Grow_c mem_Mem__at meter_Meter__Hold
theorem mem_Mem__Grow_ent : Entered Try.prog 243 := Try.call243
theorem mem_Mem__Grow_run {O : Type} (k233 k232 : Sm O) : run (O := O) Try.prog [(233, k233), (232, k232)] Try.f243 (.n .z (.n .z (.n (.n (.n .z (.n .z (.n .z (.n .z (.n .z (.n .z .z)))))) .z) (.n (.d [] [0, 1, 2, 3, 4, 5, 6, 7, 8, 9, 10, 11] [0, 1, 3, 7, 0, 0, 32, 96, 224, 480, 1008, 2047]) (.n .z (.n .z (.n .z .z))))))) = mem_Mem__Grow_c k233 k232 := by kernel_rfl
theorem mem_Mem__Grow_sound {O : Type} {RO : O → Loc → (Nat → Option Obj) → Prop} : FSound RO Try.prog 243 (mem_Mem__Grow) :=
   have h : FSound RO Try.prog 243 (mem_Mem__Grow_c mem_Mem__at meter_Meter__Hold) := (mem_Mem__Grow_run mem_Mem__at meter_Meter__Hold) ▸ run_sound (gcons mem_Mem__at_ent (mem_Mem__at_sound) <| gcons meter_Meter__Hold_ent (meter_Meter__Hold_sound) <| gnil) mixed Try.func243 (by kernel_rfl) _
   h

/-- (*haymow/pool.Pool).grow -/
noncomputable def pool_Pool__grow_c {O : Type} (k260 k243 : Sm O) : Sm O := fun xs σ =>
 bif Nat.beq xs.length 1 then
 (AV.asP (xs.getD 0 .u)).bind fun p0 =>
 Option.bind p0 fun q1 =>
 (σ.ld q1.1 (q1.2 + 3)).bind fun w2 =>
 (AV.asI .i64 w2).bind fun n3 =>
 (bif (decide (n3 ≥ 1048576)) then
 some ((.i .i64 3), σ)
 else Option.bind p0 fun q4 =>
 (σ.ld q4.1 (q4.2 + 3)).bind fun w5 =>
 (AV.asI .i64 w5).bind fun n6 =>
 Option.bind p0 fun q7 =>
 (σ.ld q7.1 (q7.2 + 4)).bind fun w8 =>
 (AV.asI .i64 w8).bind fun n9 =>
 (bif (decide (n6 < n9)) then
 some ((.i .i64 0), σ)
 else Option.bind p0 fun q10 =>
 (σ.ld q10.1 (q10.2 + 4)).bind fun w11 =>
 (AV.asI .i64 w11).bind fun n12 =>
 let v13 : Int := (if (IntKind.i64.wrap (2 * n12)) > 8 then (IntKind.i64.wrap (2 * n12)) else 8)
 Option.bind p0 fun q14 =>
 (σ.ld q14.1 q14.2).bind fun w15 =>
 (AV.asP w15).bind fun p16 =>
 Option.bind p0 fun q17 =>
 (σ.ld q17.1 (q17.2 + 1)).bind fun w18 =>
 (AV.asI .i64 w18).bind fun n19 =>
 (k260 [(.p p0)] σ).bind fun r20 =>
 (AV.asI .i64 r20.1).bind fun n21 =>
 (chk (r20.2.ld q14.1 q14.2 = some (.p p16))).bind fun _ =>
 (chk (r20.2.ld q17.1 (q17.2 + 1) = some (.i .i64 n19))).bind fun _ =>
 (k243 [(.p p16), (.i .i64 n19), (.i .i64 (IntKind.i64.wrap (v13 * n21)))] r20.2).bind fun r22 =>
 (AV.asI .i64 r22.1).bind fun n23 =>
 (bif ((n23 : Int) != 0) then
 some ((.i .i64 3), r22.2)
 else Option.bind p0 fun q24 =>
 (r22.2.st q24.1 (q24.2 + 4) [(.i .i64 v13)]).bind fun σ25 =>
 some ((.i .i64 0), σ25))))
 else none
noncomputable def pool_Pool__grow {O : Type} : Sm O := pool_Pool__grow_c pool_Pool__width mem_Mem__Grow
theorem pool_Pool__grow_ent : Entered Try.prog 218 := Try.call218
theorem pool_Pool__grow_run {O : Type} (k260 k243 : Sm O) : run (O := O) Try.prog [(260, k260), (243, k243)] Try.f218 (.n .z (.n (.n (.n .z (.n .z (.n (.d [] [0, 1, 2, 3, 4, 5, 6, 7, 8, 9] [0, 1, 3, 7, 0, 16, 48, 112, 255, 511]) (.n .z .z)))) .z) (.n .z (.n (.n (.d [] [0, 1, 2, 3, 4, 5, 6, 7, 8, 9, 10, 11, 12, 13] [0, 1, 3, 7, 0, 16, 48, 112, 0, 0, 512, 1792, 4095, 8191]) (.n .z (.n .z .z))) (.n .z .z))))) = pool_Pool__grow_c k260 k243 := by kernel_rfl
theorem pool_Pool__grow_sound {O : Type} {RO : O → Loc → (Nat → Option Obj) → Prop} : FSound RO Try.prog 218 (pool_Pool__grow) :=
   have h : FSound RO Try.prog 218 (pool_Pool__grow_c pool_Pool__width mem_Mem__Grow) := (pool_Pool__grow_run pool_Pool__width mem_Mem__Grow) ▸ run_sound (gcons pool_Pool__width_ent (pool_Pool__width_sound) <| gcons mem_Mem__Grow_ent (mem_Mem__Grow_sound) <| gnil) mixed Try.func218 (by kernel_rfl) _
   h

/-- (*haymow/pool.Pool).at -/
noncomputable def pool_Pool__at_c {O : Type} (k260 : Sm O) : Sm O := fun xs σ =>
 bif Nat.beq xs.length 3 then
 (AV.asP (xs.getD 0 .u)).bind fun p0 =>
 (AV.asI .i64 (xs.getD 1 .u)).bind fun n1 =>
 (AV.asI .i64 (xs.getD 2 .u)).bind fun n2 =>
 (k260 [(.p p0)] σ).bind fun r3 =>
 (AV.asI .i64 r3.1).bind fun n4 =>
 let v5 : Int := (IntKind.i64.wrap ((IntKind.i64.wrap (n1 - 1)) * n4))
 let v6 : Int := (IntKind.i64.wrap ((IntKind.i64.wrap (v5 + 1)) + n2))
 some ((.i .i64 v6), r3.2)
 else none
noncomputable def pool_Pool__at {O : Type} : Sm O := pool_Pool__at_c pool_Pool__width
theorem pool_Pool__at_ent : Entered Try.prog 217 := Try.call217
theorem pool_Pool__at_run {O : Type} (k260 : Sm O) : run (O := O) Try.prog [(260, k260)] Try.f217 (.n .z .z) = pool_Pool__at_c k260 := by kernel_rfl
theorem pool_Pool__at_sound {O : Type} {RO : O → Loc → (Nat → Option Obj) → Prop} : FSound RO Try.prog 217 (pool_Pool__at) :=
   have h : FSound RO Try.prog 217 (pool_Pool__at_c pool_Pool__width) := (pool_Pool__at_run pool_Pool__width) ▸ run_sound (gcons pool_Pool__width_ent (pool_Pool__width_sound) <| gnil) mixed Try.func217 (by kernel_rfl) _
   h

/-- (*haymow/mem.Mem).within -/
noncomputable def mem_Mem__within_c {O : Type} (k233 : Sm O) : Sm O := fun xs σ =>
 bif Nat.beq xs.length 4 then
 (AV.asP (xs.getD 0 .u)).bind fun p0 =>
 (AV.asI .i64 (xs.getD 1 .u)).bind fun n1 =>
 (AV.asI .i64 (xs.getD 2 .u)).bind fun n2 =>
 (AV.asI .i64 (xs.getD 3 .u)).bind fun n3 =>
 (k233 [(.p p0), (.i .i64 n1)] σ).bind fun r4 =>
 (AV.asP r4.1).bind fun p5 =>
 (bif (Option.isNone p5) then
 some ((.tup [(.sl .nil 0), (.i .i64 10)]), r4.2)
 else ((bif ((decide (n3 < 0)) == false) then
 some ([(.b (decide (n2 < 0)))], r4.2)
 else some ([(.b true)], r4.2)) : Option (List AV × AH O)).bind fun r6 =>
 (AV.asB (r6.1.getD 0 .u)).bind fun b7 =>
 ((bif (b7 == false) then
 Option.bind p5 fun q8 =>
 (r6.2.ld q8.1 q8.2).bind fun w9 =>
 (AV.asSl w9).bind fun l10 =>
 some ([(.b (decide (n2 > (l10.2 : Int))))], r6.2)
 else some ([(.b true)], r6.2)) : Option (List AV × AH O)).bind fun r11 =>
 (AV.asB (r11.1.getD 0 .u)).bind fun b12 =>
 ((bif (b12 == false) then
 Option.bind p5 fun q13 =>
 (r11.2.ld q13.1 q13.2).bind fun w14 =>
 (AV.asSl w14).bind fun l15 =>
 let c16 : Bool := (decide (n3 > (IntKind.i64.wrap ((l15.2 : Int) - n2))))
 some ([(.b c16)], r11.2)
 else some ([(.b true)], r11.2)) : Option (List AV × AH O)).bind fun r17 =>
 (AV.asB (r17.1.getD 0 .u)).bind fun b18 =>
 (bif b18 then
 some ((.tup [(.sl .nil 0), (.i .i64 11)]), r17.2)
 else Option.bind p5 fun q19 =>
 (r17.2.ld q19.1 q19.2).bind fun w20 =>
 (AV.asSl w20).bind fun l21 =>
 (bif (((decide ((0 : Int) ≤ n2)) && (decide (n2 ≤ (IntKind.i64.wrap (n2 + n3))))) && (decide ((IntKind.i64.wrap (n2 + n3)) ≤ (l21.2 : Int)))) then
 (SA.adv l21.1 n2.toNat 1).bind fun a22 =>
 some ((.tup [(.sl a22 ((IntKind.i64.wrap (n2 + n3)).toNat - n2.toNat)), (.i .i64 0)]), r17.2)
 else none)))
 else none
noncomputable def mem_Mem__within {O : Type} : Sm O := mem_Mem__within_c mem_Mem__at
theorem mem_Mem__within_ent : Entered Try.prog 236 := Try.call236
theorem mem_Mem__within_run {O : Type} (k233 : Sm O) : run (O := O) Try.prog [(233, k233)] Try.f236 (.n .z (.n .z (.n (.n (.n .z (.n .z (.n (.g [(2, 2, [(23, .one .b)]), (6, 7, [(32, .one .b)]), (15, 9, [(43, .one .b)])]) (.n .z .z)))) .z) .z))) = mem_Mem__within_c k233 := by kernel_rfl
theorem mem_Mem__within_sound {O : Type} {RO : O → Loc → (Nat → Option Obj) → Prop} : FSound RO Try.prog 236 (mem_Mem__within) :=
   have h : FSound RO Try.prog 236 (mem_Mem__within_c mem_Mem__at) := (mem_Mem__within_run mem_Mem__at) ▸ run_sound (gcons mem_Mem__at_ent (mem_Mem__at_sound) <| gnil) mixed Try.func236 (by kernel_rfl) _
   h

/-- haymow/wide.Of -/
noncomputable def wide_Of_c {O : Type} : Sm O := fun xs σ =>
 bif Nat.beq xs.length 1 then
 (AV.asI .u64 (xs.getD 0 .u)).bind fun n0 =>
 let σ1 := σ.bump 1
 let σ2 := σ1.put σ.next (.cells true 74 [(.i .u64 0), (.i .u64 0)])
 (σ2.st (.n σ.next) 0 [(.i .u64 0), (.i .u64 n0)]).bind fun σ3 =>
 (σ3.ld (.n σ.next) 0).bind fun w4 =>
 (AV.asI .u64 w4).bind fun n5 =>
 (σ3.ld (.n σ.next) 1).bind fun w6 =>
 (AV.asI .u64 w6).bind fun n7 =>
 some ((.agg [(.i .u64 n5), (.i .u64 n7)]), σ3)
 else none
noncomputable def wide_Of {O : Type} : Sm O := wide_Of_c
theorem wide_Of_ent : Entered Try.prog 270 := Try.call270
theorem wide_Of_run {O : Type} : run (O := O) Try.prog [] Try.f270 (.n .z .z) = wide_Of_c  := by kernel_rfl
theorem wide_Of_sound {O : Type} {RO : O → Loc → (Nat → Option Obj) → Prop} : FSound RO Try.prog 270 (wide_Of) :=
   have h : FSound RO Try.prog 270 (wide_Of_c) := (wide_Of_run) ▸ run_sound (gnil) mixed Try.func270 (by kernel_rfl) _
   h

/-- haymow/wide.Most -/
noncomputable def wide_Most_c {O : Type} : Sm O := fun xs σ =>
 bif Nat.beq xs.length 0 then
 let σ0 := σ.bump 1
 let σ1 := σ0.put σ.next (.cells true 74 [(.i .u64 0), (.i .u64 0)])
 (σ1.st (.n σ.next) 0 [(.i .u64 18446744073709551615), (.i .u64 18446744073709551615)]).bind fun σ2 =>
 (σ2.ld (.n σ.next) 0).bind fun w3 =>
 (AV.asI .u64 w3).bind fun n4 =>
 (σ2.ld (.n σ.next) 1).bind fun w5 =>
 (AV.asI .u64 w5).bind fun n6 =>
 some ((.agg [(.i .u64 n4), (.i .u64 n6)]), σ2)
 else none
noncomputable def wide_Most {O : Type} : Sm O := wide_Most_c
theorem wide_Most_ent : Entered Try.prog 225 := Try.call225
theorem wide_Most_run {O : Type} : run (O := O) Try.prog [] Try.f225 (.n .z .z) = wide_Most_c  := by kernel_rfl
theorem wide_Most_sound {O : Type} {RO : O → Loc → (Nat → Option Obj) → Prop} : FSound RO Try.prog 225 (wide_Most) :=
   have h : FSound RO Try.prog 225 (wide_Most_c) := (wide_Most_run) ▸ run_sound (gnil) mixed Try.func225 (by kernel_rfl) _
   h

/-- haymow/wide.Add -/
noncomputable def wide_Add_c {O : Type} (k224 k225 : Sm O) : Sm O := fun xs σ =>
 bif Nat.beq xs.length 2 then
 (AV.asAgg 2 (xs.getD 0 .u)).bind fun c0 =>
 (AV.asI .u64 (c0.getD 0 .u)).bind fun n1 =>
 (AV.asI .u64 (c0.getD 1 .u)).bind fun n2 =>
 (AV.asAgg 2 (xs.getD 1 .u)).bind fun c3 =>
 (AV.asI .u64 (c3.getD 0 .u)).bind fun n4 =>
 (AV.asI .u64 (c3.getD 1 .u)).bind fun n5 =>
 let σ6 := σ.bump 3
 let σ7 := σ6.put σ.next (.cells true 74 [(.i .u64 n1), (.i .u64 n2)])
 let σ8 := σ7.put (σ.next + 1) (.cells true 74 [(.i .u64 n4), (.i .u64 n5)])
 let σ9 := σ8.put ((σ.next + 1) + 1) (.cells true 74 [(.i .u64 0), (.i .u64 0)])
 (σ9.ld (.n σ.next) 1).bind fun w10 =>
 (AV.asI .u64 w10).bind fun n11 =>
 (σ9.ld (.n (σ.next + 1)) 1).bind fun w12 =>
 (AV.asI .u64 w12).bind fun n13 =>
 (k224 [(.i .u64 n11), (.i .u64 n13), (.i .u64 0)] σ9).bind fun r14 =>
 (AV.asTup 2 r14.1).bind fun c15 =>
 (AV.asI .u64 (c15.getD 0 .u)).bind fun n16 =>
 (AV.asI .u64 (c15.getD 1 .u)).bind fun n17 =>
 (r14.2.ld (.n σ.next) 0).bind fun w18 =>
 (AV.asI .u64 w18).bind fun n19 =>
 (r14.2.ld (.n (σ.next + 1)) 0).bind fun w20 =>
 (AV.asI .u64 w20).bind fun n21 =>
 (k224 [(.i .u64 n19), (.i .u64 n21), (.i .u64 n17)] r14.2).bind fun r22 =>
 (AV.asTup 2 r22.1).bind fun c23 =>
 (AV.asI .u64 (c23.getD 0 .u)).bind fun n24 =>
 (AV.asI .u64 (c23.getD 1 .u)).bind fun n25 =>
 (bif ((n25 : Int) != 0) then
 (k225 [] r22.2).bind fun r26 =>
 (AV.asAgg 2 r26.1).bind fun c27 =>
 (AV.asI .u64 (c27.getD 0 .u)).bind fun n28 =>
 (AV.asI .u64 (c27.getD 1 .u)).bind fun n29 =>
 (r26.2.st (.n ((σ.next + 1) + 1)) 0 [(.i .u64 n28), (.i .u64 n29)]).bind fun σ30 =>
 (σ30.ld (.n ((σ.next + 1) + 1)) 0).bind fun w31 =>
 (AV.asI .u64 w31).bind fun n32 =>
 (σ30.ld (.n ((σ.next + 1) + 1)) 1).bind fun w33 =>
 (AV.asI .u64 w33).bind fun n34 =>
 some ((.tup [(.agg [(.i .u64 n32), (.i .u64 n34)]), (.b false)]), σ30)
 else (r22.2.st (.n ((σ.next + 1) + 1)) 0 [(.i .u64 n24), (.i .u64 n16)]).bind fun σ35 =>
 (σ35.ld (.n ((σ.next + 1) + 1)) 0).bind fun w36 =>
 (AV.asI .u64 w36).bind fun n37 =>
 (σ35.ld (.n ((σ.next + 1) + 1)) 1).bind fun w38 =>
 (AV.asI .u64 w38).bind fun n39 =>
 some ((.tup [(.agg [(.i .u64 n37), (.i .u64 n39)]), (.b true)]), σ35))
 else none
noncomputable def wide_Add {O : Type} : Sm O := wide_Add_c bits_Add64 wide_Most
theorem wide_Add_ent : Entered Try.prog 128 := Try.call128
theorem wide_Add_run {O : Type} (k224 k225 : Sm O) : run (O := O) Try.prog [(224, k224), (225, k225)] Try.f128 (.n .z (.n .z (.n .z (.n (.n .z (.n .z .z)) .z)))) = wide_Add_c k224 k225 := by kernel_rfl
theorem wide_Add_sound {O : Type} {RO : O → Loc → (Nat → Option Obj) → Prop} : FSound RO Try.prog 128 (wide_Add) :=
   have h : FSound RO Try.prog 128 (wide_Add_c bits_Add64 wide_Most) := (wide_Add_run bits_Add64 wide_Most) ▸ run_sound (gext bits_Add64_ext <| gcons wide_Most_ent (wide_Most_sound) <| gnil) mixed Try.func128 (by kernel_rfl) _
   h

/-- (*haymow/meter.Meter).Step -/
noncomputable def meter_Meter__Step_c {O : Type} (k270 k128 : Sm O) : Sm O := fun xs σ =>
 bif Nat.beq xs.length 3 then
 (AV.asP (xs.getD 0 .u)).bind fun p0 =>
 (AV.asI .i64 (xs.getD 1 .u)).bind fun n1 =>
 (AV.asI .i64 (xs.getD 2 .u)).bind fun n2 =>
 ((bif ((Option.isNone p0) == false) then
 some ([(.b (decide (n1 < 0)))], σ)
 else some ([(.b true)], σ)) : Option (List AV × AH O)).bind fun r3 =>
 (AV.asB (r3.1.getD 0 .u)).bind fun b4 =>
 ((bif (b4 == false) then
 some ([(.b (decide (n1 ≥ 2)))], r3.2)
 else some ([(.b true)], r3.2)) : Option (List AV × AH O)).bind fun r5 =>
 (AV.asB (r5.1.getD 0 .u)).bind fun b6 =>
 ((bif (b6 == false) then
 some ([(.b (decide (n2 < 1)))], r5.2)
 else some ([(.b true)], r5.2)) : Option (List AV × AH O)).bind fun r7 =>
 (AV.asB (r7.1.getD 0 .u)).bind fun b8 =>
 (bif b8 then
 some ((.tup []), r7.2)
 else Option.bind p0 fun q9 =>
 (bif ((decide ((0 : Int) ≤ n1)) && (decide (n1 < 2))) then
 (r7.2.ld q9.1 (q9.2 + (n1.toNat * 2))).bind fun w10 =>
 (AV.asI .u64 w10).bind fun n11 =>
 (r7.2.ld q9.1 ((q9.2 + (n1.toNat * 2)) + 1)).bind fun w12 =>
 (AV.asI .u64 w12).bind fun n13 =>
 Option.bind p0 fun q14 =>
 (k270 [(.i .u64 (IntKind.u64.wrap n2))] r7.2).bind fun r15 =>
 (AV.asAgg 2 r15.1).bind fun c16 =>
 (AV.asI .u64 (c16.getD 0 .u)).bind fun n17 =>
 (AV.asI .u64 (c16.getD 1 .u)).bind fun n18 =>
 (chk (r15.2.ld q9.1 (q9.2 + (n1.toNat * 2)) = some (.i .u64 n11))).bind fun _ =>
 (chk (r15.2.ld q9.1 ((q9.2 + (n1.toNat * 2)) + 1) = some (.i .u64 n13))).bind fun _ =>
 (k128 [(.agg [(.i .u64 n11), (.i .u64 n13)]), (.agg [(.i .u64 n17), (.i .u64 n18)])] r15.2).bind fun r19 =>
 (AV.asTup 2 r19.1).bind fun c20 =>
 (AV.asAgg 2 (c20.getD 0 .u)).bind fun c21 =>
 (AV.asI .u64 (c21.getD 0 .u)).bind fun n22 =>
 (AV.asI .u64 (c21.getD 1 .u)).bind fun n23 =>
 (AV.asB (c20.getD 1 .u)).bind fun b24 =>
 (bif ((decide ((0 : Int) ≤ n1)) && (decide (n1 < 2))) then
 (r19.2.st q14.1 (q14.2 + (n1.toNat * 2)) [(.i .u64 n22), (.i .u64 n23)]).bind fun σ25 =>
 some ((.tup []), σ25)
 else none)
 else none))
 else none
noncomputable def meter_Meter__Step {O : Type} : Sm O := meter_Meter__Step_c wide_Of wide_Add
theorem meter_Meter__Step_ent : Entered Try.prog 237 := Try.call237
theorem meter_Meter__Step_run {O : Type} (k270 k128 : Sm O) : run (O := O) Try.prog [(270, k270), (128, k128)] Try.f237 (.n (.n (.g [(2, 2, [(11, .one .b)]), (6, 2, [(15, .one .b)]), (10, 2, [(19, .one .b)])]) .z) (.d [] [0, 1, 2, 3, 4, 5, 6, 7, 8, 9, 15, 16, 10, 11, 12, 13, 14, 17, 18] [0, 0, 0, 0, 4, 20, 60, 124, 0, 256, 768, 2044, 4092, 8188, 8188, 1, 32769, 114687, 245759])) = meter_Meter__Step_c k270 k128 := by kernel_rfl
theorem meter_Meter__Step_sound {O : Type} {RO : O → Loc → (Nat → Option Obj) → Prop} : FSound RO Try.prog 237 (meter_Meter__Step) :=
   have h : FSound RO Try.prog 237 (meter_Meter__Step_c wide_Of wide_Add) := (meter_Meter__Step_run wide_Of wide_Add) ▸ run_sound (gcons wide_Of_ent (wide_Of_sound) <| gcons wide_Add_ent (wide_Add_sound) <| gnil) mixed Try.func237 (by kernel_rfl) _
   h

/-- (*haymow/mem.Mem).Write -/
noncomputable def mem_Mem__Write_c {O : Type} (k236 k237 : Sm O) : Sm O := fun xs σ =>
 bif Nat.beq xs.length 4 then
 (AV.asP (xs.getD 0 .u)).bind fun p0 =>
 (AV.asI .i64 (xs.getD 1 .u)).bind fun n1 =>
 (AV.asI .i64 (xs.getD 2 .u)).bind fun n2 =>
 (AV.asI .u64 (xs.getD 3 .u)).bind fun n3 =>
 (k236 [(.p p0), (.i .i64 n1), (.i .i64 n2), (.i .i64 1)] σ).bind fun r4 =>
 (AV.asTup 2 r4.1).bind fun c5 =>
 (AV.asSl (c5.getD 0 .u)).bind fun l6 =>
 (AV.asI .i64 (c5.getD 1 .u)).bind fun n7 =>
 (bif ((n7 : Int) != 0) then
 some ((.i .i64 n7), r4.2)
 else Option.bind p0 fun q8 =>
 (r4.2.ld q8.1 q8.2).bind fun w9 =>
 (AV.asP w9).bind fun p10 =>
 (k237 [(.p p10), (.i .i64 1), (.i .i64 1)] r4.2).bind fun r11 =>
 (AV.asTup 0 r11.1).bind fun c12 =>
 (bif (decide ((0 : Int) < (l6.2 : Int))) then
 (SA.ref l6.1).bind fun q13 =>
 (r11.2.st q13.1 q13.2 [(.i .u64 n3)]).bind fun σ14 =>
 some ((.i .i64 0), σ14)
 else none))
 else none
noncomputable def mem_Mem__Write {O : Type} : Sm O := mem_Mem__Write_c mem_Mem__within meter_Meter__Step
theorem mem_Mem__Write_ent : Entered Try.prog 147 := Try.call147
theorem mem_Mem__Write_run {O : Type} (k236 k237 : Sm O) : run (O := O) Try.prog [(236, k236), (237, k237)] Try.f147 (.n .z (.n .z (.n (.n .z (.n .z .z)) (.n .z (.n .z .z))))) = mem_Mem__Write_c k236 k237 := by kernel_rfl
theorem mem_Mem__Write_sound {O : Type} {RO : O → Loc → (Nat → Option Obj) → Prop} : FSound RO Try.prog 147 (mem_Mem__Write) :=
   have h : FSound RO Try.prog 147 (mem_Mem__Write_c mem_Mem__within meter_Meter__Step) := (mem_Mem__Write_run mem_Mem__within meter_Meter__Step) ▸ run_sound (gcons mem_Mem__within_ent (mem_Mem__within_sound) <| gcons meter_Meter__Step_ent (meter_Meter__Step_sound) <| gnil) mixed Try.func147 (by kernel_rfl) _
   h

/-- (*haymow/mem.Mem).Read -/
noncomputable def mem_Mem__Read_c {O : Type} (k236 k237 : Sm O) : Sm O := fun xs σ =>
 bif Nat.beq xs.length 3 then
 (AV.asP (xs.getD 0 .u)).bind fun p0 =>
 (AV.asI .i64 (xs.getD 1 .u)).bind fun n1 =>
 (AV.asI .i64 (xs.getD 2 .u)).bind fun n2 =>
 (k236 [(.p p0), (.i .i64 n1), (.i .i64 n2), (.i .i64 1)] σ).bind fun r3 =>
 (AV.asTup 2 r3.1).bind fun c4 =>
 (AV.asSl (c4.getD 0 .u)).bind fun l5 =>
 (AV.asI .i64 (c4.getD 1 .u)).bind fun n6 =>
 (bif ((n6 : Int) != 0) then
 some ((.tup [(.i .u64 0), (.i .i64 n6)]), r3.2)
 else Option.bind p0 fun q7 =>
 (r3.2.ld q7.1 q7.2).bind fun w8 =>
 (AV.asP w8).bind fun p9 =>
 (k237 [(.p p9), (.i .i64 0), (.i .i64 1)] r3.2).bind fun r10 =>
 (AV.asTup 0 r10.1).bind fun c11 =>
 (bif (decide ((0 : Int) < (l5.2 : Int))) then
 (SA.ref l5.1).bind fun q12 =>
 (r10.2.ld q12.1 q12.2).bind fun w13 =>
 (AV.asI .u64 w13).bind fun n14 =>
 some ((.tup [(.i .u64 n14), (.i .i64 0)]), r10.2)
 else none))
 else none
noncomputable def mem_Mem__Read {O : Type} : Sm O := mem_Mem__Read_c mem_Mem__within meter_Meter__Step
theorem mem_Mem__Read_ent : Entered Try.prog 149 := Try.call149
theorem mem_Mem__Read_run {O : Type} (k236 k237 : Sm O) : run (O := O) Try.prog [(236, k236), (237, k237)] Try.f149 (.n .z (.n .z (.n (.n .z (.n .z .z)) (.n .z .z)))) = mem_Mem__Read_c k236 k237 := by kernel_rfl
theorem mem_Mem__Read_sound {O : Type} {RO : O → Loc → (Nat → Option Obj) → Prop} : FSound RO Try.prog 149 (mem_Mem__Read) :=
   have h : FSound RO Try.prog 149 (mem_Mem__Read_c mem_Mem__within meter_Meter__Step) := (mem_Mem__Read_run mem_Mem__within meter_Meter__Step) ▸ run_sound (gcons mem_Mem__within_ent (mem_Mem__within_sound) <| gcons meter_Meter__Step_ent (meter_Meter__Step_sound) <| gnil) mixed Try.func149 (by kernel_rfl) _
   h

/-- (*haymow/mem.Mem).Zero -/
noncomputable def mem_Mem__Zero_c {O : Type} (k236 k237 : Sm O) : Sm O := fun xs σ =>
 bif Nat.beq xs.length 4 then
 (AV.asP (xs.getD 0 .u)).bind fun p0 =>
 (AV.asI .i64 (xs.getD 1 .u)).bind fun n1 =>
 (AV.asI .i64 (xs.getD 2 .u)).bind fun n2 =>
 (AV.asI .i64 (xs.getD 3 .u)).bind fun n3 =>
 (k236 [(.p p0), (.i .i64 n1), (.i .i64 n2), (.i .i64 n3)] σ).bind fun r4 =>
 (AV.asTup 2 r4.1).bind fun c5 =>
 (AV.asSl (c5.getD 0 .u)).bind fun l6 =>
 (AV.asI .i64 (c5.getD 1 .u)).bind fun n7 =>
 (bif ((n7 : Int) != 0) then
 some ((.i .i64 n7), r4.2)
 else Option.bind p0 fun q8 =>
 (r4.2.ld q8.1 q8.2).bind fun w9 =>
 (AV.asP w9).bind fun p10 =>
 (k237 [(.p p10), (.i .i64 1), (.i .i64 n3)] r4.2).bind fun r11 =>
 (AV.asTup 0 r11.1).bind fun c12 =>
 (bif Nat.beq l6.2 0 then
 some ((.i .i64 0), r11.2)
 else
 (r11.2.wrSl l6.1 ((List.replicate l6.2 [(.i .u64 0)]).flatten)).bind fun σ13 =>
 some ((.i .i64 0), σ13)))
 else none
noncomputable def mem_Mem__Zero {O : Type} : Sm O := mem_Mem__Zero_c mem_Mem__within meter_Meter__Step
theorem mem_Mem__Zero_ent : Entered Try.prog 159 := Try.call159
theorem mem_Mem__Zero_run {O : Type} (k236 k237 : Sm O) : run (O := O) Try.prog [(236, k236), (237, k237)] Try.f159 (.n .z (.n .z (.n (.n .z (.n .z .z)) (.n .z (.n .z .z))))) = mem_Mem__Zero_c k236 k237 := by kernel_rfl
theorem mem_Mem__Zero_sound {O : Type} {RO : O → Loc → (Nat → Option Obj) → Prop} : FSound RO Try.prog 159 (mem_Mem__Zero) :=
   have h : FSound RO Try.prog 159 (mem_Mem__Zero_c mem_Mem__within meter_Meter__Step) := (mem_Mem__Zero_run mem_Mem__within meter_Meter__Step) ▸ run_sound (gcons mem_Mem__within_ent (mem_Mem__within_sound) <| gcons meter_Meter__Step_ent (meter_Meter__Step_sound) <| gnil) mixed Try.func159 (by kernel_rfl) _
   h

/-- (*haymow/pool.Pool).Take -/
noncomputable def pool_Pool__Take_c {O : Type} (k218 k217 k147 k149 k159 : Sm O) : Sm O := fun xs σ =>
 bif Nat.beq xs.length 1 then
 (AV.asP (xs.getD 0 .u)).bind fun p0 =>
 Option.bind p0 fun q1 =>
 (σ.ld q1.1 (q1.2 + 5)).bind fun w2 =>
 (AV.asI .i64 w2).bind fun n3 =>
 (bif ((n3 : Int) == 0) then
 (k218 [(.p p0)] σ).bind fun r4 =>
 (AV.asI .i64 r4.1).bind fun n5 =>
 (bif ((n5 : Int) != 0) then
 some ((.tup [(.i .i64 0), (.i .i64 n5)]), r4.2)
 else Option.bind p0 fun q6 =>
 (r4.2.ld q6.1 (q6.2 + 3)).bind fun w7 =>
 (AV.asI .i64 w7).bind fun n8 =>
 Option.bind p0 fun q9 =>
 (r4.2.st q9.1 (q9.2 + 3) [(.i .i64 (IntKind.i64.wrap (n8 + 1)))]).bind fun σ10 =>
 Option.bind p0 fun q11 =>
 (σ10.ld q11.1 (q11.2 + 3)).bind fun w12 =>
 (AV.asI .i64 w12).bind fun n13 =>
 Option.bind p0 fun q14 =>
 (σ10.ld q14.1 q14.2).bind fun w15 =>
 (AV.asP w15).bind fun p16 =>
 Option.bind p0 fun q17 =>
 (σ10.ld q17.1 (q17.2 + 1)).bind fun w18 =>
 (AV.asI .i64 w18).bind fun n19 =>
 (k217 [(.p p0), (.i .i64 n13), (.i .i64 (-1))] σ10).bind fun r20 =>
 (AV.asI .i64 r20.1).bind fun n21 =>
 (chk (r20.2.ld q14.1 q14.2 = some (.p p16))).bind fun _ =>
 (chk (r20.2.ld q17.1 (q17.2 + 1) = some (.i .i64 n19))).bind fun _ =>
 (k147 [(.p p16), (.i .i64 n19), (.i .i64 n21), (.i .u64 1)] r20.2).bind fun r22 =>
 (AV.asI .i64 r22.1).bind fun n23 =>
 Option.bind p0 fun q24 =>
 (r22.2.ld q24.1 (q24.2 + 6)).bind fun w25 =>
 (AV.asI .i64 w25).bind fun n26 =>
 Option.bind p0 fun q27 =>
 (r22.2.st q27.1 (q27.2 + 6) [(.i .i64 (IntKind.i64.wrap (n26 + 1)))]).bind fun σ28 =>
 some ((.tup [(.i .i64 n13), (.i .i64 0)]), σ28))
 else Option.bind p0 fun q29 =>
 (σ.ld q29.1 q29.2).bind fun w30 =>
 (AV.asP w30).bind fun p31 =>
 Option.bind p0 fun q32 =>
 (σ.ld q32.1 (q32.2 + 1)).bind fun w33 =>
 (AV.asI .i64 w33).bind fun n34 =>
 (k217 [(.p p0), (.i .i64 n3), (.i .i64 0)] σ).bind fun r35 =>
 (AV.asI .i64 r35.1).bind fun n36 =>
 (chk (r35.2.ld q29.1 q29.2 = some (.p p31))).bind fun _ =>
 (chk (r35.2.ld q32.1 (q32.2 + 1) = some (.i .i64 n34))).bind fun _ =>
 (k149 [(.p p31), (.i .i64 n34), (.i .i64 n36)] r35.2).bind fun r37 =>
 (AV.asTup 2 r37.1).bind fun c38 =>
 (AV.asI .u64 (c38.getD 0 .u)).bind fun n39 =>
 (AV.asI .i64 (c38.getD 1 .u)).bind fun n40 =>
 Option.bind p0 fun q41 =>
 (r37.2.ld q41.1 q41.2).bind fun w42 =>
 (AV.asP w42).bind fun p43 =>
 Option.bind p0 fun q44 =>
 (r37.2.ld q44.1 (q44.2 + 1)).bind fun w45 =>
 (AV.asI .i64 w45).bind fun n46 =>
 (k217 [(.p p0), (.i .i64 n3), (.i .i64 (-1))] r37.2).bind fun r47 =>
 (AV.asI .i64 r47.1).bind fun n48 =>
 (chk (r47.2.ld q41.1 q41.2 = some (.p p43))).bind fun _ =>
 (chk (r47.2.ld q44.1 (q44.2 + 1) = some (.i .i64 n46))).bind fun _ =>
 (k149 [(.p p43), (.i .i64 n46), (.i .i64 n48)] r47.2).bind fun r49 =>
 (AV.asTup 2 r49.1).bind fun c50 =>
 (AV.asI .u64 (c50.getD 0 .u)).bind fun n51 =>
 (AV.asI .i64 (c50.getD 1 .u)).bind fun n52 =>
 Option.bind p0 fun q53 =>
 (r49.2.ld q53.1 q53.2).bind fun w54 =>
 (AV.asP w54).bind fun p55 =>
 Option.bind p0 fun q56 =>
 (r49.2.ld q56.1 (q56.2 + 1)).bind fun w57 =>
 (AV.asI .i64 w57).bind fun n58 =>
 (k217 [(.p p0), (.i .i64 n3), (.i .i64 (-1))] r49.2).bind fun r59 =>
 (AV.asI .i64 r59.1).bind fun n60 =>
 (chk (r59.2.ld q53.1 q53.2 = some (.p p55))).bind fun _ =>
 (chk (r59.2.ld q56.1 (q56.2 + 1) = some (.i .i64 n58))).bind fun _ =>
 (k147 [(.p p55), (.i .i64 n58), (.i .i64 n60), (.i .u64 (ibits .or .u64 n51 1))] r59.2).bind fun r61 =>
 (AV.asI .i64 r61.1).bind fun n62 =>
 Option.bind p0 fun q63 =>
 (r61.2.ld q63.1 q63.2).bind fun w64 =>
 (AV.asP w64).bind fun p65 =>
 Option.bind p0 fun q66 =>
 (r61.2.ld q66.1 (q66.2 + 1)).bind fun w67 =>
 (AV.asI .i64 w67).bind fun n68 =>
 Option.bind p0 fun q69 =>
 (r61.2.ld q69.1 (q69.2 + 2)).bind fun w70 =>
 (AV.asI .i64 w70).bind fun n71 =>
 (k217 [(.p p0), (.i .i64 n3), (.i .i64 0)] r61.2).bind fun r72 =>
 (AV.asI .i64 r72.1).bind fun n73 =>
 (chk (r72.2.ld q63.1 q63.2 = some (.p p65))).bind fun _ =>
 (chk (r72.2.ld q66.1 (q66.2 + 1) = some (.i .i64 n68))).bind fun _ =>
 (chk (r72.2.ld q69.1 (q69.2 + 2) = some (.i .i64 n71))).bind fun _ =>
 (k159 [(.p p65), (.i .i64 n68), (.i .i64 n73), (.i .i64 n71)] r72.2).bind fun r74 =>
 (AV.asI .i64 r74.1).bind fun n75 =>
 Option.bind p0 fun q76 =>
 (r74.2.st q76.1 (q76.2 + 5) [(.i .i64 (IntKind.i64.wrap n39))]).bind fun σ77 =>
 Option.bind p0 fun q78 =>
 (σ77.ld q78.1 (q78.2 + 6)).bind fun w79 =>
 (AV.asI .i64 w79).bind fun n80 =>
 Option.bind p0 fun q81 =>
 (σ77.st q81.1 (q81.2 + 6) [(.i .i64 (IntKind.i64.wrap (n80 + 1)))]).bind fun σ82 =>
 some ((.tup [(.i .i64 n3), (.i .i64 0)]), σ82))
 else none
noncomputable def pool_Pool__Take {O : Type} : Sm O := pool_Pool__Take_c pool_Pool__grow pool_Pool__at mem_Mem__Write mem_Mem__Read mem_Mem__Zero
theorem pool_Pool__Take_ent : Entered Try.prog 116 := Try.call116
theorem pool_Pool__Take_run {O : Type} (k218 k217 k147 k149 k159 : Sm O) : run (O := O) Try.prog [(218, k218), (217, k217), (147, k147), (149, k149), (159, k159)] Try.f116 (.n .z (.n .z (.n (.n .z (.n (.n (.n .z (.n .z (.n .z .z))) (.n .z (.n .z (.n (.d [] [0, 1, 2, 3, 4, 5, 6, 7, 8, 9, 10, 11] [0, 1, 3, 7, 0, 16, 48, 112, 0, 0, 768, 2047]) (.n .z .z))))) .z)) (.n (.d [] [0, 1, 2, 3, 4, 5, 6, 7, 8, 9, 10, 11, 12, 13, 14, 15, 16] [0, 1, 3, 7, 0, 16, 48, 112, 0, 0, 768, 2047, 4095, 8191, 8191, 16383, 65535]) (.n (.d [] [0, 1, 2, 3, 4, 5, 6, 7, 8, 9, 10, 11, 12, 13, 14, 15, 16] [0, 1, 3, 7, 0, 16, 48, 112, 0, 0, 768, 2047, 4095, 8191, 8191, 16383, 65535]) (.n (.d [] [0, 1, 2, 3, 4, 5, 6, 7, 8, 9, 11, 12, 10, 13] [0, 1, 3, 7, 0, 16, 48, 112, 0, 0, 768, 0, 2048, 8191]) (.n (.d [] [0, 1, 2, 3, 4, 5, 6, 7, 8, 9, 11, 12, 13, 14, 10, 15] [0, 1, 3, 7, 0, 16, 48, 112, 0, 0, 768, 0, 2048, 6144, 14336, 32767]) (.n .z (.n .z .z))))))))) = pool_Pool__Take_c k218 k217 k147 k149 k159 := by kernel_rfl
theorem pool_Pool__Take_sound {O : Type} {RO : O → Loc → (Nat → Option Obj) → Prop} : FSound RO Try.prog 116 (pool_Pool__Take) :=
   have h : FSound RO Try.prog 116 (pool_Pool__Take_c pool_Pool__grow pool_Pool__at mem_Mem__Write mem_Mem__Read mem_Mem__Zero) := (pool_Pool__Take_run pool_Pool__grow pool_Pool__at mem_Mem__Write mem_Mem__Read mem_Mem__Zero) ▸ run_sound (gcons pool_Pool__grow_ent (pool_Pool__grow_sound) <| gcons pool_Pool__at_ent (pool_Pool__at_sound) <| gcons mem_Mem__Write_ent (mem_Mem__Write_sound) <| gcons mem_Mem__Read_ent (mem_Mem__Read_sound) <| gcons mem_Mem__Zero_ent (mem_Mem__Zero_sound) <| gnil) mixed Try.func116 (by kernel_rfl) _
   h

/-- (*haymow/pool.Pool).look -/
noncomputable def pool_Pool__look_c {O : Type} (k217 k149 : Sm O) : Sm O := fun xs σ =>
 bif Nat.beq xs.length 2 then
 (AV.asP (xs.getD 0 .u)).bind fun p0 =>
 (AV.asI .i64 (xs.getD 1 .u)).bind fun n1 =>
 ((bif ((decide (n1 < 1)) == false) then
 Option.bind p0 fun q2 =>
 (σ.ld q2.1 (q2.2 + 3)).bind fun w3 =>
 (AV.asI .i64 w3).bind fun n4 =>
 some ([(.b (decide (n1 > n4)))], σ)
 else some ([(.b true)], σ)) : Option (List AV × AH O)).bind fun r5 =>
 (AV.asB (r5.1.getD 0 .u)).bind fun b6 =>
 (bif b6 then
 some ((.tup [(.i .u64 0), (.b false)]), r5.2)
 else Option.bind p0 fun q7 =>
 (r5.2.ld q7.1 q7.2).bind fun w8 =>
 (AV.asP w8).bind fun p9 =>
 Option.bind p0 fun q10 =>
 (r5.2.ld q10.1 (q10.2 + 1)).bind fun w11 =>
 (AV.asI .i64 w11).bind fun n12 =>
 (k217 [(.p p0), (.i .i64 n1), (.i .i64 (-1))] r5.2).bind fun r13 =>
 (AV.asI .i64 r13.1).bind fun n14 =>
 (chk (r13.2.ld q7.1 q7.2 = some (.p p9))).bind fun _ =>
 (chk (r13.2.ld q10.1 (q10.2 + 1) = some (.i .i64 n12))).bind fun _ =>
 (k149 [(.p p9), (.i .i64 n12), (.i .i64 n14)] r13.2).bind fun r15 =>
 (AV.asTup 2 r15.1).bind fun c16 =>
 (AV.asI .u64 (c16.getD 0 .u)).bind fun n17 =>
 (AV.asI .i64 (c16.getD 1 .u)).bind fun n18 =>
 some ((.tup [(.i .u64 n17), (.b true)]), r15.2))
 else none
noncomputable def pool_Pool__look {O : Type} : Sm O := pool_Pool__look_c pool_Pool__at mem_Mem__Read
theorem pool_Pool__look_ent : Entered Try.prog 216 := Try.call216
theorem pool_Pool__look_run {O : Type} (k217 k149 : Sm O) : run (O := O) Try.prog [(217, k217), (149, k149)] Try.f216 (.n .z (.n (.n (.g [(2, 6, [(17, .one .b)])]) (.n .z .z)) (.n (.d [] [0, 1, 2, 3, 4, 5, 6, 7, 8, 9, 10, 11, 12, 13, 14, 15, 16] [0, 1, 3, 7, 0, 16, 48, 112, 0, 0, 768, 2047, 4095, 8191, 8191, 16383, 65535]) .z))) = pool_Pool__look_c k217 k149 := by kernel_rfl
theorem pool_Pool__look_sound {O : Type} {RO : O → Loc → (Nat → Option Obj) → Prop} : FSound RO Try.prog 216 (pool_Pool__look) :=
   have h : FSound RO Try.prog 216 (pool_Pool__look_c pool_Pool__at mem_Mem__Read) := (pool_Pool__look_run pool_Pool__at mem_Mem__Read) ▸ run_sound (gcons pool_Pool__at_ent (pool_Pool__at_sound) <| gcons mem_Mem__Read_ent (mem_Mem__Read_sound) <| gnil) mixed Try.func216 (by kernel_rfl) _
   h

/-- (*haymow/pool.Pool).Taken -/
noncomputable def pool_Pool__Taken_c {O : Type} (k216 : Sm O) : Sm O := fun xs σ =>
 bif Nat.beq xs.length 2 then
 (AV.asP (xs.getD 0 .u)).bind fun p0 =>
 (AV.asI .i64 (xs.getD 1 .u)).bind fun n1 =>
 (k216 [(.p p0), (.i .i64 n1)] σ).bind fun r2 =>
 (AV.asTup 2 r2.1).bind fun c3 =>
 (AV.asI .u64 (c3.getD 0 .u)).bind fun n4 =>
 (AV.asB (c3.getD 1 .u)).bind fun b5 =>
 ((bif (b5 == true) then
 some ([(.b (((ibits .and .u64 n4 1) : Int) == 1))], r2.2)
 else some ([(.b false)], r2.2)) : Option (List AV × AH O)).bind fun r6 =>
 (AV.asB (r6.1.getD 0 .u)).bind fun b7 =>
 some ((.b b7), r6.2)
 else none
noncomputable def pool_Pool__Taken {O : Type} : Sm O := pool_Pool__Taken_c pool_Pool__look
theorem pool_Pool__Taken_ent : Entered Try.prog 211 := Try.call211
theorem pool_Pool__Taken_run {O : Type} (k216 : Sm O) : run (O := O) Try.prog [(216, k216)] Try.f211 (.n .z (.n .z (.n (.g [(1, 3, [(18, .one .b)])]) .z))) = pool_Pool__Taken_c k216 := by kernel_rfl
theorem pool_Pool__Taken_sound {O : Type} {RO : O → Loc → (Nat → Option Obj) → Prop} : FSound RO Try.prog 211 (pool_Pool__Taken) :=
   have h : FSound RO Try.prog 211 (pool_Pool__Taken_c pool_Pool__look) := (pool_Pool__Taken_run pool_Pool__look) ▸ run_sound (gcons pool_Pool__look_ent (pool_Pool__look_sound) <| gnil) mixed Try.func211 (by kernel_rfl) _
   h

/-- (*haymow/pool.Pool).check -/
noncomputable def pool_Pool__check_c {O : Type} (k211 : Sm O) : Sm O := fun xs σ =>
 bif Nat.beq xs.length 3 then
 (AV.asP (xs.getD 0 .u)).bind fun p0 =>
 (AV.asI .i64 (xs.getD 1 .u)).bind fun n1 =>
 (AV.asI .i64 (xs.getD 2 .u)).bind fun n2 =>
 (k211 [(.p p0), (.i .i64 n1)] σ).bind fun r3 =>
 (AV.asB r3.1).bind fun b4 =>
 (bif (!b4) then
 some ((.i .i64 4), r3.2)
 else ((bif ((decide (n2 < 0)) == false) then
 Option.bind p0 fun q5 =>
 (r3.2.ld q5.1 (q5.2 + 2)).bind fun w6 =>
 (AV.asI .i64 w6).bind fun n7 =>
 some ([(.b (decide (n2 ≥ n7)))], r3.2)
 else some ([(.b true)], r3.2)) : Option (List AV × AH O)).bind fun r8 =>
 (AV.asB (r8.1.getD 0 .u)).bind fun b9 =>
 (bif b9 then
 some ((.i .i64 32), r8.2)
 else some ((.i .i64 0), r8.2)))
 else none
noncomputable def pool_Pool__check {O : Type} : Sm O := pool_Pool__check_c pool_Pool__Taken
theorem pool_Pool__check_ent : Entered Try.prog 219 := Try.call219
theorem pool_Pool__check_run {O : Type} (k211 : Sm O) : run (O := O) Try.prog [(211, k211)] Try.f219 (.n .z (.n (.n (.n .z (.n .z (.n (.g [(2, 6, [(22, .one .b)])]) (.n .z .z)))) .z) .z)) = pool_Pool__check_c k211 := by kernel_rfl
theorem pool_Pool__check_sound {O : Type} {RO : O → Loc → (Nat → Option Obj) → Prop} : FSound RO Try.prog 219 (pool_Pool__check) :=
   have h : FSound RO Try.prog 219 (pool_Pool__check_c pool_Pool__Taken) := (pool_Pool__check_run pool_Pool__Taken) ▸ run_sound (gcons pool_Pool__Taken_ent (pool_Pool__Taken_sound) <| gnil) mixed Try.func219 (by kernel_rfl) _
   h

/-- (*haymow/pool.Pool).Set -/
noncomputable def pool_Pool__Set_c {O : Type} (k219 k217 k147 : Sm O) : Sm O := fun xs σ =>
 bif Nat.beq xs.length 4 then
 (AV.asP (xs.getD 0 .u)).bind fun p0 =>
 (AV.asI .i64 (xs.getD 1 .u)).bind fun n1 =>
 (AV.asI .i64 (xs.getD 2 .u)).bind fun n2 =>
 (AV.asI .u64 (xs.getD 3 .u)).bind fun n3 =>
 (k219 [(.p p0), (.i .i64 n1), (.i .i64 n2)] σ).bind fun r4 =>
 (AV.asI .i64 r4.1).bind fun n5 =>
 (bif ((n5 : Int) != 0) then
 some ((.i .i64 n5), r4.2)
 else Option.bind p0 fun q6 =>
 (r4.2.ld q6.1 q6.2).bind fun w7 =>
 (AV.asP w7).bind fun p8 =>
 Option.bind p0 fun q9 =>
 (r4.2.ld q9.1 (q9.2 + 1)).bind fun w10 =>
 (AV.asI .i64 w10).bind fun n11 =>
 (k217 [(.p p0), (.i .i64 n1), (.i .i64 n2)] r4.2).bind fun r12 =>
 (AV.asI .i64 r12.1).bind fun n13 =>
 (chk (r12.2.ld q6.1 q6.2 = some (.p p8))).bind fun _ =>
 (chk (r12.2.ld q9.1 (q9.2 + 1) = some (.i .i64 n11))).bind fun _ =>
 (k147 [(.p p8), (.i .i64 n11), (.i .i64 n13), (.i .u64 n3)] r12.2).bind fun r14 =>
 (AV.asI .i64 r14.1).bind fun n15 =>
 some ((.i .i64 n15), r14.2))
 else none
noncomputable def pool_Pool__Set {O : Type} : Sm O := pool_Pool__Set_c pool_Pool__check pool_Pool__at mem_Mem__Write
theorem pool_Pool__Set_ent : Entered Try.prog 117 := Try.call117
theorem pool_Pool__Set_run {O : Type} (k219 k217 k147 : Sm O) : run (O := O) Try.prog [(219, k219), (217, k217), (147, k147)] Try.f117 (.n .z (.n (.n .z (.n .z (.n .z .z))) (.n (.d [] [0, 1, 2, 3, 4, 5, 6, 7, 8, 9, 10, 12, 11, 13, 14] [0, 1, 3, 7, 0, 16, 48, 112, 0, 0, 0, 1792, 0, 8191, 16383]) .z))) = pool_Pool__Set_c k219 k217 k147 := by kernel_rfl
theorem pool_Pool__Set_sound {O : Type} {RO : O → Loc → (Nat → Option Obj) → Prop} : FSound RO Try.prog 117 (pool_Pool__Set) :=
   have h : FSound RO Try.prog 117 (pool_Pool__Set_c pool_Pool__check pool_Pool__at mem_Mem__Write) := (pool_Pool__Set_run pool_Pool__check pool_Pool__at mem_Mem__Write) ▸ run_sound (gcons pool_Pool__check_ent (pool_Pool__check_sound) <| gcons pool_Pool__at_ent (pool_Pool__at_sound) <| gcons mem_Mem__Write_ent (mem_Mem__Write_sound) <| gnil) mixed Try.func117 (by kernel_rfl) _
   h

/-- (*haymow/pool.Pool).Table -/
noncomputable def pool_Pool__Table_c {O : Type} (k260 : Sm O) : Sm O := fun xs σ =>
 bif Nat.beq xs.length 3 then
 (AV.asP (xs.getD 0 .u)).bind fun p0 =>
 (AV.asI .i64 (xs.getD 1 .u)).bind fun n1 =>
 (AV.asI .i64 (xs.getD 2 .u)).bind fun n2 =>
 let σ3 := σ.bump 1
 let σ4 := σ3.put σ.next (.cells true 206 [(.p none), (.i .i64 0), (.i .i64 0), (.i .i64 0), (.i .i64 0)])
 Option.bind p0 fun q5 =>
 (σ4.ld q5.1 q5.2).bind fun w6 =>
 (AV.asP w6).bind fun p7 =>
 Option.bind p0 fun q8 =>
 (σ4.ld q8.1 (q8.2 + 1)).bind fun w9 =>
 (AV.asI .i64 w9).bind fun n10 =>
 (k260 [(.p p0)] σ4).bind fun r11 =>
 (AV.asI .i64 r11.1).bind fun n12 =>
 (chk (r11.2.ld q5.1 q5.2 = some (.p p7))).bind fun _ =>
 (chk (r11.2.ld q8.1 (q8.2 + 1) = some (.i .i64 n10))).bind fun _ =>
 (r11.2.st (.n σ.next) 0 [(.p p7), (.i .i64 n10), (.i .i64 n12), (.i .i64 (IntKind.i64.wrap (n1 + 1))), (.i .i64 (IntKind.i64.wrap (n2 + 1)))]).bind fun σ13 =>
 (σ13.ld (.n σ.next) 0).bind fun w14 =>
 (AV.asP w14).bind fun p15 =>
 (σ13.ld (.n σ.next) 1).bind fun w16 =>
 (AV.asI .i64 w16).bind fun n17 =>
 (σ13.ld (.n σ.next) 2).bind fun w18 =>
 (AV.asI .i64 w18).bind fun n19 =>
 (σ13.ld (.n σ.next) 3).bind fun w20 =>
 (AV.asI .i64 w20).bind fun n21 =>
 (σ13.ld (.n σ.next) 4).bind fun w22 =>
 (AV.asI .i64 w22).bind fun n23 =>
 some ((.agg [(.p p15), (.i .i64 n17), (.i .i64 n19), (.i .i64 n21), (.i .i64 n23)]), σ13)
 else none
noncomputable def pool_Pool__Table {O : Type} : Sm O := pool_Pool__Table_c pool_Pool__width
theorem pool_Pool__Table_ent : Entered Try.prog 212 := Try.call212
theorem pool_Pool__Table_run {O : Type} (k260 : Sm O) : run (O := O) Try.prog [(260, k260)] Try.f212 (.n .z (.n (.d [] [0, 1, 2, 3, 4, 5, 6, 7, 8, 10, 11, 12, 13, 9, 14, 15] [0, 1, 3, 7, 0, 16, 48, 112, 0, 256, 0, 1024, 0, 4096, 16383, 32767]) .z)) = pool_Pool__Table_c k260 := by kernel_rfl
theorem pool_Pool__Table_sound {O : Type} {RO : O → Loc → (Nat → Option Obj) → Prop} : FSound RO Try.prog 212 (pool_Pool__Table) :=
   have h : FSound RO Try.prog 212 (pool_Pool__Table_c pool_Pool__width) := (pool_Pool__Table_run pool_Pool__width) ▸ run_sound (gcons pool_Pool__width_ent (pool_Pool__width_sound) <| gnil) mixed Try.func212 (by kernel_rfl) _
   h

/-- (*haymow/handles.Handles).table -/
noncomputable def handles_Handles__table_c {O : Type} (k212 : Sm O) : Sm O := fun xs σ =>
 bif Nat.beq xs.length 1 then
 (AV.asP (xs.getD 0 .u)).bind fun p0 =>
 let σ1 := σ.bump 1
 let σ2 := σ1.put σ.next (.cells true 206 [(.p none), (.i .i64 0), (.i .i64 0), (.i .i64 0), (.i .i64 0)])
 Option.bind p0 fun q3 =>
 (σ2.ld q3.1 q3.2).bind fun w4 =>
 (AV.asP w4).bind fun p5 =>
 (k212 [(.p p5), (.i .i64 1), (.i .i64 2)] σ2).bind fun r6 =>
 (AV.asAgg 5 r6.1).bind fun c7 =>
 (AV.asP (c7.getD 0 .u)).bind fun p8 =>
 (AV.asI .i64 (c7.getD 1 .u)).bind fun n9 =>
 (AV.asI .i64 (c7.getD 2 .u)).bind fun n10 =>
 (AV.asI .i64 (c7.getD 3 .u)).bind fun n11 =>
 (AV.asI .i64 (c7.getD 4 .u)).bind fun n12 =>
 (r6.2.st (.n σ.next) 0 [(.p p8), (.i .i64 n9), (.i .i64 n10), (.i .i64 n11), (.i .i64 n12)]).bind fun σ13 =>
 (σ13.ld (.n σ.next) 0).bind fun w14 =>
 (AV.asP w14).bind fun p15 =>
 (σ13.ld (.n σ.next) 1).bind fun w16 =>
 (AV.asI .i64 w16).bind fun n17 =>
 (σ13.ld (.n σ.next) 2).bind fun w18 =>
 (AV.asI .i64 w18).bind fun n19 =>
 (σ13.ld (.n σ.next) 3).bind fun w20 =>
 (AV.asI .i64 w20).bind fun n21 =>
 (σ13.ld (.n σ.next) 4).bind fun w22 =>
 (AV.asI .i64 w22).bind fun n23 =>
 some ((.agg [(.p p15), (.i .i64 n17), (.i .i64 n19), (.i .i64 n21), (.i .i64 n23)]), σ13)
 else none
noncomputable def handles_Handles__table {O : Type} : Sm O := handles_Handles__table_c pool_Pool__Table
theorem handles_Handles__table_ent : Entered Try.prog 113 := Try.call113
theorem handles_Handles__table_run {O : Type} (k212 : Sm O) : run (O := O) Try.prog [(212, k212)] Try.f113 (.n .z .z) = handles_Handles__table_c k212 := by kernel_rfl
theorem handles_Handles__table_sound {O : Type} {RO : O → Loc → (Nat → Option Obj) → Prop} : FSound RO Try.prog 113 (handles_Handles__table) :=
   have h : FSound RO Try.prog 113 (handles_Handles__table_c pool_Pool__Table) := (handles_Handles__table_run pool_Pool__Table) ▸ run_sound (gcons pool_Pool__Table_ent (pool_Pool__Table_sound) <| gnil) mixed Try.func113 (by kernel_rfl) _
   h

/-- (haymow/chain.Table).Right$1 -/
noncomputable def chain_Table__Right_1_c {O : Type} : Sm O := fun xs σ =>
 bif Nat.beq xs.length 2 then
 (AV.asI .i64 (xs.getD 0 .u)).bind fun n0 =>
 ((bif ((decide (n0 ≥ 0)) == true) then
 (AV.asPS (xs.getD 1 .u)).bind fun q1 =>
 (σ.ld q1.1 (q1.2 + 2)).bind fun w2 =>
 (AV.asI .i64 w2).bind fun n3 =>
 some ([(.b (decide (n0 < n3)))], σ)
 else some ([(.b false)], σ)) : Option (List AV × AH O)).bind fun r4 =>
 (AV.asB (r4.1.getD 0 .u)).bind fun b5 =>
 some ((.b b5), r4.2)
 else none
noncomputable def chain_Table__Right_1 {O : Type} : Sm O := chain_Table__Right_1_c
theorem chain_Table__Right_1_ent : Entered Try.prog 269 := Try.call269
theorem chain_Table__Right_1_run {O : Type} : run (O := O) Try.prog [] Try.f269 (.n .z (.n (.g [(2, 4, [(11, .one .b)])]) .z)) = chain_Table__Right_1_c  := by kernel_rfl
theorem chain_Table__Right_1_sound {O : Type} {RO : O → Loc → (Nat → Option Obj) → Prop} : FSound RO Try.prog 269 (chain_Table__Right_1) :=
   have h : FSound RO Try.prog 269 (chain_Table__Right_1_c) := (chain_Table__Right_1_run) ▸ run_sound (gnil) mixed Try.func269 (by kernel_rfl) _
   h

/-- (haymow/chain.Table).Right -/
noncomputable def chain_Table__Right_c {O : Type} (k269 : Sm O) : Sm O := fun xs σ =>
 bif Nat.beq xs.length 1 then
 (AV.asAgg 5 (xs.getD 0 .u)).bind fun c0 =>
 (AV.asP (c0.getD 0 .u)).bind fun p1 =>
 (AV.asI .i64 (c0.getD 1 .u)).bind fun n2 =>
 (AV.asI .i64 (c0.getD 2 .u)).bind fun n3 =>
 (AV.asI .i64 (c0.getD 3 .u)).bind fun n4 =>
 (AV.asI .i64 (c0.getD 4 .u)).bind fun n5 =>
 let σ6 := σ.bump 1
 let σ7 := σ6.put σ.next (.cells true 206 [(.p p1), (.i .i64 n2), (.i .i64 n3), (.i .i64 n4), (.i .i64 n5)])
 (σ7.ld (.n σ.next) 0).bind fun w8 =>
 (AV.asP w8).bind fun p9 =>
 ((bif ((!(Option.isNone p9)) == true) then
 (σ7.ld (.n σ.next) 2).bind fun w10 =>
 (AV.asI .i64 w10).bind fun n11 =>
 some ([(.b (decide (n11 ≥ 2)))], σ7)
 else some ([(.b false)], σ7)) : Option (List AV × AH O)).bind fun r12 =>
 (AV.asB (r12.1.getD 0 .u)).bind fun b13 =>
 ((bif (b13 == true) then
 (r12.2.ld (.n σ.next) 2).bind fun w14 =>
 (AV.asI .i64 w14).bind fun n15 =>
 some ([(.b (decide (n15 ≤ 64)))], r12.2)
 else some ([(.b false)], r12.2)) : Option (List AV × AH O)).bind fun r16 =>
 (AV.asB (r16.1.getD 0 .u)).bind fun b17 =>
 ((bif (b17 == true) then
 (r16.2.ld (.n σ.next) 3).bind fun w18 =>
 (AV.asI .i64 w18).bind fun n19 =>
 (k269 [(.i .i64 n19), (.p (some ((.n σ.next), 0)))] r16.2).bind fun r20 =>
 (AV.asB r20.1).bind fun b21 =>
 some ([(.b b21)], r20.2)
 else some ([(.b false)], r16.2)) : Option (List AV × AH O)).bind fun r22 =>
 (AV.asB (r22.1.getD 0 .u)).bind fun b23 =>
 ((bif (b23 == true) then
 (r22.2.ld (.n σ.next) 4).bind fun w24 =>
 (AV.asI .i64 w24).bind fun n25 =>
 (k269 [(.i .i64 n25), (.p (some ((.n σ.next), 0)))] r22.2).bind fun r26 =>
 (AV.asB r26.1).bind fun b27 =>
 some ([(.b b27)], r26.2)
 else some ([(.b false)], r22.2)) : Option (List AV × AH O)).bind fun r28 =>
 (AV.asB (r28.1.getD 0 .u)).bind fun b29 =>
 ((bif (b29 == true) then
 (r28.2.ld (.n σ.next) 3).bind fun w30 =>
 (AV.asI .i64 w30).bind fun n31 =>
 (r28.2.ld (.n σ.next) 4).bind fun w32 =>
 (AV.asI .i64 w32).bind fun n33 =>
 some ([(.b ((n31 : Int) != n33))], r28.2)
 else some ([(.b false)], r28.2)) : Option (List AV × AH O)).bind fun r34 =>
 (AV.asB (r34.1.getD 0 .u)).bind fun b35 =>
 some ((.b b35), r34.2)
 else none
noncomputable def chain_Table__Right {O : Type} : Sm O := chain_Table__Right_c chain_Table__Right_1
theorem chain_Table__Right_ent : Entered Try.prog 235 := Try.call235
theorem chain_Table__Right_run {O : Type} (k269 : Sm O) : run (O := O) Try.prog [(269, k269)] Try.f235 (.n .z (.n .z (.n (.g [(3, 3, [(12, .one .b)]), (8, 3, [(17, .one .b)]), (13, 4, [(23, .one .b)]), (19, 4, [(29, .one .b)]), (25, 5, [(36, .one .b)])]) .z))) = chain_Table__Right_c k269 := by kernel_rfl
theorem chain_Table__Right_sound {O : Type} {RO : O → Loc → (Nat → Option Obj) → Prop} : FSound RO Try.prog 235 (chain_Table__Right) :=
   have h : FSound RO Try.prog 235 (chain_Table__Right_c chain_Table__Right_1) := (chain_Table__Right_run chain_Table__Right_1) ▸ run_sound (gcons chain_Table__Right_1_ent (chain_Table__Right_1_sound) <| gnil) mixed Try.func235 (by kernel_rfl) _
   h

/-- (*haymow/mem.Mem).Size -/
noncomputable def mem_Mem__Size_c {O : Type} (k233 : Sm O) : Sm O := fun xs σ =>
 bif Nat.beq xs.length 2 then
 (AV.asP (xs.getD 0 .u)).bind fun p0 =>
 (AV.asI .i64 (xs.getD 1 .u)).bind fun n1 =>
 (k233 [(.p p0), (.i .i64 n1)] σ).bind fun r2 =>
 (AV.asP r2.1).bind fun p3 =>
 (bif (Option.isNone p3) then
 some ((.tup [(.i .i64 0), (.i .i64 10)]), r2.2)
 else Option.bind p3 fun q4 =>
 (r2.2.ld q4.1 q4.2).bind fun w5 =>
 (AV.asSl w5).bind fun l6 =>
 some ((.tup [(.i .i64 (l6.2 : Int)), (.i .i64 0)]), r2.2))
 else none
noncomputable def mem_Mem__Size {O : Type} : Sm O := mem_Mem__Size_c mem_Mem__at
theorem mem_Mem__Size_ent : Entered Try.prog 290 := Try.call290
theorem mem_Mem__Size_run {O : Type} (k233 : Sm O) : run (O := O) Try.prog [(233, k233)] Try.f290 (.n .z (.n .z (.n (.n .z (.n .z .z)) .z))) = mem_Mem__Size_c k233 := by kernel_rfl
theorem mem_Mem__Size_sound {O : Type} {RO : O → Loc → (Nat → Option Obj) → Prop} : FSound RO Try.prog 290 (mem_Mem__Size) :=
   have h : FSound RO Try.prog 290 (mem_Mem__Size_c mem_Mem__at) := (mem_Mem__Size_run mem_Mem__at) ▸ run_sound (gcons mem_Mem__at_ent (mem_Mem__at_sound) <| gnil) mixed Try.func290 (by kernel_rfl) _
   h

/-- (haymow/chain.Table).Entries -/
noncomputable def chain_Table__Entries_c {O : Type} (k235 k290 : Sm O) : Sm O := fun xs σ =>
 bif Nat.beq xs.length 1 then
 (AV.asAgg 5 (xs.getD 0 .u)).bind fun c0 =>
 (AV.asP (c0.getD 0 .u)).bind fun p1 =>
 (AV.asI .i64 (c0.getD 1 .u)).bind fun n2 =>
 (AV.asI .i64 (c0.getD 2 .u)).bind fun n3 =>
 (AV.asI .i64 (c0.getD 3 .u)).bind fun n4 =>
 (AV.asI .i64 (c0.getD 4 .u)).bind fun n5 =>
 let σ6 := σ.bump 1
 let σ7 := σ6.put σ.next (.cells true 206 [(.p p1), (.i .i64 n2), (.i .i64 n3), (.i .i64 n4), (.i .i64 n5)])
 (σ7.ld (.n σ.next) 0).bind fun w8 =>
 (AV.asP w8).bind fun p9 =>
 (σ7.ld (.n σ.next) 1).bind fun w10 =>
 (AV.asI .i64 w10).bind fun n11 =>
 (σ7.ld (.n σ.next) 2).bind fun w12 =>
 (AV.asI .i64 w12).bind fun n13 =>
 (σ7.ld (.n σ.next) 3).bind fun w14 =>
 (AV.asI .i64 w14).bind fun n15 =>
 (σ7.ld (.n σ.next) 4).bind fun w16 =>
 (AV.asI .i64 w16).bind fun n17 =>
 (k235 [(.agg [(.p p9), (.i .i64 n11), (.i .i64 n13), (.i .i64 n15), (.i .i64 n17)])] σ7).bind fun r18 =>
 (AV.asB r18.1).bind fun b19 =>
 (bif (!b19) then
 some ((.i .i64 0), r18.2)
 else (r18.2.ld (.n σ.next) 0).bind fun w20 =>
 (AV.asP w20).bind fun p21 =>
 (r18.2.ld (.n σ.next) 1).bind fun w22 =>
 (AV.asI .i64 w22).bind fun n23 =>
 (k290 [(.p p21), (.i .i64 n23)] r18.2).bind fun r24 =>
 (AV.asTup 2 r24.1).bind fun c25 =>
 (AV.asI .i64 (c25.getD 0 .u)).bind fun n26 =>
 (AV.asI .i64 (c25.getD 1 .u)).bind fun n27 =>
 (r24.2.ld (.n σ.next) 2).bind fun w28 =>
 (AV.asI .i64 w28).bind fun n29 =>
 (bif (n29 == 0) then
 none
 else some ((.i .i64 (IntKind.i64.wrap (Int.tdiv n26 n29))), r24.2)))
 else none
noncomputable def chain_Table__Entries {O : Type} : Sm O := chain_Table__Entries_c chain_Table__Right mem_Mem__Size
theorem chain_Table__Entries_ent : Entered Try.prog 261 := Try.call261
theorem chain_Table__Entries_run {O : Type} (k235 k290 : Sm O) : run (O := O) Try.prog [(235, k235), (290, k290)] Try.f261 (.n .z (.n (.n .z (.n .z .z)) (.n .z .z))) = chain_Table__Entries_c k235 k290 := by kernel_rfl
theorem chain_Table__Entries_sound {O : Type} {RO : O → Loc → (Nat → Option Obj) → Prop} : FSound RO Try.prog 261 (chain_Table__Entries) :=
   have h : FSound RO Try.prog 261 (chain_Table__Entries_c chain_Table__Right mem_Mem__Size) := (chain_Table__Entries_run chain_Table__Right mem_Mem__Size) ▸ run_sound (gcons chain_Table__Right_ent (chain_Table__Right_sound) <| gcons mem_Mem__Size_ent (mem_Mem__Size_sound) <| gnil) mixed Try.func261 (by kernel_rfl) _
   h

/-- (haymow/chain.Table).check -/
noncomputable def chain_Table__check_c {O : Type} (k235 k261 : Sm O) : Sm O := fun xs σ =>
 bif Nat.beq xs.length 2 then
 (AV.asAgg 5 (xs.getD 0 .u)).bind fun c0 =>
 (AV.asP (c0.getD 0 .u)).bind fun p1 =>
 (AV.asI .i64 (c0.getD 1 .u)).bind fun n2 =>
 (AV.asI .i64 (c0.getD 2 .u)).bind fun n3 =>
 (AV.asI .i64 (c0.getD 3 .u)).bind fun n4 =>
 (AV.asI .i64 (c0.getD 4 .u)).bind fun n5 =>
 (AV.asI .i64 (xs.getD 1 .u)).bind fun n6 =>
 let σ7 := σ.bump 1
 let σ8 := σ7.put σ.next (.cells true 206 [(.p p1), (.i .i64 n2), (.i .i64 n3), (.i .i64 n4), (.i .i64 n5)])
 (σ8.ld (.n σ.next) 0).bind fun w9 =>
 (AV.asP w9).bind fun p10 =>
 (σ8.ld (.n σ.next) 1).bind fun w11 =>
 (AV.asI .i64 w11).bind fun n12 =>
 (σ8.ld (.n σ.next) 2).bind fun w13 =>
 (AV.asI .i64 w13).bind fun n14 =>
 (σ8.ld (.n σ.next) 3).bind fun w15 =>
 (AV.asI .i64 w15).bind fun n16 =>
 (σ8.ld (.n σ.next) 4).bind fun w17 =>
 (AV.asI .i64 w17).bind fun n18 =>
 (k235 [(.agg [(.p p10), (.i .i64 n12), (.i .i64 n14), (.i .i64 n16), (.i .i64 n18)])] σ8).bind fun r19 =>
 (AV.asB r19.1).bind fun b20 =>
 (bif (!b20) then
 some ((.i .i64 1), r19.2)
 else ((bif ((decide (n6 < 1)) == false) then
 (r19.2.ld (.n σ.next) 0).bind fun w21 =>
 (AV.asP w21).bind fun p22 =>
 (r19.2.ld (.n σ.next) 1).bind fun w23 =>
 (AV.asI .i64 w23).bind fun n24 =>
 (r19.2.ld (.n σ.next) 2).bind fun w25 =>
 (AV.asI .i64 w25).bind fun n26 =>
 (r19.2.ld (.n σ.next) 3).bind fun w27 =>
 (AV.asI .i64 w27).bind fun n28 =>
 (r19.2.ld (.n σ.next) 4).bind fun w29 =>
 (AV.asI .i64 w29).bind fun n30 =>
 (k261 [(.agg [(.p p22), (.i .i64 n24), (.i .i64 n26), (.i .i64 n28), (.i .i64 n30)])] r19.2).bind fun r31 =>
 (AV.asI .i64 r31.1).bind fun n32 =>
 some ([(.b (decide (n6 > n32)))], r31.2)
 else some ([(.b true)], r19.2)) : Option (List AV × AH O)).bind fun r33 =>
 (AV.asB (r33.1.getD 0 .u)).bind fun b34 =>
 (bif b34 then
 some ((.i .i64 2), r33.2)
 else some ((.i .i64 0), r33.2)))
 else none
noncomputable def chain_Table__check {O : Type} : Sm O := chain_Table__check_c chain_Table__Right chain_Table__Entries
theorem chain_Table__check_ent : Entered Try.prog 213 := Try.call213
theorem chain_Table__check_run {O : Type} (k235 k261 : Sm O) : run (O := O) Try.prog [(235, k235), (261, k261)] Try.f213 (.n .z (.n (.n (.n .z (.n .z (.n (.g [(2, 4, [(17, .one .b)])]) (.n .z .z)))) .z) .z)) = chain_Table__check_c k235 k261 := by kernel_rfl
theorem chain_Table__check_sound {O : Type} {RO : O → Loc → (Nat → Option Obj) → Prop} : FSound RO Try.prog 213 (chain_Table__check) :=
   have h : FSound RO Try.prog 213 (chain_Table__check_c chain_Table__Right chain_Table__Entries) := (chain_Table__check_run chain_Table__Right chain_Table__Entries) ▸ run_sound (gcons chain_Table__Right_ent (chain_Table__Right_sound) <| gcons chain_Table__Entries_ent (chain_Table__Entries_sound) <| gnil) mixed Try.func213 (by kernel_rfl) _
   h

/-- (haymow/chain.Table).at -/
noncomputable def chain_Table__at_c {O : Type} : Sm O := fun xs σ =>
 bif Nat.beq xs.length 3 then
 (AV.asAgg 5 (xs.getD 0 .u)).bind fun c0 =>
 (AV.asP (c0.getD 0 .u)).bind fun p1 =>
 (AV.asI .i64 (c0.getD 1 .u)).bind fun n2 =>
 (AV.asI .i64 (c0.getD 2 .u)).bind fun n3 =>
 (AV.asI .i64 (c0.getD 3 .u)).bind fun n4 =>
 (AV.asI .i64 (c0.getD 4 .u)).bind fun n5 =>
 (AV.asI .i64 (xs.getD 1 .u)).bind fun n6 =>
 (AV.asI .i64 (xs.getD 2 .u)).bind fun n7 =>
 let σ8 := σ.bump 1
 let σ9 := σ8.put σ.next (.cells true 206 [(.p p1), (.i .i64 n2), (.i .i64 n3), (.i .i64 n4), (.i .i64 n5)])
 (σ9.ld (.n σ.next) 2).bind fun w10 =>
 (AV.asI .i64 w10).bind fun n11 =>
 let v12 : Int := (IntKind.i64.wrap ((IntKind.i64.wrap (n6 - 1)) * n11))
 some ((.i .i64 (IntKind.i64.wrap (v12 + n7))), σ9)
 else none
noncomputable def chain_Table__at {O : Type} : Sm O := chain_Table__at_c
theorem chain_Table__at_ent : Entered Try.prog 262 := Try.call262
theorem chain_Table__at_run {O : Type} : run (O := O) Try.prog [] Try.f262 (.n .z .z) = chain_Table__at_c  := by kernel_rfl
theorem chain_Table__at_sound {O : Type} {RO : O → Loc → (Nat → Option Obj) → Prop} : FSound RO Try.prog 262 (chain_Table__at) :=
   have h : FSound RO Try.prog 262 (chain_Table__at_c) := (chain_Table__at_run) ▸ run_sound (gnil) mixed Try.func262 (by kernel_rfl) _
   h

/-- (haymow/chain.Table).set -/
noncomputable def chain_Table__set_c {O : Type} (k262 k147 : Sm O) : Sm O := fun xs σ =>
 bif Nat.beq xs.length 4 then
 (AV.asAgg 5 (xs.getD 0 .u)).bind fun c0 =>
 (AV.asP (c0.getD 0 .u)).bind fun p1 =>
 (AV.asI .i64 (c0.getD 1 .u)).bind fun n2 =>
 (AV.asI .i64 (c0.getD 2 .u)).bind fun n3 =>
 (AV.asI .i64 (c0.getD 3 .u)).bind fun n4 =>
 (AV.asI .i64 (c0.getD 4 .u)).bind fun n5 =>
 (AV.asI .i64 (xs.getD 1 .u)).bind fun n6 =>
 (AV.asI .i64 (xs.getD 2 .u)).bind fun n7 =>
 (AV.asI .i64 (xs.getD 3 .u)).bind fun n8 =>
 let σ9 := σ.bump 1
 let σ10 := σ9.put σ.next (.cells true 206 [(.p p1), (.i .i64 n2), (.i .i64 n3), (.i .i64 n4), (.i .i64 n5)])
 (σ10.ld (.n σ.next) 0).bind fun w11 =>
 (AV.asP w11).bind fun p12 =>
 (σ10.ld (.n σ.next) 1).bind fun w13 =>
 (AV.asI .i64 w13).bind fun n14 =>
 (σ10.ld (.n σ.next) 0).bind fun w15 =>
 (AV.asP w15).bind fun p16 =>
 (σ10.ld (.n σ.next) 1).bind fun w17 =>
 (AV.asI .i64 w17).bind fun n18 =>
 (σ10.ld (.n σ.next) 2).bind fun w19 =>
 (AV.asI .i64 w19).bind fun n20 =>
 (σ10.ld (.n σ.next) 3).bind fun w21 =>
 (AV.asI .i64 w21).bind fun n22 =>
 (σ10.ld (.n σ.next) 4).bind fun w23 =>
 (AV.asI .i64 w23).bind fun n24 =>
 (k262 [(.agg [(.p p16), (.i .i64 n18), (.i .i64 n20), (.i .i64 n22), (.i .i64 n24)]), (.i .i64 n6), (.i .i64 n7)] σ10).bind fun r25 =>
 (AV.asI .i64 r25.1).bind fun n26 =>
 (chk (r25.2.ld (.n σ.next) 0 = some (.p p12))).bind fun _ =>
 (chk (r25.2.ld (.n σ.next) 1 = some (.i .i64 n14))).bind fun _ =>
 (k147 [(.p p12), (.i .i64 n14), (.i .i64 n26), (.i .u64 (IntKind.u64.wrap n8))] r25.2).bind fun r27 =>
 (AV.asI .i64 r27.1).bind fun n28 =>
 some ((.tup []), r27.2)
 else none
noncomputable def chain_Table__set {O : Type} : Sm O := chain_Table__set_c chain_Table__at mem_Mem__Write
theorem chain_Table__set_ent : Entered Try.prog 215 := Try.call215
theorem chain_Table__set_run {O : Type} (k262 k147 : Sm O) : run (O := O) Try.prog [(262, k262), (147, k147)] Try.f215 (.n .z (.d [] [0, 1, 2, 3, 4, 5, 6, 8, 9, 7, 10] [0, 1, 0, 4, 0, 0, 0, 112, 0, 256, 1023])) = chain_Table__set_c k262 k147 := by kernel_rfl
theorem chain_Table__set_sound {O : Type} {RO : O → Loc → (Nat → Option Obj) → Prop} : FSound RO Try.prog 215 (chain_Table__set) :=
   have h : FSound RO Try.prog 215 (chain_Table__set_c chain_Table__at mem_Mem__Write) := (chain_Table__set_run chain_Table__at mem_Mem__Write) ▸ run_sound (gcons chain_Table__at_ent (chain_Table__at_sound) <| gcons mem_Mem__Write_ent (mem_Mem__Write_sound) <| gnil) mixed Try.func215 (by kernel_rfl) _
   h

/-- (haymow/chain.Table).Push -/
noncomputable def chain_Table__Push_c {O : Type} (k213 k215 : Sm O) : Sm O := fun xs σ =>
 bif Nat.beq xs.length 3 then
 (AV.asAgg 5 (xs.getD 0 .u)).bind fun c0 =>
 (AV.asP (c0.getD 0 .u)).bind fun p1 =>
 (AV.asI .i64 (c0.getD 1 .u)).bind fun n2 =>
 (AV.asI .i64 (c0.getD 2 .u)).bind fun n3 =>
 (AV.asI .i64 (c0.getD 3 .u)).bind fun n4 =>
 (AV.asI .i64 (c0.getD 4 .u)).bind fun n5 =>
 (AV.asAgg 3 (xs.getD 1 .u)).bind fun c6 =>
 (AV.asI .i64 (c6.getD 0 .u)).bind fun n7 =>
 (AV.asI .i64 (c6.getD 1 .u)).bind fun n8 =>
 (AV.asI .i64 (c6.getD 2 .u)).bind fun n9 =>
 (AV.asI .i64 (xs.getD 2 .u)).bind fun n10 =>
 let σ11 := σ.bump 3
 let σ12 := σ11.put σ.next (.cells true 206 [(.p p1), (.i .i64 n2), (.i .i64 n3), (.i .i64 n4), (.i .i64 n5)])
 let σ13 := σ12.put (σ.next + 1) (.cells true 200 [(.i .i64 n7), (.i .i64 n8), (.i .i64 n9)])
 let σ14 := σ13.put ((σ.next + 1) + 1) (.cells true 200 [(.i .i64 0), (.i .i64 0), (.i .i64 0)])
 (σ14.ld (.n σ.next) 0).bind fun w15 =>
 (AV.asP w15).bind fun p16 =>
 (σ14.ld (.n σ.next) 1).bind fun w17 =>
 (AV.asI .i64 w17).bind fun n18 =>
 (σ14.ld (.n σ.next) 2).bind fun w19 =>
 (AV.asI .i64 w19).bind fun n20 =>
 (σ14.ld (.n σ.next) 3).bind fun w21 =>
 (AV.asI .i64 w21).bind fun n22 =>
 (σ14.ld (.n σ.next) 4).bind fun w23 =>
 (AV.asI .i64 w23).bind fun n24 =>
 (k213 [(.agg [(.p p16), (.i .i64 n18), (.i .i64 n20), (.i .i64 n22), (.i .i64 n24)]), (.i .i64 n10)] σ14).bind fun r25 =>
 (AV.asI .i64 r25.1).bind fun n26 =>
 (bif ((n26 : Int) != 0) then
 (r25.2.ld (.n (σ.next + 1)) 0).bind fun w27 =>
 (AV.asI .i64 w27).bind fun n28 =>
 (r25.2.ld (.n (σ.next + 1)) 1).bind fun w29 =>
 (AV.asI .i64 w29).bind fun n30 =>
 (r25.2.ld (.n (σ.next + 1)) 2).bind fun w31 =>
 (AV.asI .i64 w31).bind fun n32 =>
 (r25.2.st (.n ((σ.next + 1) + 1)) 0 [(.i .i64 n28), (.i .i64 n30), (.i .i64 n32)]).bind fun σ33 =>
 (σ33.ld (.n ((σ.next + 1) + 1)) 0).bind fun w34 =>
 (AV.asI .i64 w34).bind fun n35 =>
 (σ33.ld (.n ((σ.next + 1) + 1)) 1).bind fun w36 =>
 (AV.asI .i64 w36).bind fun n37 =>
 (σ33.ld (.n ((σ.next + 1) + 1)) 2).bind fun w38 =>
 (AV.asI .i64 w38).bind fun n39 =>
 some ((.tup [(.agg [(.i .i64 n35), (.i .i64 n37), (.i .i64 n39)]), (.i .i64 n26)]), σ33)
 else (r25.2.ld (.n σ.next) 0).bind fun w40 =>
 (AV.asP w40).bind fun p41 =>
 (r25.2.ld (.n σ.next) 1).bind fun w42 =>
 (AV.asI .i64 w42).bind fun n43 =>
 (r25.2.ld (.n σ.next) 2).bind fun w44 =>
 (AV.asI .i64 w44).bind fun n45 =>
 (r25.2.ld (.n σ.next) 3).bind fun w46 =>
 (AV.asI .i64 w46).bind fun n47 =>
 (r25.2.ld (.n σ.next) 4).bind fun w48 =>
 (AV.asI .i64 w48).bind fun n49 =>
 (r25.2.ld (.n σ.next) 4).bind fun w50 =>
 (AV.asI .i64 w50).bind fun n51 =>
 (r25.2.ld (.n (σ.next + 1)) 1).bind fun w52 =>
 (AV.asI .i64 w52).bind fun n53 =>
 (k215 [(.agg [(.p p41), (.i .i64 n43), (.i .i64 n45), (.i .i64 n47), (.i .i64 n49)]), (.i .i64 n10), (.i .i64 n51), (.i .i64 n53)] r25.2).bind fun r54 =>
 (AV.asTup 0 r54.1).bind fun c55 =>
 (r54.2.ld (.n σ.next) 0).bind fun w56 =>
 (AV.asP w56).bind fun p57 =>
 (r54.2.ld (.n σ.next) 1).bind fun w58 =>
 (AV.asI .i64 w58).bind fun n59 =>
 (r54.2.ld (.n σ.next) 2).bind fun w60 =>
 (AV.asI .i64 w60).bind fun n61 =>
 (r54.2.ld (.n σ.next) 3).bind fun w62 =>
 (AV.asI .i64 w62).bind fun n63 =>
 (r54.2.ld (.n σ.next) 4).bind fun w64 =>
 (AV.asI .i64 w64).bind fun n65 =>
 (r54.2.ld (.n σ.next) 3).bind fun w66 =>
 (AV.asI .i64 w66).bind fun n67 =>
 (k215 [(.agg [(.p p57), (.i .i64 n59), (.i .i64 n61), (.i .i64 n63), (.i .i64 n65)]), (.i .i64 n10), (.i .i64 n67), (.i .i64 0)] r54.2).bind fun r68 =>
 (AV.asTup 0 r68.1).bind fun c69 =>
 (r68.2.ld (.n (σ.next + 1)) 2).bind fun w70 =>
 (AV.asI .i64 w70).bind fun n71 =>
 (bif ((n71 : Int) == 0) then
 (r68.2.st (.n ((σ.next + 1) + 1)) 0 [(.i .i64 n10), (.i .i64 n10), (.i .i64 1)]).bind fun σ72 =>
 (σ72.ld (.n ((σ.next + 1) + 1)) 0).bind fun w73 =>
 (AV.asI .i64 w73).bind fun n74 =>
 (σ72.ld (.n ((σ.next + 1) + 1)) 1).bind fun w75 =>
 (AV.asI .i64 w75).bind fun n76 =>
 (σ72.ld (.n ((σ.next + 1) + 1)) 2).bind fun w77 =>
 (AV.asI .i64 w77).bind fun n78 =>
 some ((.tup [(.agg [(.i .i64 n74), (.i .i64 n76), (.i .i64 n78)]), (.i .i64 0)]), σ72)
 else (r68.2.ld (.n σ.next) 0).bind fun w79 =>
 (AV.asP w79).bind fun p80 =>
 (r68.2.ld (.n σ.next) 1).bind fun w81 =>
 (AV.asI .i64 w81).bind fun n82 =>
 (r68.2.ld (.n σ.next) 2).bind fun w83 =>
 (AV.asI .i64 w83).bind fun n84 =>
 (r68.2.ld (.n σ.next) 3).bind fun w85 =>
 (AV.asI .i64 w85).bind fun n86 =>
 (r68.2.ld (.n σ.next) 4).bind fun w87 =>
 (AV.asI .i64 w87).bind fun n88 =>
 (r68.2.ld (.n (σ.next + 1)) 1).bind fun w89 =>
 (AV.asI .i64 w89).bind fun n90 =>
 (r68.2.ld (.n σ.next) 3).bind fun w91 =>
 (AV.asI .i64 w91).bind fun n92 =>
 (k215 [(.agg [(.p p80), (.i .i64 n82), (.i .i64 n84), (.i .i64 n86), (.i .i64 n88)]), (.i .i64 n90), (.i .i64 n92), (.i .i64 n10)] r68.2).bind fun r93 =>
 (AV.asTup 0 r93.1).bind fun c94 =>
 (r93.2.ld (.n (σ.next + 1)) 0).bind fun w95 =>
 (AV.asI .i64 w95).bind fun n96 =>
 (r93.2.ld (.n (σ.next + 1)) 2).bind fun w97 =>
 (AV.asI .i64 w97).bind fun n98 =>
 (r93.2.st (.n ((σ.next + 1) + 1)) 0 [(.i .i64 n96), (.i .i64 n10), (.i .i64 (IntKind.i64.wrap (n98 + 1)))]).bind fun σ99 =>
 (σ99.ld (.n ((σ.next + 1) + 1)) 0).bind fun w100 =>
 (AV.asI .i64 w100).bind fun n101 =>
 (σ99.ld (.n ((σ.next + 1) + 1)) 1).bind fun w102 =>
 (AV.asI .i64 w102).bind fun n103 =>
 (σ99.ld (.n ((σ.next + 1) + 1)) 2).bind fun w104 =>
 (AV.asI .i64 w104).bind fun n105 =>
 some ((.tup [(.agg [(.i .i64 n101), (.i .i64 n103), (.i .i64 n105)]), (.i .i64 0)]), σ99)))
 else none
noncomputable def chain_Table__Push {O : Type} : Sm O := chain_Table__Push_c chain_Table__check chain_Table__set
theorem chain_Table__Push_ent : Entered Try.prog 118 := Try.call118
theorem chain_Table__Push_run {O : Type} (k213 k215 : Sm O) : run (O := O) Try.prog [(213, k213), (215, k215)] Try.f118 (.n .z (.n (.n .z (.n .z (.n .z .z))) (.n .z (.n .z (.n (.n .z (.n .z .z)) (.n .z .z)))))) = chain_Table__Push_c k213 k215 := by kernel_rfl
theorem chain_Table__Push_sound {O : Type} {RO : O → Loc → (Nat → Option Obj) → Prop} : FSound RO Try.prog 118 (chain_Table__Push) :=
   have h : FSound RO Try.prog 118 (chain_Table__Push_c chain_Table__check chain_Table__set) := (chain_Table__Push_run chain_Table__check chain_Table__set) ▸ run_sound (gcons chain_Table__check_ent (chain_Table__check_sound) <| gcons chain_Table__set_ent (chain_Table__set_sound) <| gnil) mixed Try.func118 (by kernel_rfl) _
   h

/-- (*haymow/pool.Pool).Gen -/
noncomputable def pool_Pool__Gen_c {O : Type} (k216 : Sm O) : Sm O := fun xs σ =>
 bif Nat.beq xs.length 2 then
 (AV.asP (xs.getD 0 .u)).bind fun p0 =>
 (AV.asI .i64 (xs.getD 1 .u)).bind fun n1 =>
 (k216 [(.p p0), (.i .i64 n1)] σ).bind fun r2 =>
 (AV.asTup 2 r2.1).bind fun c3 =>
 (AV.asI .u64 (c3.getD 0 .u)).bind fun n4 =>
 (AV.asB (c3.getD 1 .u)).bind fun b5 =>
 some ((.i .i64 (IntKind.i64.wrap (Int.fdiv n4 (2 ^ 1)))), r2.2)
 else none
noncomputable def pool_Pool__Gen {O : Type} : Sm O := pool_Pool__Gen_c pool_Pool__look
theorem pool_Pool__Gen_ent : Entered Try.prog 120 := Try.call120
theorem pool_Pool__Gen_run {O : Type} (k216 : Sm O) : run (O := O) Try.prog [(216, k216)] Try.f120 (.n .z (.n .z .z)) = pool_Pool__Gen_c k216 := by kernel_rfl
theorem pool_Pool__Gen_sound {O : Type} {RO : O → Loc → (Nat → Option Obj) → Prop} : FSound RO Try.prog 120 (pool_Pool__Gen) :=
   have h : FSound RO Try.prog 120 (pool_Pool__Gen_c pool_Pool__look) := (pool_Pool__Gen_run pool_Pool__look) ▸ run_sound (gcons pool_Pool__look_ent (pool_Pool__look_sound) <| gnil) mixed Try.func120 (by kernel_rfl) _
   h

/-- haymow/handles.token -/
noncomputable def handles_token_c {O : Type} : Sm O := fun xs σ =>
 bif Nat.beq xs.length 2 then
 (AV.asI .i64 (xs.getD 0 .u)).bind fun n0 =>
 (AV.asI .i64 (xs.getD 1 .u)).bind fun n1 =>
 let v2 : Int := (ibits .or .i64 (IntKind.i64.wrap (n1 * 2 ^ 20)) (IntKind.i64.wrap (n0 - 1)))
 some ((.i .i64 v2), σ)
 else none
noncomputable def handles_token {O : Type} : Sm O := handles_token_c
theorem handles_token_ent : Entered Try.prog 119 := Try.call119
theorem handles_token_run {O : Type} : run (O := O) Try.prog [] Try.f119 (.n .z .z) = handles_token_c  := by kernel_rfl
theorem handles_token_sound {O : Type} {RO : O → Loc → (Nat → Option Obj) → Prop} : FSound RO Try.prog 119 (handles_token) :=
   have h : FSound RO Try.prog 119 (handles_token_c) := (handles_token_run) ▸ run_sound (gnil) mixed Try.func119 (by kernel_rfl) _
   h

/-- (*haymow/handles.Handles).Add -/
noncomputable def handles_Handles__Add_c {O : Type} (k116 k117 k113 k118 k120 k119 : Sm O) : Sm O := fun xs σ =>
 bif Nat.beq xs.length 2 then
 (AV.asP (xs.getD 0 .u)).bind fun p0 =>
 (AV.asI .u64 (xs.getD 1 .u)).bind fun n1 =>
 Option.bind p0 fun q2 =>
 (σ.ld q2.1 q2.2).bind fun w3 =>
 (AV.asP w3).bind fun p4 =>
 (k116 [(.p p4)] σ).bind fun r5 =>
 (AV.asTup 2 r5.1).bind fun c6 =>
 (AV.asI .i64 (c6.getD 0 .u)).bind fun n7 =>
 (AV.asI .i64 (c6.getD 1 .u)).bind fun n8 =>
 (bif ((n8 : Int) != 0) then
 some ((.tup [(.i .i64 0), (.i .i64 n8)]), r5.2)
 else Option.bind p0 fun q9 =>
 (r5.2.ld q9.1 q9.2).bind fun w10 =>
 (AV.asP w10).bind fun p11 =>
 (k117 [(.p p11), (.i .i64 n7), (.i .i64 0), (.i .u64 n1)] r5.2).bind fun r12 =>
 (AV.asI .i64 r12.1).bind fun n13 =>
 Option.bind p0 fun q14 =>
 (r12.2.ld q14.1 (q14.2 + 1)).bind fun w15 =>
 (AV.asI .i64 w15).bind fun n16 =>
 (r12.2.ld q14.1 ((q14.2 + 1) + 1)).bind fun w17 =>
 (AV.asI .i64 w17).bind fun n18 =>
 (r12.2.ld q14.1 (((q14.2 + 1) + 1) + 1)).bind fun w19 =>
 (AV.asI .i64 w19).bind fun n20 =>
 (k113 [(.p p0)] r12.2).bind fun r21 =>
 (AV.asAgg 5 r21.1).bind fun c22 =>
 (AV.asP (c22.getD 0 .u)).bind fun p23 =>
 (AV.asI .i64 (c22.getD 1 .u)).bind fun n24 =>
 (AV.asI .i64 (c22.getD 2 .u)).bind fun n25 =>
 (AV.asI .i64 (c22.getD 3 .u)).bind fun n26 =>
 (AV.asI .i64 (c22.getD 4 .u)).bind fun n27 =>
 (chk (r21.2.ld q14.1 (q14.2 + 1) = some (.i .i64 n16))).bind fun _ =>
 (chk (r21.2.ld q14.1 ((q14.2 + 1) + 1) = some (.i .i64 n18))).bind fun _ =>
 (chk (r21.2.ld q14.1 (((q14.2 + 1) + 1) + 1) = some (.i .i64 n20))).bind fun _ =>
 (k118 [(.agg [(.p p23), (.i .i64 n24), (.i .i64 n25), (.i .i64 n26), (.i .i64 n27)]), (.agg [(.i .i64 n16), (.i .i64 n18), (.i .i64 n20)]), (.i .i64 n7)] r21.2).bind fun r28 =>
 (AV.asTup 2 r28.1).bind fun c29 =>
 (AV.asAgg 3 (c29.getD 0 .u)).bind fun c30 =>
 (AV.asI .i64 (c30.getD 0 .u)).bind fun n31 =>
 (AV.asI .i64 (c30.getD 1 .u)).bind fun n32 =>
 (AV.asI .i64 (c30.getD 2 .u)).bind fun n33 =>
 (AV.asI .i64 (c29.getD 1 .u)).bind fun n34 =>
 Option.bind p0 fun q35 =>
 (r28.2.st q35.1 (q35.2 + 1) [(.i .i64 n31), (.i .i64 n32), (.i .i64 n33)]).bind fun σ36 =>
 Option.bind p0 fun q37 =>
 (σ36.ld q37.1 q37.2).bind fun w38 =>
 (AV.asP w38).bind fun p39 =>
 (k120 [(.p p39), (.i .i64 n7)] σ36).bind fun r40 =>
 (AV.asI .i64 r40.1).bind fun n41 =>
 (k119 [(.i .i64 n7), (.i .i64 n41)] r40.2).bind fun r42 =>
 (AV.asI .i64 r42.1).bind fun n43 =>
 some ((.tup [(.i .i64 n43), (.i .i64 0)]), r42.2))
 else none
noncomputable def handles_Handles__Add {O : Type} : Sm O := handles_Handles__Add_c pool_Pool__Take pool_Pool__Set handles_Handles__table chain_Table__Push pool_Pool__Gen handles_token
theorem handles_Handles__Add_ent : Entered Try.prog 24 := Try.call24
theorem handles_Handles__Add_run {O : Type} (k116 k117 k113 k118 k120 k119 : Sm O) : run (O := O) Try.prog [(116, k116), (117, k117), (113, k113), (118, k118), (120, k120), (119, k119)] Try.f24 (.n .z (.n .z (.n (.n .z (.n .z .z)) (.n .z (.n (.d [] [0, 1, 3, 4, 5, 6, 7, 2, 8, 9, 10, 11, 12, 13, 14] [0, 0, 2, 0, 8, 24, 56, 0, 254, 510, 1022, 1022, 2047, 6143, 14335]) .z))))) = handles_Handles__Add_c k116 k117 k113 k118 k120 k119 := by kernel_rfl
theorem handles_Handles__Add_sound {O : Type} {RO : O → Loc → (Nat → Option Obj) → Prop} : FSound RO Try.prog 24 (handles_Handles__Add) :=
   have h : FSound RO Try.prog 24 (handles_Handles__Add_c pool_Pool__Take pool_Pool__Set handles_Handles__table chain_Table__Push pool_Pool__Gen handles_token) := (handles_Handles__Add_run pool_Pool__Take pool_Pool__Set handles_Handles__table chain_Table__Push pool_Pool__Gen handles_token) ▸ run_sound (gcons pool_Pool__Take_ent (pool_Pool__Take_sound) <| gcons pool_Pool__Set_ent (pool_Pool__Set_sound) <| gcons handles_Handles__table_ent (handles_Handles__table_sound) <| gcons chain_Table__Push_ent (chain_Table__Push_sound) <| gcons pool_Pool__Gen_ent (pool_Pool__Gen_sound) <| gcons handles_token_ent (handles_token_sound) <| gnil) mixed Try.func24 (by kernel_rfl) _
   h

/-- (*haymow/handles.Handles).id -/
noncomputable def handles_Handles__id_c {O : Type} (k211 k120 : Sm O) : Sm O := fun xs σ =>
 bif Nat.beq xs.length 2 then
 (AV.asP (xs.getD 0 .u)).bind fun p0 =>
 (AV.asI .i64 (xs.getD 1 .u)).bind fun n1 =>
 let v2 : Int := (IntKind.i64.wrap ((ibits .and .i64 n1 1048575) + 1))
 ((bif ((decide (n1 < 0)) == false) then
 Option.bind p0 fun q3 =>
 (σ.ld q3.1 q3.2).bind fun w4 =>
 (AV.asP w4).bind fun p5 =>
 (k211 [(.p p5), (.i .i64 v2)] σ).bind fun r6 =>
 (AV.asB r6.1).bind fun b7 =>
 some ([(.b (!b7))], r6.2)
 else some ([(.b true)], σ)) : Option (List AV × AH O)).bind fun r8 =>
 (AV.asB (r8.1.getD 0 .u)).bind fun b9 =>
 ((bif (b9 == false) then
 Option.bind p0 fun q10 =>
 (r8.2.ld q10.1 q10.2).bind fun w11 =>
 (AV.asP w11).bind fun p12 =>
 (k120 [(.p p12), (.i .i64 v2)] r8.2).bind fun r13 =>
 (AV.asI .i64 r13.1).bind fun n14 =>
 some ([(.b ((n14 : Int) != (Int.fdiv n1 (2 ^ 20))))], r13.2)
 else some ([(.b true)], r8.2)) : Option (List AV × AH O)).bind fun r15 =>
 (AV.asB (r15.1.getD 0 .u)).bind fun b16 =>
 (bif b16 then
 some ((.tup [(.i .i64 0), (.i .i64 30)]), r15.2)
 else some ((.tup [(.i .i64 v2), (.i .i64 0)]), r15.2))
 else none
noncomputable def handles_Handles__id {O : Type} : Sm O := handles_Handles__id_c pool_Pool__Taken pool_Pool__Gen
theorem handles_Handles__id_ent : Entered Try.prog 112 := Try.call112
theorem handles_Handles__id_run {O : Type} (k211 k120 : Sm O) : run (O := O) Try.prog [(211, k211), (120, k120)] Try.f112 (.n .z (.n .z (.n (.n (.g [(2, 7, [(20, .one .b)]), (11, 9, [(31, .one .b)])]) (.n .z .z)) .z))) = handles_Handles__id_c k211 k120 := by kernel_rfl
theorem handles_Handles__id_sound {O : Type} {RO : O → Loc → (Nat → Option Obj) → Prop} : FSound RO Try.prog 112 (handles_Handles__id) :=
   have h : FSound RO Try.prog 112 (handles_Handles__id_c pool_Pool__Taken pool_Pool__Gen) := (handles_Handles__id_run pool_Pool__Taken pool_Pool__Gen) ▸ run_sound (gcons pool_Pool__Taken_ent (pool_Pool__Taken_sound) <| gcons pool_Pool__Gen_ent (pool_Pool__Gen_sound) <| gnil) mixed Try.func112 (by kernel_rfl) _
   h

/-- (haymow/chain.Table).get -/
noncomputable def chain_Table__get_c {O : Type} (k262 k149 : Sm O) : Sm O := fun xs σ =>
 bif Nat.beq xs.length 3 then
 (AV.asAgg 5 (xs.getD 0 .u)).bind fun c0 =>
 (AV.asP (c0.getD 0 .u)).bind fun p1 =>
 (AV.asI .i64 (c0.getD 1 .u)).bind fun n2 =>
 (AV.asI .i64 (c0.getD 2 .u)).bind fun n3 =>
 (AV.asI .i64 (c0.getD 3 .u)).bind fun n4 =>
 (AV.asI .i64 (c0.getD 4 .u)).bind fun n5 =>
 (AV.asI .i64 (xs.getD 1 .u)).bind fun n6 =>
 (AV.asI .i64 (xs.getD 2 .u)).bind fun n7 =>
 let σ8 := σ.bump 1
 let σ9 := σ8.put σ.next (.cells true 206 [(.p p1), (.i .i64 n2), (.i .i64 n3), (.i .i64 n4), (.i .i64 n5)])
 (σ9.ld (.n σ.next) 0).bind fun w10 =>
 (AV.asP w10).bind fun p11 =>
 (σ9.ld (.n σ.next) 1).bind fun w12 =>
 (AV.asI .i64 w12).bind fun n13 =>
 (σ9.ld (.n σ.next) 0).bind fun w14 =>
 (AV.asP w14).bind fun p15 =>
 (σ9.ld (.n σ.next) 1).bind fun w16 =>
 (AV.asI .i64 w16).bind fun n17 =>
 (σ9.ld (.n σ.next) 2).bind fun w18 =>
 (AV.asI .i64 w18).bind fun n19 =>
 (σ9.ld (.n σ.next) 3).bind fun w20 =>
 (AV.asI .i64 w20).bind fun n21 =>
 (σ9.ld (.n σ.next) 4).bind fun w22 =>
 (AV.asI .i64 w22).bind fun n23 =>
 (k262 [(.agg [(.p p15), (.i .i64 n17), (.i .i64 n19), (.i .i64 n21), (.i .i64 n23)]), (.i .i64 n6), (.i .i64 n7)] σ9).bind fun r24 =>
 (AV.asI .i64 r24.1).bind fun n25 =>
 (chk (r24.2.ld (.n σ.next) 0 = some (.p p11))).bind fun _ =>
 (chk (r24.2.ld (.n σ.next) 1 = some (.i .i64 n13))).bind fun _ =>
 (k149 [(.p p11), (.i .i64 n13), (.i .i64 n25)] r24.2).bind fun r26 =>
 (AV.asTup 2 r26.1).bind fun c27 =>
 (AV.asI .u64 (c27.getD 0 .u)).bind fun n28 =>
 (AV.asI .i64 (c27.getD 1 .u)).bind fun n29 =>
 some ((.i .i64 (IntKind.i64.wrap n28)), r26.2)
 else none
noncomputable def chain_Table__get {O : Type} : Sm O := chain_Table__get_c chain_Table__at mem_Mem__Read
theorem chain_Table__get_ent : Entered Try.prog 214 := Try.call214
theorem chain_Table__get_run {O : Type} (k262 k149 : Sm O) : run (O := O) Try.prog [(262, k262), (149, k149)] Try.f214 (.n .z (.n (.d [] [0, 1, 2, 3, 4, 5, 6, 7, 8, 9, 10, 11, 12, 13] [0, 1, 0, 4, 0, 0, 0, 112, 255, 511, 1023, 1023, 2047, 8191]) .z)) = chain_Table__get_c k262 k149 := by kernel_rfl
theorem chain_Table__get_sound {O : Type} {RO : O → Loc → (Nat → Option Obj) → Prop} : FSound RO Try.prog 214 (chain_Table__get) :=
   have h : FSound RO Try.prog 214 (chain_Table__get_c chain_Table__at mem_Mem__Read) := (chain_Table__get_run chain_Table__at mem_Mem__Read) ▸ run_sound (gcons chain_Table__at_ent (chain_Table__at_sound) <| gcons mem_Mem__Read_ent (mem_Mem__Read_sound) <| gnil) mixed Try.func214 (by kernel_rfl) _
   h

/-- (haymow/chain.Table).Drop -/
noncomputable def chain_Table__Drop_c {O : Type} (k213 k214 k215 : Sm O) : Sm O := fun xs σ =>
 bif Nat.beq xs.length 3 then
 (AV.asAgg 5 (xs.getD 0 .u)).bind fun c0 =>
 (AV.asP (c0.getD 0 .u)).bind fun p1 =>
 (AV.asI .i64 (c0.getD 1 .u)).bind fun n2 =>
 (AV.asI .i64 (c0.getD 2 .u)).bind fun n3 =>
 (AV.asI .i64 (c0.getD 3 .u)).bind fun n4 =>
 (AV.asI .i64 (c0.getD 4 .u)).bind fun n5 =>
 (AV.asAgg 3 (xs.getD 1 .u)).bind fun c6 =>
 (AV.asI .i64 (c6.getD 0 .u)).bind fun n7 =>
 (AV.asI .i64 (c6.getD 1 .u)).bind fun n8 =>
 (AV.asI .i64 (c6.getD 2 .u)).bind fun n9 =>
 (AV.asI .i64 (xs.getD 2 .u)).bind fun n10 =>
 let σ11 := σ.bump 3
 let σ12 := σ11.put σ.next (.cells true 206 [(.p p1), (.i .i64 n2), (.i .i64 n3), (.i .i64 n4), (.i .i64 n5)])
 let σ13 := σ12.put (σ.next + 1) (.cells true 200 [(.i .i64 n7), (.i .i64 n8), (.i .i64 n9)])
 let σ14 := σ13.put ((σ.next + 1) + 1) (.cells true 200 [(.i .i64 0), (.i .i64 0), (.i .i64 0)])
 (σ14.ld (.n σ.next) 0).bind fun w15 =>
 (AV.asP w15).bind fun p16 =>
 (σ14.ld (.n σ.next) 1).bind fun w17 =>
 (AV.asI .i64 w17).bind fun n18 =>
 (σ14.ld (.n σ.next) 2).bind fun w19 =>
 (AV.asI .i64 w19).bind fun n20 =>
 (σ14.ld (.n σ.next) 3).bind fun w21 =>
 (AV.asI .i64 w21).bind fun n22 =>
 (σ14.ld (.n σ.next) 4).bind fun w23 =>
 (AV.asI .i64 w23).bind fun n24 =>
 (k213 [(.agg [(.p p16), (.i .i64 n18), (.i .i64 n20), (.i .i64 n22), (.i .i64 n24)]), (.i .i64 n10)] σ14).bind fun r25 =>
 (AV.asI .i64 r25.1).bind fun n26 =>
 (bif ((n26 : Int) != 0) then
 (r25.2.ld (.n (σ.next + 1)) 0).bind fun w27 =>
 (AV.asI .i64 w27).bind fun n28 =>
 (r25.2.ld (.n (σ.next + 1)) 1).bind fun w29 =>
 (AV.asI .i64 w29).bind fun n30 =>
 (r25.2.ld (.n (σ.next + 1)) 2).bind fun w31 =>
 (AV.asI .i64 w31).bind fun n32 =>
 (r25.2.st (.n ((σ.next + 1) + 1)) 0 [(.i .i64 n28), (.i .i64 n30), (.i .i64 n32)]).bind fun σ33 =>
 (σ33.ld (.n ((σ.next + 1) + 1)) 0).bind fun w34 =>
 (AV.asI .i64 w34).bind fun n35 =>
 (σ33.ld (.n ((σ.next + 1) + 1)) 1).bind fun w36 =>
 (AV.asI .i64 w36).bind fun n37 =>
 (σ33.ld (.n ((σ.next + 1) + 1)) 2).bind fun w38 =>
 (AV.asI .i64 w38).bind fun n39 =>
 some ((.tup [(.agg [(.i .i64 n35), (.i .i64 n37), (.i .i64 n39)]), (.i .i64 n26)]), σ33)
 else (r25.2.ld (.n σ.next) 0).bind fun w40 =>
 (AV.asP w40).bind fun p41 =>
 (r25.2.ld (.n σ.next) 1).bind fun w42 =>
 (AV.asI .i64 w42).bind fun n43 =>
 (r25.2.ld (.n σ.next) 2).bind fun w44 =>
 (AV.asI .i64 w44).bind fun n45 =>
 (r25.2.ld (.n σ.next) 3).bind fun w46 =>
 (AV.asI .i64 w46).bind fun n47 =>
 (r25.2.ld (.n σ.next) 4).bind fun w48 =>
 (AV.asI .i64 w48).bind fun n49 =>
 (r25.2.ld (.n σ.next) 3).bind fun w50 =>
 (AV.asI .i64 w50).bind fun n51 =>
 (r25.2.ld (.n σ.next) 0).bind fun w52 =>
 (AV.asP w52).bind fun p53 =>
 (r25.2.ld (.n σ.next) 1).bind fun w54 =>
 (AV.asI .i64 w54).bind fun n55 =>
 (r25.2.ld (.n σ.next) 2).bind fun w56 =>
 (AV.asI .i64 w56).bind fun n57 =>
 (r25.2.ld (.n σ.next) 3).bind fun w58 =>
 (AV.asI .i64 w58).bind fun n59 =>
 (r25.2.ld (.n σ.next) 4).bind fun w60 =>
 (AV.asI .i64 w60).bind fun n61 =>
 (r25.2.ld (.n σ.next) 4).bind fun w62 =>
 (AV.asI .i64 w62).bind fun n63 =>
 (k214 [(.agg [(.p p41), (.i .i64 n43), (.i .i64 n45), (.i .i64 n47), (.i .i64 n49)]), (.i .i64 n10), (.i .i64 n51)] r25.2).bind fun r64 =>
 (AV.asI .i64 r64.1).bind fun n65 =>
 (chk (r64.2.ld (.n σ.next) 0 = some (.p p53))).bind fun _ =>
 (chk (r64.2.ld (.n σ.next) 1 = some (.i .i64 n55))).bind fun _ =>
 (chk (r64.2.ld (.n σ.next) 2 = some (.i .i64 n57))).bind fun _ =>
 (chk (r64.2.ld (.n σ.next) 3 = some (.i .i64 n59))).bind fun _ =>
 (chk (r64.2.ld (.n σ.next) 4 = some (.i .i64 n61))).bind fun _ =>
 (chk (r64.2.ld (.n σ.next) 4 = some (.i .i64 n63))).bind fun _ =>
 (k214 [(.agg [(.p p53), (.i .i64 n55), (.i .i64 n57), (.i .i64 n59), (.i .i64 n61)]), (.i .i64 n10), (.i .i64 n63)] r64.2).bind fun r66 =>
 (AV.asI .i64 r66.1).bind fun n67 =>
 ((bif ((n67 : Int) != 0) then
 (r66.2.ld (.n σ.next) 0).bind fun w68 =>
 (AV.asP w68).bind fun p69 =>
 (r66.2.ld (.n σ.next) 1).bind fun w70 =>
 (AV.asI .i64 w70).bind fun n71 =>
 (r66.2.ld (.n σ.next) 2).bind fun w72 =>
 (AV.asI .i64 w72).bind fun n73 =>
 (r66.2.ld (.n σ.next) 3).bind fun w74 =>
 (AV.asI .i64 w74).bind fun n75 =>
 (r66.2.ld (.n σ.next) 4).bind fun w76 =>
 (AV.asI .i64 w76).bind fun n77 =>
 (r66.2.ld (.n σ.next) 3).bind fun w78 =>
 (AV.asI .i64 w78).bind fun n79 =>
 (k215 [(.agg [(.p p69), (.i .i64 n71), (.i .i64 n73), (.i .i64 n75), (.i .i64 n77)]), (.i .i64 n67), (.i .i64 n79), (.i .i64 n65)] r66.2).bind fun r80 =>
 (AV.asTup 0 r80.1).bind fun c81 =>
 some ([], r80.2)
 else (r66.2.st (.n (σ.next + 1)) 0 [(.i .i64 n65)]).bind fun σ82 =>
 some ([], σ82)) : Option (List AV × AH O)).bind fun r83 =>
 ((bif ((n65 : Int) != 0) then
 (r83.2.ld (.n σ.next) 0).bind fun w84 =>
 (AV.asP w84).bind fun p85 =>
 (r83.2.ld (.n σ.next) 1).bind fun w86 =>
 (AV.asI .i64 w86).bind fun n87 =>
 (r83.2.ld (.n σ.next) 2).bind fun w88 =>
 (AV.asI .i64 w88).bind fun n89 =>
 (r83.2.ld (.n σ.next) 3).bind fun w90 =>
 (AV.asI .i64 w90).bind fun n91 =>
 (r83.2.ld (.n σ.next) 4).bind fun w92 =>
 (AV.asI .i64 w92).bind fun n93 =>
 (r83.2.ld (.n σ.next) 4).bind fun w94 =>
 (AV.asI .i64 w94).bind fun n95 =>
 (k215 [(.agg [(.p p85), (.i .i64 n87), (.i .i64 n89), (.i .i64 n91), (.i .i64 n93)]), (.i .i64 n65), (.i .i64 n95), (.i .i64 n67)] r83.2).bind fun r96 =>
 (AV.asTup 0 r96.1).bind fun c97 =>
 some ([], r96.2)
 else (r83.2.st (.n (σ.next + 1)) 1 [(.i .i64 n67)]).bind fun σ98 =>
 some ([], σ98)) : Option (List AV × AH O)).bind fun r99 =>
 (r99.2.ld (.n (σ.next + 1)) 2).bind fun w100 =>
 (AV.asI .i64 w100).bind fun n101 =>
 (r99.2.st (.n (σ.next + 1)) 2 [(.i .i64 (IntKind.i64.wrap (n101 - 1)))]).bind fun σ102 =>
 (σ102.ld (.n (σ.next + 1)) 0).bind fun w103 =>
 (AV.asI .i64 w103).bind fun n104 =>
 (σ102.ld (.n (σ.next + 1)) 1).bind fun w105 =>
 (AV.asI .i64 w105).bind fun n106 =>
 (σ102.ld (.n (σ.next + 1)) 2).bind fun w107 =>
 (AV.asI .i64 w107).bind fun n108 =>
 (σ102.st (.n ((σ.next + 1) + 1)) 0 [(.i .i64 n104), (.i .i64 n106), (.i .i64 n108)]).bind fun σ109 =>
 (σ109.ld (.n ((σ.next + 1) + 1)) 0).bind fun w110 =>
 (AV.asI .i64 w110).bind fun n111 =>
 (σ109.ld (.n ((σ.next + 1) + 1)) 1).bind fun w112 =>
 (AV.asI .i64 w112).bind fun n113 =>
 (σ109.ld (.n ((σ.next + 1) + 1)) 2).bind fun w114 =>
 (AV.asI .i64 w114).bind fun n115 =>
 some ((.tup [(.agg [(.i .i64 n111), (.i .i64 n113), (.i .i64 n115)]), (.i .i64 0)]), σ109))
 else none
noncomputable def chain_Table__Drop {O : Type} : Sm O := chain_Table__Drop_c chain_Table__check chain_Table__get chain_Table__set
theorem chain_Table__Drop_ent : Entered Try.prog 114 := Try.call114
theorem chain_Table__Drop_run {O : Type} (k213 k214 k215 : Sm O) : run (O := O) Try.prog [(213, k213), (214, k214), (215, k215)] Try.f114 (.n .z (.n (.n .z (.n .z (.n .z .z))) (.n (.d [] [0, 1, 2, 3, 5, 6, 7, 8, 4, 9, 10, 11] [0, 0, 0, 4, 15, 0, 0, 0, 128, 511, 1023, 2047]) (.n (.n .z (.j false [] .z .z)) (.n (.n .z (.j false [] .z .z)) (.n .z .z)))))) = chain_Table__Drop_c k213 k214 k215 := by kernel_rfl
theorem chain_Table__Drop_sound {O : Type} {RO : O → Loc → (Nat → Option Obj) → Prop} : FSound RO Try.prog 114 (chain_Table__Drop) :=
   have h : FSound RO Try.prog 114 (chain_Table__Drop_c chain_Table__check chain_Table__get chain_Table__set) := (chain_Table__Drop_run chain_Table__check chain_Table__get chain_Table__set) ▸ run_sound (gcons chain_Table__check_ent (chain_Table__check_sound) <| gcons chain_Table__get_ent (chain_Table__get_sound) <| gcons chain_Table__set_ent (chain_Table__set_sound) <| gnil) mixed Try.func114 (by kernel_rfl) _
   h

/-- (*haymow/pool.Pool).Give -/
noncomputable def pool_Pool__Give_c {O : Type} (k216 k217 k147 : Sm O) : Sm O := fun xs σ =>
 bif Nat.beq xs.length 2 then
 (AV.asP (xs.getD 0 .u)).bind fun p0 =>
 (AV.asI .i64 (xs.getD 1 .u)).bind fun n1 =>
 (k216 [(.p p0), (.i .i64 n1)] σ).bind fun r2 =>
 (AV.asTup 2 r2.1).bind fun c3 =>
 (AV.asI .u64 (c3.getD 0 .u)).bind fun n4 =>
 (AV.asB (c3.getD 1 .u)).bind fun b5 =>
 ((bif ((!b5) == false) then
 some ([(.b (((ibits .and .u64 n4 1) : Int) == 0))], r2.2)
 else some ([(.b true)], r2.2)) : Option (List AV × AH O)).bind fun r6 =>
 (AV.asB (r6.1.getD 0 .u)).bind fun b7 =>
 (bif b7 then
 some ((.i .i64 4), r6.2)
 else Option.bind p0 fun q8 =>
 (r6.2.ld q8.1 q8.2).bind fun w9 =>
 (AV.asP w9).bind fun p10 =>
 Option.bind p0 fun q11 =>
 (r6.2.ld q11.1 (q11.2 + 1)).bind fun w12 =>
 (AV.asI .i64 w12).bind fun n13 =>
 let v14 : Int := (IntKind.u64.wrap ((IntKind.u64.wrap ((Int.fdiv n4 (2 ^ 1)) + 1)) * 2 ^ 1))
 (k217 [(.p p0), (.i .i64 n1), (.i .i64 (-1))] r6.2).bind fun r15 =>
 (AV.asI .i64 r15.1).bind fun n16 =>
 (chk (r15.2.ld q8.1 q8.2 = some (.p p10))).bind fun _ =>
 (chk (r15.2.ld q11.1 (q11.2 + 1) = some (.i .i64 n13))).bind fun _ =>
 (k147 [(.p p10), (.i .i64 n13), (.i .i64 n16), (.i .u64 v14)] r15.2).bind fun r17 =>
 (AV.asI .i64 r17.1).bind fun n18 =>
 Option.bind p0 fun q19 =>
 (r17.2.ld q19.1 q19.2).bind fun w20 =>
 (AV.asP w20).bind fun p21 =>
 Option.bind p0 fun q22 =>
 (r17.2.ld q22.1 (q22.2 + 1)).bind fun w23 =>
 (AV.asI .i64 w23).bind fun n24 =>
 Option.bind p0 fun q25 =>
 (r17.2.ld q25.1 (q25.2 + 5)).bind fun w26 =>
 (AV.asI .i64 w26).bind fun n27 =>
 (k217 [(.p p0), (.i .i64 n1), (.i .i64 0)] r17.2).bind fun r28 =>
 (AV.asI .i64 r28.1).bind fun n29 =>
 (chk (r28.2.ld q19.1 q19.2 = some (.p p21))).bind fun _ =>
 (chk (r28.2.ld q22.1 (q22.2 + 1) = some (.i .i64 n24))).bind fun _ =>
 (chk (r28.2.ld q25.1 (q25.2 + 5) = some (.i .i64 n27))).bind fun _ =>
 (k147 [(.p p21), (.i .i64 n24), (.i .i64 n29), (.i .u64 (IntKind.u64.wrap n27))] r28.2).bind fun r30 =>
 (AV.asI .i64 r30.1).bind fun n31 =>
 Option.bind p0 fun q32 =>
 (r30.2.st q32.1 (q32.2 + 5) [(.i .i64 n1)]).bind fun σ33 =>
 Option.bind p0 fun q34 =>
 (σ33.ld q34.1 (q34.2 + 6)).bind fun w35 =>
 (AV.asI .i64 w35).bind fun n36 =>
 Option.bind p0 fun q37 =>
 (σ33.st q37.1 (q37.2 + 6) [(.i .i64 (IntKind.i64.wrap (n36 - 1)))]).bind fun σ38 =>
 some ((.i .i64 0), σ38))
 else none
noncomputable def pool_Pool__Give {O : Type} : Sm O := pool_Pool__Give_c pool_Pool__look pool_Pool__at mem_Mem__Write
theorem pool_Pool__Give_ent : Entered Try.prog 115 := Try.call115
theorem pool_Pool__Give_run {O : Type} (k216 k217 k147 : Sm O) : run (O := O) Try.prog [(216, k216), (217, k217), (147, k147)] Try.f115 (.n .z (.n .z (.n (.n (.g [(2, 3, [(19, .one .b)])]) (.n .z .z)) (.n (.d [] [0, 1, 2, 3, 4, 5, 6, 7, 8, 9, 11, 12, 13, 14, 10, 15] [0, 1, 3, 7, 0, 16, 48, 112, 0, 0, 768, 0, 2048, 6144, 14336, 32767]) (.n (.d [] [0, 1, 2, 3, 4, 5, 6, 7, 8, 9, 11, 12, 13, 14, 15, 10, 16] [0, 1, 3, 7, 0, 16, 48, 112, 0, 0, 768, 0, 2048, 6144, 14336, 30720, 65535]) (.n .z (.n .z .z))))))) = pool_Pool__Give_c k216 k217 k147 := by kernel_rfl
theorem pool_Pool__Give_sound {O : Type} {RO : O → Loc → (Nat → Option Obj) → Prop} : FSound RO Try.prog 115 (pool_Pool__Give) :=
   have h : FSound RO Try.prog 115 (pool_Pool__Give_c pool_Pool__look pool_Pool__at mem_Mem__Write) := (pool_Pool__Give_run pool_Pool__look pool_Pool__at mem_Mem__Write) ▸ run_sound (gcons pool_Pool__look_ent (pool_Pool__look_sound) <| gcons pool_Pool__at_ent (pool_Pool__at_sound) <| gcons mem_Mem__Write_ent (mem_Mem__Write_sound) <| gnil) mixed Try.func115 (by kernel_rfl) _
   h

/-- (*haymow/handles.Handles).Drop -/
noncomputable def handles_Handles__Drop_c {O : Type} (k112 k113 k114 k115 : Sm O) : Sm O := fun xs σ =>
 bif Nat.beq xs.length 2 then
 (AV.asP (xs.getD 0 .u)).bind fun p0 =>
 (AV.asI .i64 (xs.getD 1 .u)).bind fun n1 =>
 (k112 [(.p p0), (.i .i64 n1)] σ).bind fun r2 =>
 (AV.asTup 2 r2.1).bind fun c3 =>
 (AV.asI .i64 (c3.getD 0 .u)).bind fun n4 =>
 (AV.asI .i64 (c3.getD 1 .u)).bind fun n5 =>
 (bif ((n5 : Int) != 0) then
 some ((.i .i64 n5), r2.2)
 else Option.bind p0 fun q6 =>
 (r2.2.ld q6.1 (q6.2 + 1)).bind fun w7 =>
 (AV.asI .i64 w7).bind fun n8 =>
 (r2.2.ld q6.1 ((q6.2 + 1) + 1)).bind fun w9 =>
 (AV.asI .i64 w9).bind fun n10 =>
 (r2.2.ld q6.1 (((q6.2 + 1) + 1) + 1)).bind fun w11 =>
 (AV.asI .i64 w11).bind fun n12 =>
 (k113 [(.p p0)] r2.2).bind fun r13 =>
 (AV.asAgg 5 r13.1).bind fun c14 =>
 (AV.asP (c14.getD 0 .u)).bind fun p15 =>
 (AV.asI .i64 (c14.getD 1 .u)).bind fun n16 =>
 (AV.asI .i64 (c14.getD 2 .u)).bind fun n17 =>
 (AV.asI .i64 (c14.getD 3 .u)).bind fun n18 =>
 (AV.asI .i64 (c14.getD 4 .u)).bind fun n19 =>
 (chk (r13.2.ld q6.1 (q6.2 + 1) = some (.i .i64 n8))).bind fun _ =>
 (chk (r13.2.ld q6.1 ((q6.2 + 1) + 1) = some (.i .i64 n10))).bind fun _ =>
 (chk (r13.2.ld q6.1 (((q6.2 + 1) + 1) + 1) = some (.i .i64 n12))).bind fun _ =>
 (k114 [(.agg [(.p p15), (.i .i64 n16), (.i .i64 n17), (.i .i64 n18), (.i .i64 n19)]), (.agg [(.i .i64 n8), (.i .i64 n10), (.i .i64 n12)]), (.i .i64 n4)] r13.2).bind fun r20 =>
 (AV.asTup 2 r20.1).bind fun c21 =>
 (AV.asAgg 3 (c21.getD 0 .u)).bind fun c22 =>
 (AV.asI .i64 (c22.getD 0 .u)).bind fun n23 =>
 (AV.asI .i64 (c22.getD 1 .u)).bind fun n24 =>
 (AV.asI .i64 (c22.getD 2 .u)).bind fun n25 =>
 (AV.asI .i64 (c21.getD 1 .u)).bind fun n26 =>
 Option.bind p0 fun q27 =>
 (r20.2.st q27.1 (q27.2 + 1) [(.i .i64 n23), (.i .i64 n24), (.i .i64 n25)]).bind fun σ28 =>
 Option.bind p0 fun q29 =>
 (σ28.ld q29.1 q29.2).bind fun w30 =>
 (AV.asP w30).bind fun p31 =>
 (k115 [(.p p31), (.i .i64 n4)] σ28).bind fun r32 =>
 (AV.asI .i64 r32.1).bind fun n33 =>
 some ((.i .i64 n33), r32.2))
 else none
noncomputable def handles_Handles__Drop {O : Type} : Sm O := handles_Handles__Drop_c handles_Handles__id handles_Handles__table chain_Table__Drop pool_Pool__Give
theorem handles_Handles__Drop_ent : Entered Try.prog 23 := Try.call23
theorem handles_Handles__Drop_run {O : Type} (k112 k113 k114 k115 : Sm O) : run (O := O) Try.prog [(112, k112), (113, k113), (114, k114), (115, k115)] Try.f23 (.n .z (.n .z (.n (.n .z (.n .z .z)) (.n (.d [] [0, 1, 3, 4, 5, 6, 7, 2, 8, 9, 10, 11, 12, 13, 14] [0, 0, 2, 0, 8, 24, 56, 0, 254, 510, 1022, 1022, 2047, 6143, 14335]) .z)))) = handles_Handles__Drop_c k112 k113 k114 k115 := by kernel_rfl
theorem handles_Handles__Drop_sound {O : Type} {RO : O → Loc → (Nat → Option Obj) → Prop} : FSound RO Try.prog 23 (handles_Handles__Drop) :=
   have h : FSound RO Try.prog 23 (handles_Handles__Drop_c handles_Handles__id handles_Handles__table chain_Table__Drop pool_Pool__Give) := (handles_Handles__Drop_run handles_Handles__id handles_Handles__table chain_Table__Drop pool_Pool__Give) ▸ run_sound (gcons handles_Handles__id_ent (handles_Handles__id_sound) <| gcons handles_Handles__table_ent (handles_Handles__table_sound) <| gcons chain_Table__Drop_ent (chain_Table__Drop_sound) <| gcons pool_Pool__Give_ent (pool_Pool__Give_sound) <| gnil) mixed Try.func23 (by kernel_rfl) _
   h

/-- (*haymow/pool.Pool).Get -/
noncomputable def pool_Pool__Get_c {O : Type} (k219 k217 k149 : Sm O) : Sm O := fun xs σ =>
 bif Nat.beq xs.length 3 then
 (AV.asP (xs.getD 0 .u)).bind fun p0 =>
 (AV.asI .i64 (xs.getD 1 .u)).bind fun n1 =>
 (AV.asI .i64 (xs.getD 2 .u)).bind fun n2 =>
 (k219 [(.p p0), (.i .i64 n1), (.i .i64 n2)] σ).bind fun r3 =>
 (AV.asI .i64 r3.1).bind fun n4 =>
 (bif ((n4 : Int) != 0) then
 some ((.tup [(.i .u64 0), (.i .i64 n4)]), r3.2)
 else Option.bind p0 fun q5 =>
 (r3.2.ld q5.1 q5.2).bind fun w6 =>
 (AV.asP w6).bind fun p7 =>
 Option.bind p0 fun q8 =>
 (r3.2.ld q8.1 (q8.2 + 1)).bind fun w9 =>
 (AV.asI .i64 w9).bind fun n10 =>
 (k217 [(.p p0), (.i .i64 n1), (.i .i64 n2)] r3.2).bind fun r11 =>
 (AV.asI .i64 r11.1).bind fun n12 =>
 (chk (r11.2.ld q5.1 q5.2 = some (.p p7))).bind fun _ =>
 (chk (r11.2.ld q8.1 (q8.2 + 1) = some (.i .i64 n10))).bind fun _ =>
 (k149 [(.p p7), (.i .i64 n10), (.i .i64 n12)] r11.2).bind fun r13 =>
 (AV.asTup 2 r13.1).bind fun c14 =>
 (AV.asI .u64 (c14.getD 0 .u)).bind fun n15 =>
 (AV.asI .i64 (c14.getD 1 .u)).bind fun n16 =>
 some ((.tup [(.i .u64 n15), (.i .i64 n16)]), r13.2))
 else none
noncomputable def pool_Pool__Get {O : Type} : Sm O := pool_Pool__Get_c pool_Pool__check pool_Pool__at mem_Mem__Read
theorem pool_Pool__Get_ent : Entered Try.prog 121 := Try.call121
theorem pool_Pool__Get_run {O : Type} (k219 k217 k149 : Sm O) : run (O := O) Try.prog [(219, k219), (217, k217), (149, k149)] Try.f121 (.n .z (.n (.n .z (.n .z (.n .z .z))) (.n (.d [] [0, 1, 2, 3, 4, 5, 6, 7, 8, 9, 10, 11, 12, 13, 14, 15, 16] [0, 1, 3, 7, 0, 16, 48, 112, 0, 0, 0, 1792, 4095, 8191, 8191, 32767, 65535]) .z))) = pool_Pool__Get_c k219 k217 k149 := by kernel_rfl
theorem pool_Pool__Get_sound {O : Type} {RO : O → Loc → (Nat → Option Obj) → Prop} : FSound RO Try.prog 121 (pool_Pool__Get) :=
   have h : FSound RO Try.prog 121 (pool_Pool__Get_c pool_Pool__check pool_Pool__at mem_Mem__Read) := (pool_Pool__Get_run pool_Pool__check pool_Pool__at mem_Mem__Read) ▸ run_sound (gcons pool_Pool__check_ent (pool_Pool__check_sound) <| gcons pool_Pool__at_ent (pool_Pool__at_sound) <| gcons mem_Mem__Read_ent (mem_Mem__Read_sound) <| gnil) mixed Try.func121 (by kernel_rfl) _
   h

/-- (*haymow/handles.Handles).Get -/
noncomputable def handles_Handles__Get_c {O : Type} (k112 k121 : Sm O) : Sm O := fun xs σ =>
 bif Nat.beq xs.length 2 then
 (AV.asP (xs.getD 0 .u)).bind fun p0 =>
 (AV.asI .i64 (xs.getD 1 .u)).bind fun n1 =>
 (k112 [(.p p0), (.i .i64 n1)] σ).bind fun r2 =>
 (AV.asTup 2 r2.1).bind fun c3 =>
 (AV.asI .i64 (c3.getD 0 .u)).bind fun n4 =>
 (AV.asI .i64 (c3.getD 1 .u)).bind fun n5 =>
 (bif ((n5 : Int) != 0) then
 some ((.tup [(.i .u64 0), (.i .i64 n5)]), r2.2)
 else Option.bind p0 fun q6 =>
 (r2.2.ld q6.1 q6.2).bind fun w7 =>
 (AV.asP w7).bind fun p8 =>
 (k121 [(.p p8), (.i .i64 n4), (.i .i64 0)] r2.2).bind fun r9 =>
 (AV.asTup 2 r9.1).bind fun c10 =>
 (AV.asI .u64 (c10.getD 0 .u)).bind fun n11 =>
 (AV.asI .i64 (c10.getD 1 .u)).bind fun n12 =>
 some ((.tup [(.i .u64 n11), (.i .i64 n12)]), r9.2))
 else none
noncomputable def handles_Handles__Get {O : Type} : Sm O := handles_Handles__Get_c handles_Handles__id pool_Pool__Get
theorem handles_Handles__Get_ent : Entered Try.prog 26 := Try.call26
theorem handles_Handles__Get_run {O : Type} (k112 k121 : Sm O) : run (O := O) Try.prog [(112, k112), (121, k121)] Try.f26 (.n .z (.n .z (.n (.n .z (.n .z .z)) (.n .z .z)))) = handles_Handles__Get_c k112 k121 := by kernel_rfl
theorem handles_Handles__Get_sound {O : Type} {RO : O → Loc → (Nat → Option Obj) → Prop} : FSound RO Try.prog 26 (handles_Handles__Get) :=
   have h : FSound RO Try.prog 26 (handles_Handles__Get_c handles_Handles__id pool_Pool__Get) := (handles_Handles__Get_run handles_Handles__id pool_Pool__Get) ▸ run_sound (gcons handles_Handles__id_ent (handles_Handles__id_sound) <| gcons pool_Pool__Get_ent (pool_Pool__Get_sound) <| gnil) mixed Try.func26 (by kernel_rfl) _
   h

/-- haymow/haymowlaw18.awake -/
noncomputable def law18_awake_c {O : Type} (k22 k24 k23 k26 : Sm O) : Sm O := fun xs σ =>
 bif Nat.beq xs.length 0 then
 (k22 [] σ).bind fun r0 =>
 (AV.asTup 3 r0.1).bind fun c1 =>
 (AV.asP (c1.getD 0 .u)).bind fun p2 =>
 (AV.asP (c1.getD 1 .u)).bind fun p3 =>
 (AV.asB (c1.getD 2 .u)).bind fun b4 =>
 (bif (!b4) then
 some ((.b false), r0.2)
 else (k24 [(.p p3), (.i .u64 3)] r0.2).bind fun r5 =>
 (AV.asTup 2 r5.1).bind fun c6 =>
 (AV.asI .i64 (c6.getD 0 .u)).bind fun n7 =>
 (AV.asI .i64 (c6.getD 1 .u)).bind fun n8 =>
 (k24 [(.p p3), (.i .u64 5)] r5.2).bind fun r9 =>
 (AV.asTup 2 r9.1).bind fun c10 =>
 (AV.asI .i64 (c10.getD 0 .u)).bind fun n11 =>
 (AV.asI .i64 (c10.getD 1 .u)).bind fun n12 =>
 (k23 [(.p p3), (.i .i64 0)] r9.2).bind fun r13 =>
 (AV.asI .i64 r13.1).bind fun n14 =>
 (k24 [(.p p3), (.i .u64 7)] r13.2).bind fun r15 =>
 (AV.asTup 2 r15.1).bind fun c16 =>
 (AV.asI .i64 (c16.getD 0 .u)).bind fun n17 =>
 (AV.asI .i64 (c16.getD 1 .u)).bind fun n18 =>
 (k26 [(.p p3), (.i .i64 0)] r15.2).bind fun r19 =>
 (AV.asTup 2 r19.1).bind fun c20 =>
 (AV.asI .u64 (c20.getD 0 .u)).bind fun n21 =>
 (AV.asI .i64 (c20.getD 1 .u)).bind fun n22 =>
 ((bif (((n7 : Int) == 0) == true) then
 some ([(.b ((n11 : Int) == 1))], r19.2)
 else some ([(.b false)], r19.2)) : Option (List AV × AH O)).bind fun r23 =>
 (AV.asB (r23.1.getD 0 .u)).bind fun b24 =>
 ((bif (b24 == true) then
 some ([(.b ((n14 : Int) == 0))], r23.2)
 else some ([(.b false)], r23.2)) : Option (List AV × AH O)).bind fun r25 =>
 (AV.asB (r25.1.getD 0 .u)).bind fun b26 =>
 ((bif (b26 == true) then
 some ([(.b ((n17 : Int) == 1048576))], r25.2)
 else some ([(.b false)], r25.2)) : Option (List AV × AH O)).bind fun r27 =>
 (AV.asB (r27.1.getD 0 .u)).bind fun b28 =>
 ((bif (b28 == true) then
 some ([(.b ((n18 : Int) == 0))], r27.2)
 else some ([(.b false)], r27.2)) : Option (List AV × AH O)).bind fun r29 =>
 (AV.asB (r29.1.getD 0 .u)).bind fun b30 =>
 ((bif (b30 == true) then
 some ([(.b ((n22 : Int) == 30))], r29.2)
 else some ([(.b false)], r29.2)) : Option (List AV × AH O)).bind fun r31 =>
 (AV.asB (r31.1.getD 0 .u)).bind fun b32 =>
 some ((.b b32), r31.2))
 else none
noncomputable def law18_awake {O : Type} : Sm O := law18_awake_c law18_made handles_Handles__Add handles_Handles__Drop handles_Handles__Get
theorem law18_awake_ent : Entered Try.prog 20 := Try.call20
theorem law18_awake_run {O : Type} (k22 k24 k23 k26 : Sm O) : run (O := O) Try.prog [(22, k22), (24, k24), (23, k23), (26, k26)] Try.f20 (.n .z (.n .z (.n (.n .z (.n .z .z)) (.n .z (.n .z (.n .z (.n .z (.n .z (.n (.g [(2, 2, [(47, .one .b)]), (6, 2, [(51, .one .b)]), (10, 2, [(55, .one .b)]), (14, 2, [(59, .one .b)]), (18, 2, [(63, .one .b)])]) .z))))))))) = law18_awake_c k22 k24 k23 k26 := by kernel_rfl
theorem law18_awake_sound {O : Type} {RO : O → Loc → (Nat → Option Obj) → Prop} : FSound RO Try.prog 20 (law18_awake) :=
   have h : FSound RO Try.prog 20 (law18_awake_c law18_made handles_Handles__Add handles_Handles__Drop handles_Handles__Get) := (law18_awake_run law18_made handles_Handles__Add handles_Handles__Drop handles_Handles__Get) ▸ run_sound (gcons law18_made_ent (law18_made_sound) <| gcons handles_Handles__Add_ent (handles_Handles__Add_sound) <| gcons handles_Handles__Drop_ent (handles_Handles__Drop_sound) <| gcons handles_Handles__Get_ent (handles_Handles__Get_sound) <| gnil) mixed Try.func20 (by kernel_rfl) _
   h

/-- haymow/haymowlaw18.has -/
noncomputable def law18_has_L1 {O : Type} (l0 : SA × Nat) (n1 : Int) : List AV × AH O → Option ((List AV × AH O) ⊕ ((List AV × AH O) ⊕ (AV × AH O))) := (fun r2 =>
 (AV.asI .i64 (r2.1.getD 0 .u)).bind fun n3 =>
 (bif (decide (n3 < (l0.2 : Int))) then
 (bif ((decide ((0 : Int) ≤ n3)) && (decide (n3 < (l0.2 : Int)))) then
 (SA.ref l0.1).bind fun q4 =>
 (r2.2.ld q4.1 (q4.2 + (n3.toNat * 1))).bind fun w5 =>
 (AV.asI .i64 w5).bind fun n6 =>
 (bif ((n6 : Int) == n1) then
 ((some ((.b true), r2.2) : Option (AV × AH O)).map fun r => Sum.inr (Sum.inr r))
 else some (Sum.inl ([(.i .i64 (IntKind.i64.wrap (n3 + 1)))], r2.2)))
 else none)
 else some (Sum.inr (Sum.inl ([], r2.2)))))
noncomputable def law18_has_c {O : Type} : Sm O := fun xs σ =>
 bif Nat.beq xs.length 2 then
 (AV.asSl (xs.getD 0 .u)).bind fun l0 =>
 (AV.asI .i64 (xs.getD 1 .u)).bind fun n1 =>
 bindS (S := List AV × AH O) (R := (AV × AH O)) (loopF (S := List AV × AH O) (T := (List AV × AH O) ⊕ (AV × AH O)) (law18_has_L1 l0 n1) ([(.i .i64 0)], σ)) fun r7 =>
 some ((.b false), r7.2)
 else none
noncomputable def law18_has {O : Type} : Sm O := law18_has_c
theorem law18_has_ent : Entered Try.prog 25 := Try.call25
theorem law18_has_run {O : Type} : run (O := O) Try.prog [] Try.f25 (.n .z (.n (.n .z (.n (.lp true 0 [(5, .one (.i .i64))] [] (.n (.n .z .z) (.n (.n (.n .z (.n .z .z)) .z) .z))) .z)) .z)) = law18_has_c  := by kernel_rfl
theorem law18_has_sound {O : Type} {RO : O → Loc → (Nat → Option Obj) → Prop} : FSound RO Try.prog 25 (law18_has) :=
   have h : FSound RO Try.prog 25 (law18_has_c) := (law18_has_run) ▸ run_sound (gnil) mixed Try.func25 (by kernel_rfl) _
   h

/-- (*haymow/handles.Handles).Set -/
noncomputable def handles_Handles__Set_c {O : Type} (k112 k117 : Sm O) : Sm O := fun xs σ =>
 bif Nat.beq xs.length 3 then
 (AV.asP (xs.getD 0 .u)).bind fun p0 =>
 (AV.asI .i64 (xs.getD 1 .u)).bind fun n1 =>
 (AV.asI .u64 (xs.getD 2 .u)).bind fun n2 =>
 (k112 [(.p p0), (.i .i64 n1)] σ).bind fun r3 =>
 (AV.asTup 2 r3.1).bind fun c4 =>
 (AV.asI .i64 (c4.getD 0 .u)).bind fun n5 =>
 (AV.asI .i64 (c4.getD 1 .u)).bind fun n6 =>
 (bif ((n6 : Int) != 0) then
 some ((.i .i64 n6), r3.2)
 else Option.bind p0 fun q7 =>
 (r3.2.ld q7.1 q7.2).bind fun w8 =>
 (AV.asP w8).bind fun p9 =>
 (k117 [(.p p9), (.i .i64 n5), (.i .i64 0), (.i .u64 n2)] r3.2).bind fun r10 =>
 (AV.asI .i64 r10.1).bind fun n11 =>
 some ((.i .i64 n11), r10.2))
 else none
noncomputable def handles_Handles__Set {O : Type} : Sm O := handles_Handles__Set_c handles_Handles__id pool_Pool__Set
theorem handles_Handles__Set_ent : Entered Try.prog 27 := Try.call27
theorem handles_Handles__Set_run {O : Type} (k112 k117 : Sm O) : run (O := O) Try.prog [(112, k112), (117, k117)] Try.f27 (.n .z (.n .z (.n (.n .z (.n .z .z)) .z))) = handles_Handles__Set_c k112 k117 := by kernel_rfl
theorem handles_Handles__Set_sound {O : Type} {RO : O → Loc → (Nat → Option Obj) → Prop} : FSound RO Try.prog 27 (handles_Handles__Set) :=
   have h : FSound RO Try.prog 27 (handles_Handles__Set_c handles_Handles__id pool_Pool__Set) := (handles_Handles__Set_run handles_Handles__id pool_Pool__Set) ▸ run_sound (gcons handles_Handles__id_ent (handles_Handles__id_sound) <| gcons pool_Pool__Set_ent (pool_Pool__Set_sound) <| gnil) mixed Try.func27 (by kernel_rfl) _
   h

/-- (*haymow/handles.Handles).Count -/
noncomputable def handles_Handles__Count_c {O : Type} : Sm O := fun xs σ =>
 bif Nat.beq xs.length 1 then
 (AV.asP (xs.getD 0 .u)).bind fun p0 =>
 Option.bind p0 fun q1 =>
 (σ.ld q1.1 ((q1.2 + 1) + 2)).bind fun w2 =>
 (AV.asI .i64 w2).bind fun n3 =>
 some ((.i .i64 n3), σ)
 else none
noncomputable def handles_Handles__Count {O : Type} : Sm O := handles_Handles__Count_c
theorem handles_Handles__Count_ent : Entered Try.prog 28 := Try.call28
theorem handles_Handles__Count_run {O : Type} : run (O := O) Try.prog [] Try.f28 (.n .z .z) = handles_Handles__Count_c  := by kernel_rfl
theorem handles_Handles__Count_sound {O : Type} {RO : O → Loc → (Nat → Option Obj) → Prop} : FSound RO Try.prog 28 (handles_Handles__Count) :=
   have h : FSound RO Try.prog 28 (handles_Handles__Count_c) := (handles_Handles__Count_run) ▸ run_sound (gnil) mixed Try.func28 (by kernel_rfl) _
   h

/-- haymow/haymowlaw18.HandlesStale -/
noncomputable def law18_HandlesStale_L2 {O : Type} (l77 : SA × Nat) (k26 : Sm O) (p10 : Option (Bid × Nat)) (k27 : Sm O) (k23 : Sm O) : List AV × AH O → Option ((List AV × AH O) ⊕ ((List AV × AH O) ⊕ ((List AV × AH O) ⊕ ((List AV × AH O) ⊕ (AV × AH O))))) := (fun r78 =>
 (AV.asI .i64 (r78.1.getD 0 .u)).bind fun n79 =>
 (bif (decide (n79 < (l77.2 : Int))) then
 (bif ((decide ((0 : Int) ≤ n79)) && (decide (n79 < (l77.2 : Int)))) then
 (SA.ref l77.1).bind fun q80 =>
 (r78.2.ld q80.1 (q80.2 + (n79.toNat * 1))).bind fun w81 =>
 (AV.asI .i64 w81).bind fun n82 =>
 (k26 [(.p p10), (.i .i64 n82)] r78.2).bind fun r83 =>
 (AV.asTup 2 r83.1).bind fun c84 =>
 (AV.asI .u64 (c84.getD 0 .u)).bind fun n85 =>
 (AV.asI .i64 (c84.getD 1 .u)).bind fun n86 =>
 ((bif (((n85 : Int) != 0) == false) then
 some ([(.b ((n86 : Int) != 30))], r83.2)
 else some ([(.b true)], r83.2)) : Option (List AV × AH O)).bind fun r87 =>
 (AV.asB (r87.1.getD 0 .u)).bind fun b88 =>
 ((bif (b88 == false) then
 (bif ((decide ((0 : Int) ≤ n79)) && (decide (n79 < (l77.2 : Int)))) then
 (SA.ref l77.1).bind fun q89 =>
 (r87.2.ld q89.1 (q89.2 + (n79.toNat * 1))).bind fun w90 =>
 (AV.asI .i64 w90).bind fun n91 =>
 (k27 [(.p p10), (.i .i64 n91), (.i .u64 3)] r87.2).bind fun r92 =>
 (AV.asI .i64 r92.1).bind fun n93 =>
 some ([(.b ((n93 : Int) != 30))], r92.2)
 else none)
 else some ([(.b true)], r87.2)) : Option (List AV × AH O)).bind fun r94 =>
 (AV.asB (r94.1.getD 0 .u)).bind fun b95 =>
 ((bif (b95 == false) then
 (bif ((decide ((0 : Int) ≤ n79)) && (decide (n79 < (l77.2 : Int)))) then
 (SA.ref l77.1).bind fun q96 =>
 (r94.2.ld q96.1 (q96.2 + (n79.toNat * 1))).bind fun w97 =>
 (AV.asI .i64 w97).bind fun n98 =>
 (k23 [(.p p10), (.i .i64 n98)] r94.2).bind fun r99 =>
 (AV.asI .i64 r99.1).bind fun n100 =>
 some ([(.b ((n100 : Int) != 30))], r99.2)
 else none)
 else some ([(.b true)], r94.2)) : Option (List AV × AH O)).bind fun r101 =>
 (AV.asB (r101.1.getD 0 .u)).bind fun b102 =>
 (bif b102 then
 ((((some ((.b false), r101.2) : Option (AV × AH O)).map fun r => Sum.inr (Sum.inr r)) : Option ((List AV × AH O) ⊕ ((List AV × AH O) ⊕ (AV × AH O)))).map fun r => Sum.inr (Sum.inr r))
 else some (Sum.inl ([(.i .i64 (IntKind.i64.wrap (n79 + 1)))], r101.2)))
 else none)
 else some (Sum.inr (Sum.inl ([], r78.2)))))
noncomputable def law18_HandlesStale_L1 {O : Type} (l0 : SA × Nat) (k23 : Sm O) (p10 : Option (Bid × Nat)) (k24 : Sm O) (k25 : Sm O) (k26 : Sm O) (k27 : Sm O) : List AV × AH O → Option ((List AV × AH O) ⊕ ((List AV × AH O) ⊕ (AV × AH O))) := (fun r16 =>
 (AV.asSl (r16.1.getD 0 .u)).bind fun l17 =>
 (AV.asSl (r16.1.getD 1 .u)).bind fun l18 =>
 (AV.asI .i64 (r16.1.getD 2 .u)).bind fun n19 =>
 (bif (decide (n19 < (l0.2 : Int))) then
 (bif ((decide ((0 : Int) ≤ n19)) && (decide (n19 < (l0.2 : Int)))) then
 (SA.ref l0.1).bind fun q20 =>
 (r16.2.ld q20.1 (q20.2 + (n19.toNat * 4))).bind fun w21 =>
 (AV.asI .i64 w21).bind fun n22 =>
 ((bif (((n22 : Int) != 0) == true) then
 some ([(.b (decide ((l17.2 : Int) > 0)))], r16.2)
 else some ([(.b false)], r16.2)) : Option (List AV × AH O)).bind fun r23 =>
 (AV.asB (r23.1.getD 0 .u)).bind fun b24 =>
 bindS (S := List AV × AH O) (R := ((List AV × AH O) ⊕ ((List AV × AH O) ⊕ (AV × AH O)))) ((bif b24 then
 (bif ((decide ((0 : Int) ≤ n19)) && (decide (n19 < (l0.2 : Int)))) then
 (SA.ref l0.1).bind fun q25 =>
 (r23.2.ld q25.1 ((q25.2 + (n19.toNat * 4)) + 1)).bind fun w26 =>
 (AV.asI .i64 w26).bind fun n27 =>
 (bif ((l17.2 : Int) == 0) then
 none
 else let v28 : Int := (IntKind.i64.wrap ((Int.tmod n27 (l17.2 : Int)) + (l17.2 : Int)))
 (bif ((l17.2 : Int) == 0) then
 none
 else (bif ((decide ((0 : Int) ≤ (Int.tmod v28 (l17.2 : Int)))) && (decide ((Int.tmod v28 (l17.2 : Int)) < (l17.2 : Int)))) then
 (SA.ref l17.1).bind fun q29 =>
 (r23.2.ld q29.1 (q29.2 + ((Int.tmod v28 (l17.2 : Int)).toNat * 1))).bind fun w30 =>
 (AV.asI .i64 w30).bind fun n31 =>
 (k23 [(.p p10), (.i .i64 n31)] r23.2).bind fun r32 =>
 (AV.asI .i64 r32.1).bind fun n33 =>
 (bif ((n33 : Int) != 0) then
 ((((some ((.b false), r32.2) : Option (AV × AH O)).map fun r => Sum.inr (Sum.inr r)) : Option ((List AV × AH O) ⊕ ((List AV × AH O) ⊕ (AV × AH O)))).map Sum.inr)
 else let σ34 := r32.2.bump 2
 (bif ((decide ((0 : Int) ≤ (Int.tmod v28 (l17.2 : Int)))) && (decide ((Int.tmod v28 (l17.2 : Int)) < (l17.2 : Int)))) then
 (SA.ref l17.1).bind fun q35 =>
 (σ34.ld q35.1 (q35.2 + ((Int.tmod v28 (l17.2 : Int)).toNat * 1))).bind fun w36 =>
 (AV.asI .i64 w36).bind fun n37 =>
 let σ38 := σ34.put r32.2.next (.cells true 3 [(.i .i64 n37)])
 (σ38.rdSl (.loc (.n r32.2.next) 0 1) 1 1).bind fun new39 =>
 (bif (Nat.ble ((l18.2 + 1) * 9) 35184372088832) then
 (σ38.appSl (r32.2.next + 1) 3 1 l18.1 l18.2 1 new39).bind fun r40 =>
 (AV.asSl r40.1).bind fun l41 =>
 let σ42 := r40.2.bump 3
 (bif ((decide ((0 : Int) ≤ (Int.tmod v28 (l17.2 : Int)))) && (decide ((Int.tmod v28 (l17.2 : Int)) ≤ (l17.2 : Int)))) then
 (SA.adv l17.1 0 1).bind fun a43 =>
 let v44 : Int := (IntKind.i64.wrap ((Int.tmod v28 (l17.2 : Int)) + 1))
 (bif (((decide ((0 : Int) ≤ v44)) && (decide (v44 ≤ (l17.2 : Int)))) && (decide ((l17.2 : Int) ≤ (l17.2 : Int)))) then
 (SA.adv l17.1 v44.toNat 1).bind fun a45 =>
 let σ46 := σ42.put r40.2.next (.cells true 3 [])
 (σ46.rdSl a43 ((Int.tmod v28 (l17.2 : Int)).toNat - 0) 1).bind fun new47 =>
 (bif (Nat.ble ((0 + ((Int.tmod v28 (l17.2 : Int)).toNat - 0)) * 9) 35184372088832) then
 (σ46.appSl (r40.2.next + 1) 3 1 (.loc (.n r40.2.next) 0 1) 0 ((Int.tmod v28 (l17.2 : Int)).toNat - 0) new47).bind fun r48 =>
 (AV.asSl r48.1).bind fun l49 =>
 (r48.2.rdSl a45 ((l17.2 : Int).toNat - v44.toNat) 1).bind fun new50 =>
 (bif (Nat.ble ((l49.2 + ((l17.2 : Int).toNat - v44.toNat)) * 9) 35184372088832) then
 (r48.2.appSl ((r40.2.next + 1) + 1) 3 1 l49.1 l49.2 ((l17.2 : Int).toNat - v44.toNat) new50).bind fun r51 =>
 (AV.asSl r51.1).bind fun l52 =>
 some (Sum.inl ([(.sl l52.1 l52.2), (.sl l41.1 l41.2)], r51.2))
 else none)
 else none)
 else none)
 else none)
 else none)
 else none))
 else none)))
 else none)
 else (bif ((decide ((0 : Int) ≤ n19)) && (decide (n19 < (l0.2 : Int)))) then
 (SA.ref l0.1).bind fun q53 =>
 (r23.2.ld q53.1 ((q53.2 + (n19.toNat * 4)) + 3)).bind fun w54 =>
 (AV.asI .u64 w54).bind fun n55 =>
 (k24 [(.p p10), (.i .u64 n55)] r23.2).bind fun r56 =>
 (AV.asTup 2 r56.1).bind fun c57 =>
 (AV.asI .i64 (c57.getD 0 .u)).bind fun n58 =>
 (AV.asI .i64 (c57.getD 1 .u)).bind fun n59 =>
 ((bif (((n59 : Int) != 0) == false) then
 some ([(.b (decide (n58 < 0)))], r56.2)
 else some ([(.b true)], r56.2)) : Option (List AV × AH O)).bind fun r60 =>
 (AV.asB (r60.1.getD 0 .u)).bind fun b61 =>
 ((bif (b61 == false) then
 (k25 [(.sl l17.1 l17.2), (.i .i64 n58)] r60.2).bind fun r62 =>
 (AV.asB r62.1).bind fun b63 =>
 some ([(.b b63)], r62.2)
 else some ([(.b true)], r60.2)) : Option (List AV × AH O)).bind fun r64 =>
 (AV.asB (r64.1.getD 0 .u)).bind fun b65 =>
 ((bif (b65 == false) then
 (k25 [(.sl l18.1 l18.2), (.i .i64 n58)] r64.2).bind fun r66 =>
 (AV.asB r66.1).bind fun b67 =>
 some ([(.b b67)], r66.2)
 else some ([(.b true)], r64.2)) : Option (List AV × AH O)).bind fun r68 =>
 (AV.asB (r68.1.getD 0 .u)).bind fun b69 =>
 (bif b69 then
 ((((some ((.b false), r68.2) : Option (AV × AH O)).map fun r => Sum.inr (Sum.inr r)) : Option ((List AV × AH O) ⊕ ((List AV × AH O) ⊕ (AV × AH O)))).map Sum.inr)
 else let σ70 := r68.2.bump 2
 let σ71 := σ70.put r68.2.next (.cells true 3 [(.i .i64 n58)])
 (σ71.rdSl (.loc (.n r68.2.next) 0 1) 1 1).bind fun new72 =>
 (bif (Nat.ble ((l17.2 + 1) * 9) 35184372088832) then
 (σ71.appSl (r68.2.next + 1) 3 1 l17.1 l17.2 1 new72).bind fun r73 =>
 (AV.asSl r73.1).bind fun l74 =>
 some (Sum.inl ([(.sl l74.1 l74.2), (.sl l18.1 l18.2)], r73.2))
 else none))
 else none))) fun r75 =>
 (AV.asSl (r75.1.getD 0 .u)).bind fun l76 =>
 (AV.asSl (r75.1.getD 1 .u)).bind fun l77 =>
 bindS (S := List AV × AH O) (R := ((List AV × AH O) ⊕ ((List AV × AH O) ⊕ (AV × AH O)))) (loopF (S := List AV × AH O) (T := (List AV × AH O) ⊕ ((List AV × AH O) ⊕ ((List AV × AH O) ⊕ (AV × AH O)))) (law18_HandlesStale_L2 l77 k26 p10 k27 k23) ([(.i .i64 0)], r75.2)) fun r103 =>
 some (Sum.inl ([(.sl l76.1 l76.2), (.sl l77.1 l77.2), (.i .i64 (IntKind.i64.wrap (n19 + 1)))], r103.2))
 else none)
 else some (Sum.inr (Sum.inl ([(.sl l17.1 l17.2)], r16.2)))))
noncomputable def law18_HandlesStale_c {O : Type} (k20 k21 k22 k23 k24 k25 k26 k27 k28 : Sm O) : Sm O := fun xs σ =>
 bif Nat.beq xs.length 1 then
 (AV.asSl (xs.getD 0 .u)).bind fun l0 =>
 (k20 [] σ).bind fun r1 =>
 (AV.asB r1.1).bind fun b2 =>
 (bif (!b2) then
 some ((.b false), r1.2)
 else (bif (decide ((l0.2 : Int) > 60)) then
 some ((.b true), r1.2)
 else (k21 [(.p none)] r1.2).bind fun r3 =>
 (AV.asTup 2 r3.1).bind fun c4 =>
 (AV.asP (c4.getD 0 .u)).bind fun p5 =>
 (AV.asI .i64 (c4.getD 1 .u)).bind fun n6 =>
 (k22 [] r3.2).bind fun r7 =>
 (AV.asTup 3 r7.1).bind fun c8 =>
 (AV.asP (c8.getD 0 .u)).bind fun p9 =>
 (AV.asP (c8.getD 1 .u)).bind fun p10 =>
 (AV.asB (c8.getD 2 .u)).bind fun b11 =>
 ((bif ((!b11) == false) then
 some ([(.b (!(Option.isNone p5)))], r7.2)
 else some ([(.b true)], r7.2)) : Option (List AV × AH O)).bind fun r12 =>
 (AV.asB (r12.1.getD 0 .u)).bind fun b13 =>
 ((bif (b13 == false) then
 some ([(.b ((n6 : Int) != 1))], r12.2)
 else some ([(.b true)], r12.2)) : Option (List AV × AH O)).bind fun r14 =>
 (AV.asB (r14.1.getD 0 .u)).bind fun b15 =>
 (bif b15 then
 some ((.b false), r14.2)
 else bindS (S := List AV × AH O) (R := (AV × AH O)) (loopF (S := List AV × AH O) (T := (List AV × AH O) ⊕ (AV × AH O)) (law18_HandlesStale_L1 l0 k23 p10 k24 k25 k26 k27) ([(.sl .nil 0), (.sl .nil 0), (.i .i64 0)], r14.2)) fun r104 =>
 (AV.asSl (r104.1.getD 0 .u)).bind fun l105 =>
 (k28 [(.p p10)] r104.2).bind fun r106 =>
 (AV.asI .i64 r106.1).bind fun n107 =>
 some ((.b ((n107 : Int) == (l105.2 : Int))), r106.2))))
 else none
noncomputable def law18_HandlesStale {O : Type} : Sm O := law18_HandlesStale_c law18_awake handles_New law18_made handles_Handles__Drop handles_Handles__Add law18_has handles_Handles__Get handles_Handles__Set handles_Handles__Count
theorem law18_HandlesStale_ent : Entered Try.prog 4 := Try.call4
theorem law18_HandlesStale_run {O : Type} (k20 k21 k22 k23 k24 k25 k26 k27 k28 : Sm O) : run (O := O) Try.prog [(20, k20), (21, k21), (22, k22), (23, k23), (24, k24), (25, k25), (26, k26), (27, k27), (28, k28)] Try.f4 (.n .z (.n (.n .z (.n .z .z)) (.n (.n .z (.n .z .z)) (.n .z (.n .z (.n (.n (.g [(2, 2, [(36, .one .b)]), (6, 2, [(40, .one .b)])]) (.n .z .z)) (.n .z (.n (.n .z (.n (.lp true 0 [(8, .one .sl), (9, .one .sl), (10, .one (.i .i64))] [(8, .one .sl)] (.n (.n .z .z) (.n (.n (.n (.n (.g [(6, 3, [(57, .one .b)])]) (.j true [(8, .one .sl), (9, .one .sl)] (.n .z (.n (.n .z (.n .z .z)) (.n .z (.d [] [1, 2, 3, 5, 6, 7, 8, 0, 4, 9, 10] [0, 0, 0, 6, 15, 0, 0, 64, 224, 511, 1023])))) (.n .z (.n (.n (.g [(2, 2, [(111, .one .b)]), (6, 3, [(116, .one .b)]), (11, 3, [(121, .one .b)])]) (.n .z .z)) .z)))) (.n .z (.n (.lp true 2 [(14, .one (.i .i64))] [] (.n (.n .z .z) (.n (.n (.n .z (.n (.g [(2, 2, [(146, .one .b)]), (6, 7, [(155, .one .b)]), (15, 7, [(164, .one .b)])]) (.n .z .z))) .z) .z))) .z))) .z) .z))) .z)) .z)))))))) = law18_HandlesStale_c k20 k21 k22 k23 k24 k25 k26 k27 k28 := by kernel_rfl
theorem law18_HandlesStale_sound {O : Type} {RO : O → Loc → (Nat → Option Obj) → Prop} : FSound RO Try.prog 4 (law18_HandlesStale) :=
   have h : FSound RO Try.prog 4 (law18_HandlesStale_c law18_awake handles_New law18_made handles_Handles__Drop handles_Handles__Add law18_has handles_Handles__Get handles_Handles__Set handles_Handles__Count) := (law18_HandlesStale_run law18_awake handles_New law18_made handles_Handles__Drop handles_Handles__Add law18_has handles_Handles__Get handles_Handles__Set handles_Handles__Count) ▸ run_sound (gcons law18_awake_ent (law18_awake_sound) <| gcons handles_New_ent (handles_New_sound) <| gcons law18_made_ent (law18_made_sound) <| gcons handles_Handles__Drop_ent (handles_Handles__Drop_sound) <| gcons handles_Handles__Add_ent (handles_Handles__Add_sound) <| gcons law18_has_ent (law18_has_sound) <| gcons handles_Handles__Get_ent (handles_Handles__Get_sound) <| gcons handles_Handles__Set_ent (handles_Handles__Set_sound) <| gcons handles_Handles__Count_ent (handles_Handles__Count_sound) <| gnil) mixed Try.func4 (by kernel_rfl) _
   h

end Go.Abs.Try
