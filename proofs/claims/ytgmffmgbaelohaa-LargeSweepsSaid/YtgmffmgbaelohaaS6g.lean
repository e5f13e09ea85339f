/-
  What the functions of the program do, each as a function of Lean, and that it does so. No conditions.
-/
import Derived.Test.YtgmffmgbaelohaaAbsExtern
import Derived.Test.YtgmffmgbaelohaaProg
import Derived.KernelRfl
set_option linter.unusedVariables false
set_option linter.unusedSimpArgs false
set_option linter.constructorNameAsVariable false
set_option maxRecDepth 100000
namespace Go.Abs.Try
open Go Go.Abs Go.Proofs

theorem mixed : Try.prog.follows .mixedOrders = true := by kernel_rfl
abbrev T_int64 : Nat := 2
abbrev T_int : Nat := 3
abbrev T_bool : Nat := 4
abbrev T_uint8 : Nat := 5
abbrev T_abi_BoundsErrorCode : Nat := 6
abbrev T_runtime_boundsError : Nat := 8
abbrev T_string : Nat := 9
abbrev T_runtime_errorString : Nat := 10
abbrev T_runtime_plainError : Nat := 11
abbrev T_uintptr : Nat := 12
abbrev T_runtime_errorAddressString : Nat := 14
abbrev T_maps_unhashableTypeError : Nat := 19
abbrev T_int32 : Nat := 21
abbrev T_haymowref10_State : Nat := 31
abbrev T_haymowref18_State : Nat := 34
abbrev T_uint64 : Nat := 36
abbrev T_api_Wide : Nat := 38
abbrev T_mem_Mem : Nat := 43
abbrev T_law18_Op : Nat := 45
abbrev T_api_Errno : Nat := 46
abbrev T_ref_Ref : Nat := 49
abbrev T_haymowref18_Handle : Nat := 61
abbrev T_haymowref15_State : Nat := 91
abbrev T_law15_Op : Nat := 96
abbrev T_api_Shape : Nat := 106
abbrev T_api_Header : Nat := 115
abbrev T_meter_Kind : Nat := 127
abbrev T_chain_Chain : Nat := 130
abbrev T_handles_Handles : Nat := 132
abbrev T_chain_Table : Nat := 136
abbrev T_haymowref10_Entry : Nat := 144
abbrev T_haymowref01_Four : Nat := 155
abbrev T_meter_words : Nat := 159
abbrev T_meter_Meter : Nat := 161
abbrev T_iter_Seq_int_ : Nat := 163
abbrev T_large_Large : Nat := 168
abbrev T_store_parts : Nat := 188
abbrev T_store_Store : Nat := 190
abbrev T_ref_Kind : Nat := 195
abbrev T_pool_Pool : Nat := 204
abbrev T_uint : Nat := 210
abbrev T_mem_space : Nat := 219
abbrev T_semi_side : Nat := 228
abbrev T_semi_Semi : Nat := 230
abbrev T_field_Field : Nat := 238
abbrev T_runtime_TypeAssertionError : Nat := 252
abbrev T_runtime_PanicNilError : Nat := 255
abbrev T_uint32 : Nat := 256
abbrev T_abi_TFlag : Nat := 257
abbrev T_abi_Kind : Nat := 258
abbrev T_abi_NameOff : Nat := 261
abbrev T_abi_TypeOff : Nat := 262
abbrev T_abi_Type : Nat := 264
theorem bits_Add64_ext {O : Type} : ExternOK Try.prog 120 (bits_Add64 (O := O)) := add64_ext Try.func120 (by kernel_rfl) (by kernel_rfl) (by kernel_rfl) rfl

/-- haymow/meter.New -/
noncomputable def meter_New_c {O : Type} : Sm O := fun xs σ =>
 bif Nat.beq xs.length 0 then
 let σ0 := σ.bump 1
 let σ1 := σ0.put σ.next (.cells true 161 [(.i .u64 0), (.i .u64 0), (.i .u64 0), (.i .u64 0), (.i .i64 0), (.i .i64 0)])
 some ((.p (some ((.n σ.next), 0))), σ1)
 else none
noncomputable def meter_New {O : Type} : Sm O := meter_New_c
theorem meter_New_ent : Entered Try.prog 119 := Try.call119
theorem meter_New_run {O : Type} : run (O := O) Try.prog [] Try.f119 (.n .z .z) = meter_New_c  := by kernel_rfl
theorem meter_New_sound {O : Type} {RO : O → Loc → (Nat → Option Obj) → Prop} : FSound RO Try.prog 119 (meter_New) :=
   have h : FSound RO Try.prog 119 (meter_New_c) := (meter_New_run) ▸ run_sound (gnil) mixed Try.func119 (by kernel_rfl) _
   h

/-- haymow/mem.New -/
noncomputable def mem_New_c {O : Type} (k119 : Sm O) : Sm O := fun xs σ =>
 bif Nat.beq xs.length 0 then
 let σ0 := σ.bump 1
 (k119 [] σ0).bind fun r1 =>
 (AV.asP r1.1).bind fun p2 =>
 let σ3 := r1.2.put σ.next (.cells true 43 [(.p p2), (.sl .nil 0), (.i .i64 0), (.i .i64 0)])
 some ((.p (some ((.n σ.next), 0))), σ3)
 else none
noncomputable def mem_New {O : Type} : Sm O := mem_New_c meter_New
theorem mem_New_ent : Entered Try.prog 56 := Try.call56
theorem mem_New_run {O : Type} (k119 : Sm O) : run (O := O) Try.prog [(119, k119)] Try.f56 (.n .z .z) = mem_New_c k119 := by kernel_rfl
theorem mem_New_sound {O : Type} {RO : O → Loc → (Nat → Option Obj) → Prop} : FSound RO Try.prog 56 (mem_New) :=
   have h : FSound RO Try.prog 56 (mem_New_c meter_New) := (mem_New_run meter_New) ▸ run_sound (gcons meter_New_ent (meter_New_sound) <| gnil) mixed Try.func56 (by kernel_rfl) _
   h

/-- (*haymow/meter.words).open -/
noncomputable def meter_words__open_c {O : Type} : Sm O := fun xs σ =>
 bif Nat.beq xs.length 2 then
 (AV.asP (xs.getD 0 .u)).bind fun p0 =>
 (AV.asI .i64 (xs.getD 1 .u)).bind fun n1 =>
 Option.bind p0 fun q2 =>
 (σ.ld q2.1 q2.2).bind fun w3 =>
 (AV.asI .i64 w3).bind fun n4 =>
 Option.bind p0 fun q5 =>
 (σ.st q5.1 q5.2 [(.i .i64 (IntKind.i64.wrap (n4 + n1)))]).bind fun σ6 =>
 Option.bind p0 fun q7 =>
 (σ6.ld q7.1 (q7.2 + 1)).bind fun w8 =>
 (AV.asI .i64 w8).bind fun n9 =>
 Option.bind p0 fun q10 =>
 (σ6.ld q10.1 q10.2).bind fun w11 =>
 (AV.asI .i64 w11).bind fun n12 =>
 Option.bind p0 fun q13 =>
 (σ6.st q13.1 (q13.2 + 1) [(.i .i64 (if n12 > n9 then n12 else n9))]).bind fun σ14 =>
 some ((.tup []), σ14)
 else none
noncomputable def meter_words__open {O : Type} : Sm O := meter_words__open_c
theorem meter_words__open_ent : Entered Try.prog 160 := Try.call160
theorem meter_words__open_run {O : Type} : run (O := O) Try.prog [] Try.f160 (.n .z (.d [] [0, 1, 2, 3, 4, 5, 6, 7, 8, 9, 10, 11, 12] [0, 0, 2, 6, 14, 0, 32, 96, 224, 510, 1023, 2047, 4095])) = meter_words__open_c  := by kernel_rfl
theorem meter_words__open_sound {O : Type} {RO : O → Loc → (Nat → Option Obj) → Prop} : FSound RO Try.prog 160 (meter_words__open) :=
   have h : FSound RO Try.prog 160 (meter_words__open_c) := (meter_words__open_run) ▸ run_sound (gnil) mixed Try.func160 (by kernel_rfl) _
   h

/-- (*haymow/meter.Meter).Hold -/
noncomputable def meter_Meter__Hold_c {O : Type} (k160 : Sm O) : Sm O := fun xs σ =>
 bif Nat.beq xs.length 2 then
 (AV.asP (xs.getD 0 .u)).bind fun p0 =>
 (AV.asI .i64 (xs.getD 1 .u)).bind fun n1 =>
 ((bif ((Option.isNone p0) == false) then
 some ([(.b (decide (n1 < 0)))], σ)
 else some ([(.b true)], σ)) : Option (List AV × AH O)).bind fun r2 =>
 (AV.asB (r2.1.getD 0 .u)).bind fun b3 =>
 (bif b3 then
 some ((.i .i64 1), r2.2)
 else Option.bind p0 fun q4 =>
 (r2.2.ld q4.1 (q4.2 + 4)).bind fun w5 =>
 (AV.asI .i64 w5).bind fun n6 =>
 let c7 : Bool := (decide (n1 > (IntKind.i64.wrap (281474976710656 - n6))))
 (bif c7 then
 some ((.i .i64 3), r2.2)
 else Option.bind p0 fun q8 =>
 (k160 [(.p (some (q8.1, (q8.2 + 4)))), (.i .i64 n1)] r2.2).bind fun r9 =>
 (AV.asTup 0 r9.1).bind fun c10 =>
 some ((.i .i64 0), r9.2)))
 else none
noncomputable def meter_Meter__Hold {O : Type} : Sm O := meter_Meter__Hold_c meter_words__open
theorem meter_Meter__Hold_ent : Entered Try.prog 137 := Try.call137
theorem meter_Meter__Hold_run {O : Type} (k160 : Sm O) : run (O := O) Try.prog [(160, k160)] Try.f137 (.n .z (.n (.n (.n (.g [(2, 2, [(11, .one .b)])]) (.n .z (.n .z (.n .z .z)))) .z) (.n .z .z))) = meter_Meter__Hold_c k160 := by kernel_rfl
theorem meter_Meter__Hold_sound {O : Type} {RO : O → Loc → (Nat → Option Obj) → Prop} : FSound RO Try.prog 137 (meter_Meter__Hold) :=
   have h : FSound RO Try.prog 137 (meter_Meter__Hold_c meter_words__open) := (meter_Meter__Hold_run meter_words__open) ▸ run_sound (gcons meter_words__open_ent (meter_words__open_sound) <| gnil) mixed Try.func137 (by kernel_rfl) _
   h

/-- (*haymow/mem.Mem).Open -/
noncomputable def mem_Mem__Open_L1 {O : Type} (p0 : Option (Bid × Nat)) : List AV × AH O → Option ((List AV × AH O) ⊕ (List AV × AH O)) := (fun r8 =>
 (AV.asI .i64 (r8.1.getD 0 .u)).bind fun n9 =>
 Option.bind p0 fun q10 =>
 (r8.2.ld q10.1 (q10.2 + 1)).bind fun w11 =>
 (AV.asSl w11).bind fun l12 =>
 ((bif ((decide (n9 < (l12.2 : Int))) == true) then
 Option.bind p0 fun q13 =>
 (r8.2.ld q13.1 (q13.2 + 1)).bind fun w14 =>
 (AV.asSl w14).bind fun l15 =>
 (bif ((decide ((0 : Int) ≤ n9)) && (decide (n9 < (l15.2 : Int)))) then
 (SA.ref l15.1).bind fun q16 =>
 (r8.2.ld q16.1 ((q16.2 + (n9.toNat * 2)) + 1)).bind fun w17 =>
 (AV.asB w17).bind fun b18 =>
 some ([(.b b18)], r8.2)
 else none)
 else some ([(.b false)], r8.2)) : Option (List AV × AH O)).bind fun r19 =>
 (AV.asB (r19.1.getD 0 .u)).bind fun b20 =>
 (bif b20 then
 some (Sum.inl ([(.i .i64 (IntKind.i64.wrap (n9 + 1)))], r19.2))
 else some (Sum.inr ([(.i .i64 n9)], r19.2))))
noncomputable def mem_Mem__Open_c {O : Type} (k137 : Sm O) : Sm O := fun xs σ =>
 bif Nat.beq xs.length 2 then
 (AV.asP (xs.getD 0 .u)).bind fun p0 =>
 (AV.asI .i64 (xs.getD 1 .u)).bind fun n1 =>
 (bif (decide (n1 < 0)) then
 some ((.tup [(.i .i64 0), (.i .i64 1)]), σ)
 else (bif (decide (n1 > 4194304)) then
 some ((.tup [(.i .i64 0), (.i .i64 7)]), σ)
 else Option.bind p0 fun q2 =>
 (σ.ld q2.1 (q2.2 + 3)).bind fun w3 =>
 (AV.asI .i64 w3).bind fun n4 =>
 (bif (decide (n4 ≥ 262144)) then
 some ((.tup [(.i .i64 0), (.i .i64 3)]), σ)
 else Option.bind p0 fun q5 =>
 (σ.ld q5.1 (q5.2 + 2)).bind fun w6 =>
 (AV.asI .i64 w6).bind fun n7 =>
 (loopF (S := List AV × AH O) (T := List AV × AH O) (mem_Mem__Open_L1 p0) ([(.i .i64 n7)], σ)).bind fun r21 =>
 (AV.asI .i64 (r21.1.getD 0 .u)).bind fun n22 =>
 Option.bind p0 fun q23 =>
 (r21.2.ld q23.1 (q23.2 + 1)).bind fun w24 =>
 (AV.asSl w24).bind fun l25 =>
 ((bif ((n22 : Int) == (l25.2 : Int)) then
 let σ26 := r21.2.bump 2
 Option.bind p0 fun q27 =>
 (σ26.ld q27.1 (q27.2 + 1)).bind fun w28 =>
 (AV.asSl w28).bind fun l29 =>
 let σ30 := σ26.put r21.2.next (.cells true 219 [(.sl .nil 0), (.b false)])
 (σ30.rdSl (.loc (.n r21.2.next) 0 2) 1 2).bind fun new31 =>
 (bif (Nat.ble ((l29.2 + 1) * 33) 35184372088832) then
 (σ30.appSl (r21.2.next + 1) 219 2 l29.1 l29.2 1 new31).bind fun r32 =>
 (AV.asSl r32.1).bind fun l33 =>
 Option.bind p0 fun q34 =>
 (r32.2.st q34.1 (q34.2 + 1) [(.sl l33.1 l33.2)]).bind fun σ35 =>
 some ([], σ35)
 else none)
 else some ([], r21.2)) : Option (List AV × AH O)).bind fun r36 =>
 let σ37 := r36.2.bump 1
 Option.bind p0 fun q38 =>
 (σ37.ld q38.1 (q38.2 + 1)).bind fun w39 =>
 (AV.asSl w39).bind fun l40 =>
 (bif ((((decide ((0 : Int) ≤ n1)) && (decide (n1 ≤ n1))) && (decide ((n1 * 8) ≤ 140737488355328))) && (decide (n1 ≤ 140737488355328))) then
 let σ41 := σ37.put r36.2.next (.cells true 36 ((List.replicate n1.toNat [(.i .u64 0)]).flatten))
 (bif ((decide ((0 : Int) ≤ n22)) && (decide (n22 < (l40.2 : Int)))) then
 (SA.ref l40.1).bind fun q42 =>
 (σ41.st q42.1 (q42.2 + (n22.toNat * 2)) [(.sl (.loc (.n r36.2.next) 0 1) n1.toNat), (.b true)]).bind fun σ43 =>
 Option.bind p0 fun q44 =>
 (σ43.ld q44.1 (q44.2 + 3)).bind fun w45 =>
 (AV.asI .i64 w45).bind fun n46 =>
 Option.bind p0 fun q47 =>
 (σ43.st q47.1 (q47.2 + 2) [(.i .i64 (IntKind.i64.wrap (n22 + 1)))]).bind fun σ48 =>
 Option.bind p0 fun q49 =>
 (σ48.st q49.1 (q49.2 + 3) [(.i .i64 (IntKind.i64.wrap (n46 + 1)))]).bind fun σ50 =>
 Option.bind p0 fun q51 =>
 (σ50.ld q51.1 q51.2).bind fun w52 =>
 (AV.asP w52).bind fun p53 =>
 (k137 [(.p p53), (.i .i64 n1)] σ50).bind fun r54 =>
 (AV.asI .i64 r54.1).bind fun n55 =>
 some ((.tup [(.i .i64 n22), (.i .i64 0)]), r54.2)
 else none)
 else none))))
 else none
noncomputable def mem_Mem__Open {O : Type} : Sm O := mem_Mem__Open_c meter_Meter__Hold
theorem mem_Mem__Open_ent : Entered Try.prog 82 := Try.call82
theorem mem_Mem__Open_run {O : Type} (k137 : Sm O) : run (O := O) Try.prog [(137, k137)] Try.f82 (.n .z (.n (.n (.n .z (.n .z (.n .z (.n .z (.n .z (.n .z .z)))))) .z) (.n .z (.n (.n (.lp false 1 [(6, .one (.i .i64))] [(6, .one (.i .i64))] (.n (.n (.g [(7, 8, [(39, .one .b)])]) .z) .z)) .z) (.n (.n .z (.j false [] .z .z)) (.n (.d [] [0, 1, 2, 3, 4, 5, 6, 7, 8, 9] [0, 1, 3, 7, 0, 0, 32, 96, 255, 511]) (.n .z (.n .z .z)))))))) = mem_Mem__Open_c k137 := by kernel_rfl
theorem mem_Mem__Open_sound {O : Type} {RO : O → Loc → (Nat → Option Obj) → Prop} : FSound RO Try.prog 82 (mem_Mem__Open) :=
   have h : FSound RO Try.prog 82 (mem_Mem__Open_c meter_Meter__Hold) := (mem_Mem__Open_run meter_Meter__Hold) ▸ run_sound (gcons meter_Meter__Hold_ent (meter_Meter__Hold_sound) <| gnil) mixed Try.func82 (by kernel_rfl) _
   h

/-- haymow/pool.New -/
noncomputable def pool_New_c {O : Type} (k82 : Sm O) : Sm O := fun xs σ =>
 bif Nat.beq xs.length 2 then
 (AV.asP (xs.getD 0 .u)).bind fun p0 =>
 (AV.asI .i64 (xs.getD 1 .u)).bind fun n1 =>
 ((bif ((Option.isNone p0) == false) then
 some ([(.b (decide (n1 < 1)))], σ)
 else some ([(.b true)], σ)) : Option (List AV × AH O)).bind fun r2 =>
 (AV.asB (r2.1.getD 0 .u)).bind fun b3 =>
 ((bif (b3 == false) then
 some ([(.b (decide (n1 > 60)))], r2.2)
 else some ([(.b true)], r2.2)) : Option (List AV × AH O)).bind fun r4 =>
 (AV.asB (r4.1.getD 0 .u)).bind fun b5 =>
 (bif b5 then
 some ((.tup [(.p none), (.i .i64 1)]), r4.2)
 else (k82 [(.p p0), (.i .i64 0)] r4.2).bind fun r6 =>
 (AV.asTup 2 r6.1).bind fun c7 =>
 (AV.asI .i64 (c7.getD 0 .u)).bind fun n8 =>
 (AV.asI .i64 (c7.getD 1 .u)).bind fun n9 =>
 (bif ((n9 : Int) != 0) then
 some ((.tup [(.p none), (.i .i64 n9)]), r6.2)
 else let σ10 := r6.2.bump 1
 let σ11 := σ10.put r6.2.next (.cells true 204 [(.p p0), (.i .i64 n8), (.i .i64 n1), (.i .i64 0), (.i .i64 0), (.i .i64 0), (.i .i64 0)])
 some ((.tup [(.p (some ((.n r6.2.next), 0))), (.i .i64 0)]), σ11)))
 else none
noncomputable def pool_New {O : Type} : Sm O := pool_New_c mem_Mem__Open
theorem pool_New_ent : Entered Try.prog 81 := Try.call81
theorem pool_New_run {O : Type} (k82 : Sm O) : run (O := O) Try.prog [(82, k82)] Try.f81 (.n .z (.n (.n (.g [(2, 2, [(13, .one .b)]), (6, 2, [(17, .one .b)])]) (.n .z .z)) (.n .z (.n (.n .z (.n .z .z)) .z)))) = pool_New_c k82 := by kernel_rfl
theorem pool_New_sound {O : Type} {RO : O → Loc → (Nat → Option Obj) → Prop} : FSound RO Try.prog 81 (pool_New) :=
   have h : FSound RO Try.prog 81 (pool_New_c mem_Mem__Open) := (pool_New_run mem_Mem__Open) ▸ run_sound (gcons mem_Mem__Open_ent (mem_Mem__Open_sound) <| gnil) mixed Try.func81 (by kernel_rfl) _
   h

/-- haymow/large.New -/
noncomputable def large_New_c {O : Type} (k81 : Sm O) : Sm O := fun xs σ =>
 bif Nat.beq xs.length 1 then
 (AV.asP (xs.getD 0 .u)).bind fun p0 =>
 (k81 [(.p p0), (.i .i64 5)] σ).bind fun r1 =>
 (AV.asTup 2 r1.1).bind fun c2 =>
 (AV.asP (c2.getD 0 .u)).bind fun p3 =>
 (AV.asI .i64 (c2.getD 1 .u)).bind fun n4 =>
 (bif ((n4 : Int) != 0) then
 some ((.tup [(.p none), (.i .i64 n4)]), r1.2)
 else let σ5 := r1.2.bump 1
 let σ6 := σ5.put r1.2.next (.cells true 168 [(.p p0), (.p p3), (.i .i64 0), (.i .i64 0), (.i .i64 0), (.i .i64 0), (.i .i64 0), (.i .i64 0), (.i .u64 0), (.i .i64 0), (.i .i64 0)])
 some ((.tup [(.p (some ((.n r1.2.next), 0))), (.i .i64 0)]), σ6))
 else none
noncomputable def large_New {O : Type} : Sm O := large_New_c pool_New
theorem large_New_ent : Entered Try.prog 25 := Try.call25
theorem large_New_run {O : Type} (k81 : Sm O) : run (O := O) Try.prog [(81, k81)] Try.f25 (.n .z (.n .z (.n (.n .z (.n .z .z)) .z))) = large_New_c k81 := by kernel_rfl
theorem large_New_sound {O : Type} {RO : O → Loc → (Nat → Option Obj) → Prop} : FSound RO Try.prog 25 (large_New) :=
   have h : FSound RO Try.prog 25 (large_New_c pool_New) := (large_New_run pool_New) ▸ run_sound (gcons pool_New_ent (pool_New_sound) <| gnil) mixed Try.func25 (by kernel_rfl) _
   h

/-- haymow/haymowlaw15.made -/
noncomputable def law15_made_c {O : Type} (k56 k25 : Sm O) : Sm O := fun xs σ =>
 bif Nat.beq xs.length 0 then
 (k56 [] σ).bind fun r0 =>
 (AV.asP r0.1).bind fun p1 =>
 (bif (Option.isNone p1) then
 some ((.tup [(.p none), (.p none), (.b false)]), r0.2)
 else (k25 [(.p p1)] r0.2).bind fun r2 =>
 (AV.asTup 2 r2.1).bind fun c3 =>
 (AV.asP (c3.getD 0 .u)).bind fun p4 =>
 (AV.asI .i64 (c3.getD 1 .u)).bind fun n5 =>
 ((bif ((!(Option.isNone p4)) == true) then
 some ([(.b ((n5 : Int) == 0))], r2.2)
 else some ([(.b false)], r2.2)) : Option (List AV × AH O)).bind fun r6 =>
 (AV.asB (r6.1.getD 0 .u)).bind fun b7 =>
 some ((.tup [(.p p1), (.p p4), (.b b7)]), r6.2))
 else none
noncomputable def law15_made {O : Type} : Sm O := law15_made_c mem_New large_New
theorem law15_made_ent : Entered Try.prog 26 := Try.call26
theorem law15_made_run {O : Type} (k56 k25 : Sm O) : run (O := O) Try.prog [(56, k56), (25, k25)] Try.f26 (.n .z (.n .z (.n (.n .z (.n .z .z)) (.n .z (.n (.g [(4, 2, [(21, .one .b)])]) .z))))) = law15_made_c k56 k25 := by kernel_rfl
theorem law15_made_sound {O : Type} {RO : O → Loc → (Nat → Option Obj) → Prop} : FSound RO Try.prog 26 (law15_made) :=
   have h : FSound RO Try.prog 26 (law15_made_c mem_New large_New) := (law15_made_run mem_New large_New) ▸ run_sound (gcons mem_New_ent (mem_New_sound) <| gcons large_New_ent (large_New_sound) <| gnil) mixed Try.func26 (by kernel_rfl) _
   h

/-- (*haymow/pool.Pool).width -/
noncomputable def pool_Pool__width_c {O : Type} : Sm O := fun xs σ =>
 bif Nat.beq xs.length 1 then
 (AV.asP (xs.getD 0 .u)).bind fun p0 =>
 Option.bind p0 fun q1 =>
 (σ.ld q1.1 (q1.2 + 2)).bind fun w2 =>
 (AV.asI .i64 w2).bind fun n3 =>
 some ((.i .i64 (IntKind.i64.wrap (n3 + 1))), σ)
 else none
noncomputable def pool_Pool__width {O : Type} : Sm O := pool_Pool__width_c
theorem pool_Pool__width_ent : Entered Try.prog 155 := Try.call155
theorem pool_Pool__width_run {O : Type} : run (O := O) Try.prog [] Try.f155 (.n .z .z) = pool_Pool__width_c  := by kernel_rfl
theorem pool_Pool__width_sound {O : Type} {RO : O → Loc → (Nat → Option Obj) → Prop} : FSound RO Try.prog 155 (pool_Pool__width) :=
   have h : FSound RO Try.prog 155 (pool_Pool__width_c) := (pool_Pool__width_run) ▸ run_sound (gnil) mixed Try.func155 (by kernel_rfl) _
   h

/-- (*haymow/mem.Mem).at -/
noncomputable def mem_Mem__at_c {O : Type} : Sm O := fun xs σ =>
 bif Nat.beq xs.length 2 then
 (AV.asP (xs.getD 0 .u)).bind fun p0 =>
 (AV.asI .i64 (xs.getD 1 .u)).bind fun n1 =>
 ((bif ((decide (n1 < 0)) == false) then
 Option.bind p0 fun q2 =>
 (σ.ld q2.1 (q2.2 + 1)).bind fun w3 =>
 (AV.asSl w3).bind fun l4 =>
 some ([(.b (decide (n1 ≥ (l4.2 : Int))))], σ)
 else some ([(.b true)], σ)) : Option (List AV × AH O)).bind fun r5 =>
 (AV.asB (r5.1.getD 0 .u)).bind fun b6 =>
 ((bif (b6 == false) then
 Option.bind p0 fun q7 =>
 (r5.2.ld q7.1 (q7.2 + 1)).bind fun w8 =>
 (AV.asSl w8).bind fun l9 =>
 (bif ((decide ((0 : Int) ≤ n1)) && (decide (n1 < (l9.2 : Int)))) then
 (SA.ref l9.1).bind fun q10 =>
 (r5.2.ld q10.1 ((q10.2 + (n1.toNat * 2)) + 1)).bind fun w11 =>
 (AV.asB w11).bind fun b12 =>
 some ([(.b (!b12))], r5.2)
 else none)
 else some ([(.b true)], r5.2)) : Option (List AV × AH O)).bind fun r13 =>
 (AV.asB (r13.1.getD 0 .u)).bind fun b14 =>
 (bif b14 then
 some ((.p none), r13.2)
 else Option.bind p0 fun q15 =>
 (r13.2.ld q15.1 (q15.2 + 1)).bind fun w16 =>
 (AV.asSl w16).bind fun l17 =>
 (bif ((decide ((0 : Int) ≤ n1)) && (decide (n1 < (l17.2 : Int)))) then
 (SA.ref l17.1).bind fun q18 =>
 some ((.p (some (q18.1, (q18.2 + (n1.toNat * 2))))), r13.2)
 else none))
 else none
noncomputable def mem_Mem__at {O : Type} : Sm O := mem_Mem__at_c
theorem mem_Mem__at_ent : Entered Try.prog 138 := Try.call138
theorem mem_Mem__at_run {O : Type} : run (O := O) Try.prog [] Try.f138 (.n .z (.n (.n (.g [(2, 7, [(15, .one .b)]), (11, 9, [(26, .one .b)])]) (.n .z .z)) .z)) = mem_Mem__at_c  := by kernel_rfl
theorem mem_Mem__at_sound {O : Type} {RO : O → Loc → (Nat → Option Obj) → Prop} : FSound RO Try.prog 138 (mem_Mem__at) :=
   have h : FSound RO Try.prog 138 (mem_Mem__at_c) := (mem_Mem__at_run) ▸ run_sound (gnil) mixed Try.func138 (by kernel_rfl) _
   h

/-- (*haymow/mem.Mem).Grow -/
noncomputable def mem_Mem__Grow_c {O : Type} (k138 k137 : Sm O) : Sm O := fun xs σ =>
 bif Nat.beq xs.length 3 then
 (AV.asP (xs.getD 0 .u)).bind fun p0 =>
 (AV.asI .i64 (xs.getD 1 .u)).bind fun n1 =>
 (AV.asI .i64 (xs.getD 2 .u)).bind fun n2 =>
 (k138 [(.p p0), (.i .i64 n1)] σ).bind fun r3 =>
 (AV.asP r3.1).bind fun p4 =>
 (bif (Option.isNone p4) then
 some ((.i .i64 10), r3.2)
 else Option.bind p4 fun q5 =>
 (r3.2.ld q5.1 q5.2).bind fun w6 =>
 (AV.asSl w6).bind fun l7 =>
 (bif (decide (n2 < (l7.2 : Int))) then
 some ((.i .i64 1), r3.2)
 else (bif (decide (n2 > 4194304)) then
 some ((.i .i64 7), r3.2)
 else Option.bind p0 fun q8 =>
 (r3.2.ld q8.1 q8.2).bind fun w9 =>
 (AV.asP w9).bind fun p10 =>
 Option.bind p4 fun q11 =>
 (r3.2.ld q11.1 q11.2).bind fun w12 =>
 (AV.asSl w12).bind fun l13 =>
 (k137 [(.p p10), (.i .i64 (IntKind.i64.wrap (n2 - (l13.2 : Int))))] r3.2).bind fun r14 =>
 (AV.asI .i64 r14.1).bind fun n15 =>
 let σ16 := r14.2.bump 1
 (bif ((((decide ((0 : Int) ≤ n2)) && (decide (n2 ≤ n2))) && (decide ((n2 * 8) ≤ 140737488355328))) && (decide (n2 ≤ 140737488355328))) then
 let σ17 := σ16.put r14.2.next (.cells true 36 ((List.replicate n2.toNat [(.i .u64 0)]).flatten))
 Option.bind p4 fun q18 =>
 (σ17.ld q18.1 q18.2).bind fun w19 =>
 (AV.asSl w19).bind fun l20 =>
 (bif Nat.beq (min l20.2 n2.toNat) 0 then
 Option.bind p4 fun q24 =>
 (σ17.st q24.1 q24.2 [(.sl (.loc (.n r14.2.next) 0 1) n2.toNat)]).bind fun σ25 =>
 some ((.i .i64 0), σ25)
 else
 (σ17.rdSl l20.1 (min l20.2 n2.toNat) 1).bind fun c22 =>
 (σ17.wrSl (.loc (.n r14.2.next) 0 1) c22).bind fun σ23 =>
 Option.bind p4 fun q26 =>
 (σ23.st q26.1 q26.2 [(.sl (.loc (.n r14.2.next) 0 1) n2.toNat)]).bind fun σ27 =>
 some ((.i .i64 0), σ27))
 else none))))
 else none
noncomputable def mem_Mem__Grow {O : Type} : Sm O := mem_Mem__Grow_c mem_Mem__at meter_Meter__Hold
theorem mem_Mem__Grow_ent : Entered Try.prog 154 := Try.call154
theorem mem_Mem__Grow_run {O : Type} (k138 k137 : Sm O) : run (O := O) Try.prog [(138, k138), (137, k137)] Try.f154 (.n .z (.n .z (.n (.n (.n .z (.n .z (.n .z (.n .z (.n .z (.n .z .z)))))) .z) (.n (.d [] [0, 1, 2, 3, 4, 5, 6, 7, 8, 9, 10, 11] [0, 1, 3, 7, 0, 0, 32, 96, 224, 480, 1008, 2047]) (.n .z (.n .z (.n .z .z))))))) = mem_Mem__Grow_c k138 k137 := by kernel_rfl
theorem mem_Mem__Grow_sound {O : Type} {RO : O → Loc → (Nat → Option Obj) → Prop} : FSound RO Try.prog 154 (mem_Mem__Grow) :=
   have h : FSound RO Try.prog 154 (mem_Mem__Grow_c mem_Mem__at meter_Meter__Hold) := (mem_Mem__Grow_run mem_Mem__at meter_Meter__Hold) ▸ run_sound (gcons mem_Mem__at_ent (mem_Mem__at_sound) <| gcons meter_Meter__Hold_ent (meter_Meter__Hold_sound) <| gnil) mixed Try.func154 (by kernel_rfl) _
   h

/-- (*haymow/pool.Pool).grow -/
noncomputable def pool_Pool__grow_c {O : Type} (k155 k154 : Sm O) : Sm O := fun xs σ =>
 bif Nat.beq xs.length 1 then
 (AV.asP (xs.getD 0 .u)).bind fun p0 =>
 Option.bind p0 fun q1 =>
 (σ.ld q1.1 (q1.2 + 3)).bind fun w2 =>
 (AV.asI .i64 w2).bind fun n3 =>
 (bif (decide (n3 ≥ 1048576)) then
 some ((.i .i64 3), σ)
 else Option.bind p0 fun q4 =>
 (σ.ld q4.1 (q4.2 + 3)).bind fun w5 =>
 (AV.asI .i64 w5).bind fun n6 =>
 Option.bind p0 fun q7 =>
 (σ.ld q7.1 (q7.2 + 4)).bind fun w8 =>
 (AV.asI .i64 w8).bind fun n9 =>
 (bif (decide (n6 < n9)) then
 some ((.i .i64 0), σ)
 else Option.bind p0 fun q10 =>
 (σ.ld q10.1 (q10.2 + 4)).bind fun w11 =>
 (AV.asI .i64 w11).bind fun n12 =>
 let v13 : Int := (if (IntKind.i64.wrap (2 * n12)) > 8 then (IntKind.i64.wrap (2 * n12)) else 8)
 Option.bind p0 fun q14 =>
 (σ.ld q14.1 q14.2).bind fun w15 =>
 (AV.asP w15).bind fun p16 =>
 Option.bind p0 fun q17 =>
 (σ.ld q17.1 (q17.2 + 1)).bind fun w18 =>
 (AV.asI .i64 w18).bind fun n19 =>
 (k155 [(.p p0)] σ).bind fun r20 =>
 (AV.asI .i64 r20.1).bind fun n21 =>
 (chkE (r20.2.ld q14.1 q14.2) (some (.p p16))).bind fun _ =>
 (chkE (r20.2.ld q17.1 (q17.2 + 1)) (some (.i .i64 n19))).bind fun _ =>
 (k154 [(.p p16), (.i .i64 n19), (.i .i64 (IntKind.i64.wrap (v13 * n21)))] r20.2).bind fun r22 =>
 (AV.asI .i64 r22.1).bind fun n23 =>
 (bif ((n23 : Int) != 0) then
 some ((.i .i64 3), r22.2)
 else Option.bind p0 fun q24 =>
 (r22.2.st q24.1 (q24.2 + 4) [(.i .i64 v13)]).bind fun σ25 =>
 some ((.i .i64 0), σ25))))
 else none
noncomputable def pool_Pool__grow {O : Type} : Sm O := pool_Pool__grow_c pool_Pool__width mem_Mem__Grow
theorem pool_Pool__grow_ent : Entered Try.prog 122 := Try.call122
theorem pool_Pool__grow_run {O : Type} (k155 k154 : Sm O) : run (O := O) Try.prog [(155, k155), (154, k154)] Try.f122 (.n .z (.n (.n (.n .z (.n .z (.n (.d [] [0, 1, 2, 3, 4, 5, 6, 7, 8, 9] [0, 1, 3, 7, 0, 16, 48, 112, 255, 511]) (.n .z .z)))) .z) (.n .z (.n (.n (.d [] [0, 1, 2, 3, 4, 5, 6, 7, 8, 9, 10, 11, 12, 13] [0, 1, 3, 7, 0, 16, 48, 112, 0, 0, 512, 1792, 4095, 8191]) (.n .z (.n .z .z))) (.n .z .z))))) = pool_Pool__grow_c k155 k154 := by kernel_rfl
theorem pool_Pool__grow_sound {O : Type} {RO : O → Loc → (Nat → Option Obj) → Prop} : FSound RO Try.prog 122 (pool_Pool__grow) :=
   have h : FSound RO Try.prog 122 (pool_Pool__grow_c pool_Pool__width mem_Mem__Grow) := (pool_Pool__grow_run pool_Pool__width mem_Mem__Grow) ▸ run_sound (gcons pool_Pool__width_ent (pool_Pool__width_sound) <| gcons mem_Mem__Grow_ent (mem_Mem__Grow_sound) <| gnil) mixed Try.func122 (by kernel_rfl) _
   h

/-- (*haymow/pool.Pool).at -/
noncomputable def pool_Pool__at_c {O : Type} (k155 : Sm O) : Sm O := fun xs σ =>
 bif Nat.beq xs.length 3 then
 (AV.asP (xs.getD 0 .u)).bind fun p0 =>
 (AV.asI .i64 (xs.getD 1 .u)).bind fun n1 =>
 (AV.asI .i64 (xs.getD 2 .u)).bind fun n2 =>
 (k155 [(.p p0)] σ).bind fun r3 =>
 (AV.asI .i64 r3.1).bind fun n4 =>
 let v5 : Int := (IntKind.i64.wrap ((IntKind.i64.wrap (n1 - 1)) * n4))
 let v6 : Int := (IntKind.i64.wrap ((IntKind.i64.wrap (v5 + 1)) + n2))
 some ((.i .i64 v6), r3.2)
 else none
noncomputable def pool_Pool__at {O : Type} : Sm O := pool_Pool__at_c pool_Pool__width
theorem pool_Pool__at_ent : Entered Try.prog 123 := Try.call123
theorem pool_Pool__at_run {O : Type} (k155 : Sm O) : run (O := O) Try.prog [(155, k155)] Try.f123 (.n .z .z) = pool_Pool__at_c k155 := by kernel_rfl
theorem pool_Pool__at_sound {O : Type} {RO : O → Loc → (Nat → Option Obj) → Prop} : FSound RO Try.prog 123 (pool_Pool__at) :=
   have h : FSound RO Try.prog 123 (pool_Pool__at_c pool_Pool__width) := (pool_Pool__at_run pool_Pool__width) ▸ run_sound (gcons pool_Pool__width_ent (pool_Pool__width_sound) <| gnil) mixed Try.func123 (by kernel_rfl) _
   h

/-- (*haymow/mem.Mem).within -/
noncomputable def mem_Mem__within_c {O : Type} (k138 : Sm O) : Sm O := fun xs σ =>
 bif Nat.beq xs.length 4 then
 (AV.asP (xs.getD 0 .u)).bind fun p0 =>
 (AV.asI .i64 (xs.getD 1 .u)).bind fun n1 =>
 (AV.asI .i64 (xs.getD 2 .u)).bind fun n2 =>
 (AV.asI .i64 (xs.getD 3 .u)).bind fun n3 =>
 (k138 [(.p p0), (.i .i64 n1)] σ).bind fun r4 =>
 (AV.asP r4.1).bind fun p5 =>
 (bif (Option.isNone p5) then
 some ((.tup [(.sl .nil 0), (.i .i64 10)]), r4.2)
 else ((bif ((decide (n3 < 0)) == false) then
 some ([(.b (decide (n2 < 0)))], r4.2)
 else some ([(.b true)], r4.2)) : Option (List AV × AH O)).bind fun r6 =>
 (AV.asB (r6.1.getD 0 .u)).bind fun b7 =>
 ((bif (b7 == false) then
 Option.bind p5 fun q8 =>
 (r6.2.ld q8.1 q8.2).bind fun w9 =>
 (AV.asSl w9).bind fun l10 =>
 some ([(.b (decide (n2 > (l10.2 : Int))))], r6.2)
 else some ([(.b true)], r6.2)) : Option (List AV × AH O)).bind fun r11 =>
 (AV.asB (r11.1.getD 0 .u)).bind fun b12 =>
 ((bif (b12 == false) then
 Option.bind p5 fun q13 =>
 (r11.2.ld q13.1 q13.2).bind fun w14 =>
 (AV.asSl w14).bind fun l15 =>
 let c16 : Bool := (decide (n3 > (IntKind.i64.wrap ((l15.2 : Int) - n2))))
 some ([(.b c16)], r11.2)
 else some ([(.b true)], r11.2)) : Option (List AV × AH O)).bind fun r17 =>
 (AV.asB (r17.1.getD 0 .u)).bind fun b18 =>
 (bif b18 then
 some ((.tup [(.sl .nil 0), (.i .i64 11)]), r17.2)
 else Option.bind p5 fun q19 =>
 (r17.2.ld q19.1 q19.2).bind fun w20 =>
 (AV.asSl w20).bind fun l21 =>
 (bif (((decide ((0 : Int) ≤ n2)) && (decide (n2 ≤ (IntKind.i64.wrap (n2 + n3))))) && (decide ((IntKind.i64.wrap (n2 + n3)) ≤ (l21.2 : Int)))) then
 (SA.adv l21.1 n2.toNat 1).bind fun a22 =>
 some ((.tup [(.sl a22 ((IntKind.i64.wrap (n2 + n3)).toNat - n2.toNat)), (.i .i64 0)]), r17.2)
 else none)))
 else none
noncomputable def mem_Mem__within {O : Type} : Sm O := mem_Mem__within_c mem_Mem__at
theorem mem_Mem__within_ent : Entered Try.prog 142 := Try.call142
theorem mem_Mem__within_run {O : Type} (k138 : Sm O) : run (O := O) Try.prog [(138, k138)] Try.f142 (.n .z (.n .z (.n (.n (.n .z (.n .z (.n (.g [(2, 2, [(23, .one .b)]), (6, 7, [(32, .one .b)]), (15, 9, [(43, .one .b)])]) (.n .z .z)))) .z) .z))) = mem_Mem__within_c k138 := by kernel_rfl
theorem mem_Mem__within_sound {O : Type} {RO : O → Loc → (Nat → Option Obj) → Prop} : FSound RO Try.prog 142 (mem_Mem__within) :=
   have h : FSound RO Try.prog 142 (mem_Mem__within_c mem_Mem__at) := (mem_Mem__within_run mem_Mem__at) ▸ run_sound (gcons mem_Mem__at_ent (mem_Mem__at_sound) <| gnil) mixed Try.func142 (by kernel_rfl) _
   h

/-- haymow/wide.Of -/
noncomputable def wide_Of_c {O : Type} : Sm O := fun xs σ =>
 bif Nat.beq xs.length 1 then
 (AV.asI .u64 (xs.getD 0 .u)).bind fun n0 =>
 let σ1 := σ.bump 1
 let σ2 := σ1.put σ.next (.cells true 38 [(.i .u64 0), (.i .u64 0)])
 (σ2.st (.n σ.next) 0 [(.i .u64 0), (.i .u64 n0)]).bind fun σ3 =>
 (σ3.ld (.n σ.next) 0).bind fun w4 =>
 (AV.asI .u64 w4).bind fun n5 =>
 (σ3.ld (.n σ.next) 1).bind fun w6 =>
 (AV.asI .u64 w6).bind fun n7 =>
 some ((.agg [(.i .u64 n5), (.i .u64 n7)]), σ3)
 else none
noncomputable def wide_Of {O : Type} : Sm O := wide_Of_c
theorem wide_Of_ent : Entered Try.prog 162 := Try.call162
theorem wide_Of_run {O : Type} : run (O := O) Try.prog [] Try.f162 (.n .z .z) = wide_Of_c  := by kernel_rfl
theorem wide_Of_sound {O : Type} {RO : O → Loc → (Nat → Option Obj) → Prop} : FSound RO Try.prog 162 (wide_Of) :=
   have h : FSound RO Try.prog 162 (wide_Of_c) := (wide_Of_run) ▸ run_sound (gnil) mixed Try.func162 (by kernel_rfl) _
   h

/-- haymow/wide.Most -/
noncomputable def wide_Most_c {O : Type} : Sm O := fun xs σ =>
 bif Nat.beq xs.length 0 then
 let σ0 := σ.bump 1
 let σ1 := σ0.put σ.next (.cells true 38 [(.i .u64 0), (.i .u64 0)])
 (σ1.st (.n σ.next) 0 [(.i .u64 18446744073709551615), (.i .u64 18446744073709551615)]).bind fun σ2 =>
 (σ2.ld (.n σ.next) 0).bind fun w3 =>
 (AV.asI .u64 w3).bind fun n4 =>
 (σ2.ld (.n σ.next) 1).bind fun w5 =>
 (AV.asI .u64 w5).bind fun n6 =>
 some ((.agg [(.i .u64 n4), (.i .u64 n6)]), σ2)
 else none
noncomputable def wide_Most {O : Type} : Sm O := wide_Most_c
theorem wide_Most_ent : Entered Try.prog 121 := Try.call121
theorem wide_Most_run {O : Type} : run (O := O) Try.prog [] Try.f121 (.n .z .z) = wide_Most_c  := by kernel_rfl
theorem wide_Most_sound {O : Type} {RO : O → Loc → (Nat → Option Obj) → Prop} : FSound RO Try.prog 121 (wide_Most) :=
   have h : FSound RO Try.prog 121 (wide_Most_c) := (wide_Most_run) ▸ run_sound (gnil) mixed Try.func121 (by kernel_rfl) _
   h

/-- haymow/wide.Add -/
noncomputable def wide_Add_c {O : Type} (k120 k121 : Sm O) : Sm O := fun xs σ =>
 bif Nat.beq xs.length 2 then
 (AV.asAgg 2 (xs.getD 0 .u)).bind fun c0 =>
 (AV.asI .u64 (c0.getD 0 .u)).bind fun n1 =>
 (AV.asI .u64 (c0.getD 1 .u)).bind fun n2 =>
 (AV.asAgg 2 (xs.getD 1 .u)).bind fun c3 =>
 (AV.asI .u64 (c3.getD 0 .u)).bind fun n4 =>
 (AV.asI .u64 (c3.getD 1 .u)).bind fun n5 =>
 let σ6 := σ.bump 3
 let σ7 := σ6.put σ.next (.cells true 38 [(.i .u64 n1), (.i .u64 n2)])
 let σ8 := σ7.put (σ.next + 1) (.cells true 38 [(.i .u64 n4), (.i .u64 n5)])
 let σ9 := σ8.put ((σ.next + 1) + 1) (.cells true 38 [(.i .u64 0), (.i .u64 0)])
 (σ9.ld (.n σ.next) 1).bind fun w10 =>
 (AV.asI .u64 w10).bind fun n11 =>
 (σ9.ld (.n (σ.next + 1)) 1).bind fun w12 =>
 (AV.asI .u64 w12).bind fun n13 =>
 (k120 [(.i .u64 n11), (.i .u64 n13), (.i .u64 0)] σ9).bind fun r14 =>
 (AV.asTup 2 r14.1).bind fun c15 =>
 (AV.asI .u64 (c15.getD 0 .u)).bind fun n16 =>
 (AV.asI .u64 (c15.getD 1 .u)).bind fun n17 =>
 (r14.2.ld (.n σ.next) 0).bind fun w18 =>
 (AV.asI .u64 w18).bind fun n19 =>
 (r14.2.ld (.n (σ.next + 1)) 0).bind fun w20 =>
 (AV.asI .u64 w20).bind fun n21 =>
 (k120 [(.i .u64 n19), (.i .u64 n21), (.i .u64 n17)] r14.2).bind fun r22 =>
 (AV.asTup 2 r22.1).bind fun c23 =>
 (AV.asI .u64 (c23.getD 0 .u)).bind fun n24 =>
 (AV.asI .u64 (c23.getD 1 .u)).bind fun n25 =>
 (bif ((n25 : Int) != 0) then
 (k121 [] r22.2).bind fun r26 =>
 (AV.asAgg 2 r26.1).bind fun c27 =>
 (AV.asI .u64 (c27.getD 0 .u)).bind fun n28 =>
 (AV.asI .u64 (c27.getD 1 .u)).bind fun n29 =>
 (r26.2.st (.n ((σ.next + 1) + 1)) 0 [(.i .u64 n28), (.i .u64 n29)]).bind fun σ30 =>
 (σ30.ld (.n ((σ.next + 1) + 1)) 0).bind fun w31 =>
 (AV.asI .u64 w31).bind fun n32 =>
 (σ30.ld (.n ((σ.next + 1) + 1)) 1).bind fun w33 =>
 (AV.asI .u64 w33).bind fun n34 =>
 some ((.tup [(.agg [(.i .u64 n32), (.i .u64 n34)]), (.b false)]), σ30)
 else (r22.2.st (.n ((σ.next + 1) + 1)) 0 [(.i .u64 n24), (.i .u64 n16)]).bind fun σ35 =>
 (σ35.ld (.n ((σ.next + 1) + 1)) 0).bind fun w36 =>
 (AV.asI .u64 w36).bind fun n37 =>
 (σ35.ld (.n ((σ.next + 1) + 1)) 1).bind fun w38 =>
 (AV.asI .u64 w38).bind fun n39 =>
 some ((.tup [(.agg [(.i .u64 n37), (.i .u64 n39)]), (.b true)]), σ35))
 else none
noncomputable def wide_Add {O : Type} : Sm O := wide_Add_c bits_Add64 wide_Most
theorem wide_Add_ent : Entered Try.prog 58 := Try.call58
theorem wide_Add_run {O : Type} (k120 k121 : Sm O) : run (O := O) Try.prog [(120, k120), (121, k121)] Try.f58 (.n .z (.n .z (.n .z (.n (.n .z (.n .z .z)) .z)))) = wide_Add_c k120 k121 := by kernel_rfl
theorem wide_Add_sound {O : Type} {RO : O → Loc → (Nat → Option Obj) → Prop} : FSound RO Try.prog 58 (wide_Add) :=
   have h : FSound RO Try.prog 58 (wide_Add_c bits_Add64 wide_Most) := (wide_Add_run bits_Add64 wide_Most) ▸ run_sound (gext bits_Add64_ext <| gcons wide_Most_ent (wide_Most_sound) <| gnil) mixed Try.func58 (by kernel_rfl) _
   h

/-- (*haymow/meter.Meter).Step -/
noncomputable def meter_Meter__Step_c {O : Type} (k162 k58 : Sm O) : Sm O := fun xs σ =>
 bif Nat.beq xs.length 3 then
 (AV.asP (xs.getD 0 .u)).bind fun p0 =>
 (AV.asI .i64 (xs.getD 1 .u)).bind fun n1 =>
 (AV.asI .i64 (xs.getD 2 .u)).bind fun n2 =>
 ((bif ((Option.isNone p0) == false) then
 some ([(.b (decide (n1 < 0)))], σ)
 else some ([(.b true)], σ)) : Option (List AV × AH O)).bind fun r3 =>
 (AV.asB (r3.1.getD 0 .u)).bind fun b4 =>
 ((bif (b4 == false) then
 some ([(.b (decide (n1 ≥ 2)))], r3.2)
 else some ([(.b true)], r3.2)) : Option (List AV × AH O)).bind fun r5 =>
 (AV.asB (r5.1.getD 0 .u)).bind fun b6 =>
 ((bif (b6 == false) then
 some ([(.b (decide (n2 < 1)))], r5.2)
 else some ([(.b true)], r5.2)) : Option (List AV × AH O)).bind fun r7 =>
 (AV.asB (r7.1.getD 0 .u)).bind fun b8 =>
 (bif b8 then
 some ((.tup []), r7.2)
 else Option.bind p0 fun q9 =>
 (bif ((decide ((0 : Int) ≤ n1)) && (decide (n1 < 2))) then
 (r7.2.ld q9.1 (q9.2 + (n1.toNat * 2))).bind fun w10 =>
 (AV.asI .u64 w10).bind fun n11 =>
 (r7.2.ld q9.1 ((q9.2 + (n1.toNat * 2)) + 1)).bind fun w12 =>
 (AV.asI .u64 w12).bind fun n13 =>
 Option.bind p0 fun q14 =>
 (k162 [(.i .u64 (IntKind.u64.wrap n2))] r7.2).bind fun r15 =>
 (AV.asAgg 2 r15.1).bind fun c16 =>
 (AV.asI .u64 (c16.getD 0 .u)).bind fun n17 =>
 (AV.asI .u64 (c16.getD 1 .u)).bind fun n18 =>
 (chkE (r15.2.ld q9.1 (q9.2 + (n1.toNat * 2))) (some (.i .u64 n11))).bind fun _ =>
 (chkE (r15.2.ld q9.1 ((q9.2 + (n1.toNat * 2)) + 1)) (some (.i .u64 n13))).bind fun _ =>
 (k58 [(.agg [(.i .u64 n11), (.i .u64 n13)]), (.agg [(.i .u64 n17), (.i .u64 n18)])] r15.2).bind fun r19 =>
 (AV.asTup 2 r19.1).bind fun c20 =>
 (AV.asAgg 2 (c20.getD 0 .u)).bind fun c21 =>
 (AV.asI .u64 (c21.getD 0 .u)).bind fun n22 =>
 (AV.asI .u64 (c21.getD 1 .u)).bind fun n23 =>
 (AV.asB (c20.getD 1 .u)).bind fun b24 =>
 (bif ((decide ((0 : Int) ≤ n1)) && (decide (n1 < 2))) then
 (r19.2.st q14.1 (q14.2 + (n1.toNat * 2)) [(.i .u64 n22), (.i .u64 n23)]).bind fun σ25 =>
 some ((.tup []), σ25)
 else none)
 else none))
 else none
noncomputable def meter_Meter__Step {O : Type} : Sm O := meter_Meter__Step_c wide_Of wide_Add
theorem meter_Meter__Step_ent : Entered Try.prog 143 := Try.call143
theorem meter_Meter__Step_run {O : Type} (k162 k58 : Sm O) : run (O := O) Try.prog [(162, k162), (58, k58)] Try.f143 (.n (.n (.g [(2, 2, [(11, .one .b)]), (6, 2, [(15, .one .b)]), (10, 2, [(19, .one .b)])]) .z) (.d [] [0, 1, 2, 3, 4, 5, 6, 7, 8, 9, 15, 16, 10, 11, 12, 13, 14, 17, 18] [0, 0, 0, 0, 4, 20, 60, 124, 0, 256, 768, 2044, 4092, 8188, 8188, 1, 32769, 114687, 245759])) = meter_Meter__Step_c k162 k58 := by kernel_rfl
theorem meter_Meter__Step_sound {O : Type} {RO : O → Loc → (Nat → Option Obj) → Prop} : FSound RO Try.prog 143 (meter_Meter__Step) :=
   have h : FSound RO Try.prog 143 (meter_Meter__Step_c wide_Of wide_Add) := (meter_Meter__Step_run wide_Of wide_Add) ▸ run_sound (gcons wide_Of_ent (wide_Of_sound) <| gcons wide_Add_ent (wide_Add_sound) <| gnil) mixed Try.func143 (by kernel_rfl) _
   h

/-- (*haymow/mem.Mem).Write -/
noncomputable def mem_Mem__Write_c {O : Type} (k142 k143 : Sm O) : Sm O := fun xs σ =>
 bif Nat.beq xs.length 4 then
 (AV.asP (xs.getD 0 .u)).bind fun p0 =>
 (AV.asI .i64 (xs.getD 1 .u)).bind fun n1 =>
 (AV.asI .i64 (xs.getD 2 .u)).bind fun n2 =>
 (AV.asI .u64 (xs.getD 3 .u)).bind fun n3 =>
 (k142 [(.p p0), (.i .i64 n1), (.i .i64 n2), (.i .i64 1)] σ).bind fun r4 =>
 (AV.asTup 2 r4.1).bind fun c5 =>
 (AV.asSl (c5.getD 0 .u)).bind fun l6 =>
 (AV.asI .i64 (c5.getD 1 .u)).bind fun n7 =>
 (bif ((n7 : Int) != 0) then
 some ((.i .i64 n7), r4.2)
 else Option.bind p0 fun q8 =>
 (r4.2.ld q8.1 q8.2).bind fun w9 =>
 (AV.asP w9).bind fun p10 =>
 (k143 [(.p p10), (.i .i64 1), (.i .i64 1)] r4.2).bind fun r11 =>
 (AV.asTup 0 r11.1).bind fun c12 =>
 (bif (decide ((0 : Int) < (l6.2 : Int))) then
 (SA.ref l6.1).bind fun q13 =>
 (r11.2.st q13.1 q13.2 [(.i .u64 n3)]).bind fun σ14 =>
 some ((.i .i64 0), σ14)
 else none))
 else none
noncomputable def mem_Mem__Write {O : Type} : Sm O := mem_Mem__Write_c mem_Mem__within meter_Meter__Step
theorem mem_Mem__Write_ent : Entered Try.prog 89 := Try.call89
theorem mem_Mem__Write_run {O : Type} (k142 k143 : Sm O) : run (O := O) Try.prog [(142, k142), (143, k143)] Try.f89 (.n .z (.n .z (.n (.n .z (.n .z .z)) (.n .z (.n .z .z))))) = mem_Mem__Write_c k142 k143 := by kernel_rfl
theorem mem_Mem__Write_sound {O : Type} {RO : O → Loc → (Nat → Option Obj) → Prop} : FSound RO Try.prog 89 (mem_Mem__Write) :=
   have h : FSound RO Try.prog 89 (mem_Mem__Write_c mem_Mem__within meter_Meter__Step) := (mem_Mem__Write_run mem_Mem__within meter_Meter__Step) ▸ run_sound (gcons mem_Mem__within_ent (mem_Mem__within_sound) <| gcons meter_Meter__Step_ent (meter_Meter__Step_sound) <| gnil) mixed Try.func89 (by kernel_rfl) _
   h

/-- (*haymow/mem.Mem).Read -/
noncomputable def mem_Mem__Read_c {O : Type} (k142 k143 : Sm O) : Sm O := fun xs σ =>
 bif Nat.beq xs.length 3 then
 (AV.asP (xs.getD 0 .u)).bind fun p0 =>
 (AV.asI .i64 (xs.getD 1 .u)).bind fun n1 =>
 (AV.asI .i64 (xs.getD 2 .u)).bind fun n2 =>
 (k142 [(.p p0), (.i .i64 n1), (.i .i64 n2), (.i .i64 1)] σ).bind fun r3 =>
 (AV.asTup 2 r3.1).bind fun c4 =>
 (AV.asSl (c4.getD 0 .u)).bind fun l5 =>
 (AV.asI .i64 (c4.getD 1 .u)).bind fun n6 =>
 (bif ((n6 : Int) != 0) then
 some ((.tup [(.i .u64 0), (.i .i64 n6)]), r3.2)
 else Option.bind p0 fun q7 =>
 (r3.2.ld q7.1 q7.2).bind fun w8 =>
 (AV.asP w8).bind fun p9 =>
 (k143 [(.p p9), (.i .i64 0), (.i .i64 1)] r3.2).bind fun r10 =>
 (AV.asTup 0 r10.1).bind fun c11 =>
 (bif (decide ((0 : Int) < (l5.2 : Int))) then
 (SA.ref l5.1).bind fun q12 =>
 (r10.2.ld q12.1 q12.2).bind fun w13 =>
 (AV.asI .u64 w13).bind fun n14 =>
 some ((.tup [(.i .u64 n14), (.i .i64 0)]), r10.2)
 else none))
 else none
noncomputable def mem_Mem__Read {O : Type} : Sm O := mem_Mem__Read_c mem_Mem__within meter_Meter__Step
theorem mem_Mem__Read_ent : Entered Try.prog 92 := Try.call92
theorem mem_Mem__Read_run {O : Type} (k142 k143 : Sm O) : run (O := O) Try.prog [(142, k142), (143, k143)] Try.f92 (.n .z (.n .z (.n (.n .z (.n .z .z)) (.n .z .z)))) = mem_Mem__Read_c k142 k143 := by kernel_rfl
theorem mem_Mem__Read_sound {O : Type} {RO : O → Loc → (Nat → Option Obj) → Prop} : FSound RO Try.prog 92 (mem_Mem__Read) :=
   have h : FSound RO Try.prog 92 (mem_Mem__Read_c mem_Mem__within meter_Meter__Step) := (mem_Mem__Read_run mem_Mem__within meter_Meter__Step) ▸ run_sound (gcons mem_Mem__within_ent (mem_Mem__within_sound) <| gcons meter_Meter__Step_ent (meter_Meter__Step_sound) <| gnil) mixed Try.func92 (by kernel_rfl) _
   h

/-- (*haymow/mem.Mem).Zero -/
noncomputable def mem_Mem__Zero_c {O : Type} (k142 k143 : Sm O) : Sm O := fun xs σ =>
 bif Nat.beq xs.length 4 then
 (AV.asP (xs.getD 0 .u)).bind fun p0 =>
 (AV.asI .i64 (xs.getD 1 .u)).bind fun n1 =>
 (AV.asI .i64 (xs.getD 2 .u)).bind fun n2 =>
 (AV.asI .i64 (xs.getD 3 .u)).bind fun n3 =>
 (k142 [(.p p0), (.i .i64 n1), (.i .i64 n2), (.i .i64 n3)] σ).bind fun r4 =>
 (AV.asTup 2 r4.1).bind fun c5 =>
 (AV.asSl (c5.getD 0 .u)).bind fun l6 =>
 (AV.asI .i64 (c5.getD 1 .u)).bind fun n7 =>
 (bif ((n7 : Int) != 0) then
 some ((.i .i64 n7), r4.2)
 else Option.bind p0 fun q8 =>
 (r4.2.ld q8.1 q8.2).bind fun w9 =>
 (AV.asP w9).bind fun p10 =>
 (k143 [(.p p10), (.i .i64 1), (.i .i64 n3)] r4.2).bind fun r11 =>
 (AV.asTup 0 r11.1).bind fun c12 =>
 (bif Nat.beq l6.2 0 then
 some ((.i .i64 0), r11.2)
 else
 (r11.2.wrSl l6.1 ((List.replicate l6.2 [(.i .u64 0)]).flatten)).bind fun σ13 =>
 some ((.i .i64 0), σ13)))
 else none
noncomputable def mem_Mem__Zero {O : Type} : Sm O := mem_Mem__Zero_c mem_Mem__within meter_Meter__Step
theorem mem_Mem__Zero_ent : Entered Try.prog 124 := Try.call124
theorem mem_Mem__Zero_run {O : Type} (k142 k143 : Sm O) : run (O := O) Try.prog [(142, k142), (143, k143)] Try.f124 (.n .z (.n .z (.n (.n .z (.n .z .z)) (.n .z (.n .z .z))))) = mem_Mem__Zero_c k142 k143 := by kernel_rfl
theorem mem_Mem__Zero_sound {O : Type} {RO : O → Loc → (Nat → Option Obj) → Prop} : FSound RO Try.prog 124 (mem_Mem__Zero) :=
   have h : FSound RO Try.prog 124 (mem_Mem__Zero_c mem_Mem__within meter_Meter__Step) := (mem_Mem__Zero_run mem_Mem__within meter_Meter__Step) ▸ run_sound (gcons mem_Mem__within_ent (mem_Mem__within_sound) <| gcons meter_Meter__Step_ent (meter_Meter__Step_sound) <| gnil) mixed Try.func124 (by kernel_rfl) _
   h

/-- (*haymow/pool.Pool).Take -/
noncomputable def pool_Pool__Take_c {O : Type} (k122 k123 k89 k92 k124 : Sm O) : Sm O := fun xs σ =>
 bif Nat.beq xs.length 1 then
 (AV.asP (xs.getD 0 .u)).bind fun p0 =>
 Option.bind p0 fun q1 =>
 (σ.ld q1.1 (q1.2 + 5)).bind fun w2 =>
 (AV.asI .i64 w2).bind fun n3 =>
 (bif ((n3 : Int) == 0) then
 (k122 [(.p p0)] σ).bind fun r4 =>
 (AV.asI .i64 r4.1).bind fun n5 =>
 (bif ((n5 : Int) != 0) then
 some ((.tup [(.i .i64 0), (.i .i64 n5)]), r4.2)
 else Option.bind p0 fun q6 =>
 (r4.2.ld q6.1 (q6.2 + 3)).bind fun w7 =>
 (AV.asI .i64 w7).bind fun n8 =>
 Option.bind p0 fun q9 =>
 (r4.2.st q9.1 (q9.2 + 3) [(.i .i64 (IntKind.i64.wrap (n8 + 1)))]).bind fun σ10 =>
 Option.bind p0 fun q11 =>
 (σ10.ld q11.1 (q11.2 + 3)).bind fun w12 =>
 (AV.asI .i64 w12).bind fun n13 =>
 Option.bind p0 fun q14 =>
 (σ10.ld q14.1 q14.2).bind fun w15 =>
 (AV.asP w15).bind fun p16 =>
 Option.bind p0 fun q17 =>
 (σ10.ld q17.1 (q17.2 + 1)).bind fun w18 =>
 (AV.asI .i64 w18).bind fun n19 =>
 (k123 [(.p p0), (.i .i64 n13), (.i .i64 (-1))] σ10).bind fun r20 =>
 (AV.asI .i64 r20.1).bind fun n21 =>
 (chkE (r20.2.ld q14.1 q14.2) (some (.p p16))).bind fun _ =>
 (chkE (r20.2.ld q17.1 (q17.2 + 1)) (some (.i .i64 n19))).bind fun _ =>
 (k89 [(.p p16), (.i .i64 n19), (.i .i64 n21), (.i .u64 1)] r20.2).bind fun r22 =>
 (AV.asI .i64 r22.1).bind fun n23 =>
 Option.bind p0 fun q24 =>
 (r22.2.ld q24.1 (q24.2 + 6)).bind fun w25 =>
 (AV.asI .i64 w25).bind fun n26 =>
 Option.bind p0 fun q27 =>
 (r22.2.st q27.1 (q27.2 + 6) [(.i .i64 (IntKind.i64.wrap (n26 + 1)))]).bind fun σ28 =>
 some ((.tup [(.i .i64 n13), (.i .i64 0)]), σ28))
 else Option.bind p0 fun q29 =>
 (σ.ld q29.1 q29.2).bind fun w30 =>
 (AV.asP w30).bind fun p31 =>
 Option.bind p0 fun q32 =>
 (σ.ld q32.1 (q32.2 + 1)).bind fun w33 =>
 (AV.asI .i64 w33).bind fun n34 =>
 (k123 [(.p p0), (.i .i64 n3), (.i .i64 0)] σ).bind fun r35 =>
 (AV.asI .i64 r35.1).bind fun n36 =>
 (chkE (r35.2.ld q29.1 q29.2) (some (.p p31))).bind fun _ =>
 (chkE (r35.2.ld q32.1 (q32.2 + 1)) (some (.i .i64 n34))).bind fun _ =>
 (k92 [(.p p31), (.i .i64 n34), (.i .i64 n36)] r35.2).bind fun r37 =>
 (AV.asTup 2 r37.1).bind fun c38 =>
 (AV.asI .u64 (c38.getD 0 .u)).bind fun n39 =>
 (AV.asI .i64 (c38.getD 1 .u)).bind fun n40 =>
 Option.bind p0 fun q41 =>
 (r37.2.ld q41.1 q41.2).bind fun w42 =>
 (AV.asP w42).bind fun p43 =>
 Option.bind p0 fun q44 =>
 (r37.2.ld q44.1 (q44.2 + 1)).bind fun w45 =>
 (AV.asI .i64 w45).bind fun n46 =>
 (k123 [(.p p0), (.i .i64 n3), (.i .i64 (-1))] r37.2).bind fun r47 =>
 (AV.asI .i64 r47.1).bind fun n48 =>
 (chkE (r47.2.ld q41.1 q41.2) (some (.p p43))).bind fun _ =>
 (chkE (r47.2.ld q44.1 (q44.2 + 1)) (some (.i .i64 n46))).bind fun _ =>
 (k92 [(.p p43), (.i .i64 n46), (.i .i64 n48)] r47.2).bind fun r49 =>
 (AV.asTup 2 r49.1).bind fun c50 =>
 (AV.asI .u64 (c50.getD 0 .u)).bind fun n51 =>
 (AV.asI .i64 (c50.getD 1 .u)).bind fun n52 =>
 Option.bind p0 fun q53 =>
 (r49.2.ld q53.1 q53.2).bind fun w54 =>
 (AV.asP w54).bind fun p55 =>
 Option.bind p0 fun q56 =>
 (r49.2.ld q56.1 (q56.2 + 1)).bind fun w57 =>
 (AV.asI .i64 w57).bind fun n58 =>
 (k123 [(.p p0), (.i .i64 n3), (.i .i64 (-1))] r49.2).bind fun r59 =>
 (AV.asI .i64 r59.1).bind fun n60 =>
 (chkE (r59.2.ld q53.1 q53.2) (some (.p p55))).bind fun _ =>
 (chkE (r59.2.ld q56.1 (q56.2 + 1)) (some (.i .i64 n58))).bind fun _ =>
 (k89 [(.p p55), (.i .i64 n58), (.i .i64 n60), (.i .u64 (ibits .or .u64 n51 1))] r59.2).bind fun r61 =>
 (AV.asI .i64 r61.1).bind fun n62 =>
 Option.bind p0 fun q63 =>
 (r61.2.ld q63.1 q63.2).bind fun w64 =>
 (AV.asP w64).bind fun p65 =>
 Option.bind p0 fun q66 =>
 (r61.2.ld q66.1 (q66.2 + 1)).bind fun w67 =>
 (AV.asI .i64 w67).bind fun n68 =>
 Option.bind p0 fun q69 =>
 (r61.2.ld q69.1 (q69.2 + 2)).bind fun w70 =>
 (AV.asI .i64 w70).bind fun n71 =>
 (k123 [(.p p0), (.i .i64 n3), (.i .i64 0)] r61.2).bind fun r72 =>
 (AV.asI .i64 r72.1).bind fun n73 =>
 (chkE (r72.2.ld q63.1 q63.2) (some (.p p65))).bind fun _ =>
 (chkE (r72.2.ld q66.1 (q66.2 + 1)) (some (.i .i64 n68))).bind fun _ =>
 (chkE (r72.2.ld q69.1 (q69.2 + 2)) (some (.i .i64 n71))).bind fun _ =>
 (k124 [(.p p65), (.i .i64 n68), (.i .i64 n73), (.i .i64 n71)] r72.2).bind fun r74 =>
 (AV.asI .i64 r74.1).bind fun n75 =>
 Option.bind p0 fun q76 =>
 (r74.2.st q76.1 (q76.2 + 5) [(.i .i64 (IntKind.i64.wrap n39))]).bind fun σ77 =>
 Option.bind p0 fun q78 =>
 (σ77.ld q78.1 (q78.2 + 6)).bind fun w79 =>
 (AV.asI .i64 w79).bind fun n80 =>
 Option.bind p0 fun q81 =>
 (σ77.st q81.1 (q81.2 + 6) [(.i .i64 (IntKind.i64.wrap (n80 + 1)))]).bind fun σ82 =>
 some ((.tup [(.i .i64 n3), (.i .i64 0)]), σ82))
 else none
noncomputable def pool_Pool__Take {O : Type} : Sm O := pool_Pool__Take_c pool_Pool__grow pool_Pool__at mem_Mem__Write mem_Mem__Read mem_Mem__Zero
theorem pool_Pool__Take_ent : Entered Try.prog 60 := Try.call60
theorem pool_Pool__Take_run {O : Type} (k122 k123 k89 k92 k124 : Sm O) : run (O := O) Try.prog [(122, k122), (123, k123), (89, k89), (92, k92), (124, k124)] Try.f60 (.n .z (.n .z (.n (.n .z (.n (.n (.n .z (.n .z (.n .z .z))) (.n .z (.n .z (.n (.d [] [0, 1, 2, 3, 4, 5, 6, 7, 8, 9, 10, 11] [0, 1, 3, 7, 0, 16, 48, 112, 0, 0, 768, 2047]) (.n .z .z))))) .z)) (.n (.d [] [0, 1, 2, 3, 4, 5, 6, 7, 8, 9, 10, 11, 12, 13, 14, 15, 16] [0, 1, 3, 7, 0, 16, 48, 112, 0, 0, 768, 2047, 4095, 8191, 8191, 16383, 65535]) (.n (.d [] [0, 1, 2, 3, 4, 5, 6, 7, 8, 9, 10, 11, 12, 13, 14, 15, 16] [0, 1, 3, 7, 0, 16, 48, 112, 0, 0, 768, 2047, 4095, 8191, 8191, 16383, 65535]) (.n (.d [] [0, 1, 2, 3, 4, 5, 6, 7, 8, 9, 11, 12, 10, 13] [0, 1, 3, 7, 0, 16, 48, 112, 0, 0, 768, 0, 2048, 8191]) (.n (.d [] [0, 1, 2, 3, 4, 5, 6, 7, 8, 9, 11, 12, 13, 14, 10, 15] [0, 1, 3, 7, 0, 16, 48, 112, 0, 0, 768, 0, 2048, 6144, 14336, 32767]) (.n .z (.n .z .z))))))))) = pool_Pool__Take_c k122 k123 k89 k92 k124 := by kernel_rfl
theorem pool_Pool__Take_sound {O : Type} {RO : O → Loc → (Nat → Option Obj) → Prop} : FSound RO Try.prog 60 (pool_Pool__Take) :=
   have h : FSound RO Try.prog 60 (pool_Pool__Take_c pool_Pool__grow pool_Pool__at mem_Mem__Write mem_Mem__Read mem_Mem__Zero) := (pool_Pool__Take_run pool_Pool__grow pool_Pool__at mem_Mem__Write mem_Mem__Read mem_Mem__Zero) ▸ run_sound (gcons pool_Pool__grow_ent (pool_Pool__grow_sound) <| gcons pool_Pool__at_ent (pool_Pool__at_sound) <| gcons mem_Mem__Write_ent (mem_Mem__Write_sound) <| gcons mem_Mem__Read_ent (mem_Mem__Read_sound) <| gcons mem_Mem__Zero_ent (mem_Mem__Zero_sound) <| gnil) mixed Try.func60 (by kernel_rfl) _
   h

/-- (*haymow/meter.Meter).Free -/
noncomputable def meter_Meter__Free_c {O : Type} : Sm O := fun xs σ =>
 bif Nat.beq xs.length 2 then
 (AV.asP (xs.getD 0 .u)).bind fun p0 =>
 (AV.asI .i64 (xs.getD 1 .u)).bind fun n1 =>
 ((bif ((Option.isNone p0) == false) then
 some ([(.b (decide (n1 < 0)))], σ)
 else some ([(.b true)], σ)) : Option (List AV × AH O)).bind fun r2 =>
 (AV.asB (r2.1.getD 0 .u)).bind fun b3 =>
 (bif b3 then
 some ((.i .i64 1), r2.2)
 else Option.bind p0 fun q4 =>
 (r2.2.ld q4.1 (q4.2 + 4)).bind fun w5 =>
 (AV.asI .i64 w5).bind fun n6 =>
 (bif (decide (n1 > n6)) then
 some ((.i .i64 4), r2.2)
 else Option.bind p0 fun q7 =>
 (r2.2.ld q7.1 (q7.2 + 4)).bind fun w8 =>
 (AV.asI .i64 w8).bind fun n9 =>
 Option.bind p0 fun q10 =>
 (r2.2.st q10.1 (q10.2 + 4) [(.i .i64 (IntKind.i64.wrap (n9 - n1)))]).bind fun σ11 =>
 some ((.i .i64 0), σ11)))
 else none
noncomputable def meter_Meter__Free {O : Type} : Sm O := meter_Meter__Free_c
theorem meter_Meter__Free_ent : Entered Try.prog 139 := Try.call139
theorem meter_Meter__Free_run {O : Type} : run (O := O) Try.prog [] Try.f139 (.n .z (.n (.n (.n (.g [(2, 2, [(11, .one .b)])]) (.n .z (.n .z (.n .z .z)))) .z) (.n .z .z))) = meter_Meter__Free_c  := by kernel_rfl
theorem meter_Meter__Free_sound {O : Type} {RO : O → Loc → (Nat → Option Obj) → Prop} : FSound RO Try.prog 139 (meter_Meter__Free) :=
   have h : FSound RO Try.prog 139 (meter_Meter__Free_c) := (meter_Meter__Free_run) ▸ run_sound (gnil) mixed Try.func139 (by kernel_rfl) _
   h

/-- (*haymow/mem.Mem).Close -/
noncomputable def mem_Mem__Close_c {O : Type} (k138 k139 : Sm O) : Sm O := fun xs σ =>
 bif Nat.beq xs.length 2 then
 (AV.asP (xs.getD 0 .u)).bind fun p0 =>
 (AV.asI .i64 (xs.getD 1 .u)).bind fun n1 =>
 (k138 [(.p p0), (.i .i64 n1)] σ).bind fun r2 =>
 (AV.asP r2.1).bind fun p3 =>
 (bif (Option.isNone p3) then
 some ((.i .i64 10), r2.2)
 else Option.bind p0 fun q4 =>
 (r2.2.ld q4.1 q4.2).bind fun w5 =>
 (AV.asP w5).bind fun p6 =>
 Option.bind p3 fun q7 =>
 (r2.2.ld q7.1 q7.2).bind fun w8 =>
 (AV.asSl w8).bind fun l9 =>
 (k139 [(.p p6), (.i .i64 (l9.2 : Int))] r2.2).bind fun r10 =>
 (AV.asI .i64 r10.1).bind fun n11 =>
 Option.bind p3 fun q12 =>
 (r10.2.st q12.1 q12.2 [(.sl .nil 0), (.b false)]).bind fun σ13 =>
 Option.bind p0 fun q14 =>
 (σ13.ld q14.1 (q14.2 + 2)).bind fun w15 =>
 (AV.asI .i64 w15).bind fun n16 =>
 Option.bind p0 fun q17 =>
 (σ13.ld q17.1 (q17.2 + 3)).bind fun w18 =>
 (AV.asI .i64 w18).bind fun n19 =>
 Option.bind p0 fun q20 =>
 (σ13.st q20.1 (q20.2 + 2) [(.i .i64 (if n1 < n16 then n1 else n16))]).bind fun σ21 =>
 Option.bind p0 fun q22 =>
 (σ21.st q22.1 (q22.2 + 3) [(.i .i64 (IntKind.i64.wrap (n19 - 1)))]).bind fun σ23 =>
 some ((.i .i64 0), σ23))
 else none
noncomputable def mem_Mem__Close {O : Type} : Sm O := mem_Mem__Close_c mem_Mem__at meter_Meter__Free
theorem mem_Mem__Close_ent : Entered Try.prog 83 := Try.call83
theorem mem_Mem__Close_run {O : Type} (k138 k139 : Sm O) : run (O := O) Try.prog [(138, k138), (139, k139)] Try.f83 (.n .z (.n .z (.n (.n .z (.n .z .z)) (.n (.d [] [0, 1, 2, 3, 4, 5, 6, 7, 8, 9] [0, 1, 3, 7, 0, 16, 48, 112, 240, 511]) (.n .z (.n (.d [] [0, 1, 2, 3, 4, 5, 6, 7, 8, 9, 10, 11, 12, 13, 14, 15, 16, 17, 18] [0, 0, 0, 4, 12, 28, 0, 124, 0, 256, 768, 1792, 3840, 4093, 12285, 28669, 65535, 131071, 262143]) .z)))))) = mem_Mem__Close_c k138 k139 := by kernel_rfl
theorem mem_Mem__Close_sound {O : Type} {RO : O → Loc → (Nat → Option Obj) → Prop} : FSound RO Try.prog 83 (mem_Mem__Close) :=
   have h : FSound RO Try.prog 83 (mem_Mem__Close_c mem_Mem__at meter_Meter__Free) := (mem_Mem__Close_run mem_Mem__at meter_Meter__Free) ▸ run_sound (gcons mem_Mem__at_ent (mem_Mem__at_sound) <| gcons meter_Meter__Free_ent (meter_Meter__Free_sound) <| gnil) mixed Try.func83 (by kernel_rfl) _
   h

/-- (*haymow/pool.Pool).look -/
noncomputable def pool_Pool__look_c {O : Type} (k123 k92 : Sm O) : Sm O := fun xs σ =>
 bif Nat.beq xs.length 2 then
 (AV.asP (xs.getD 0 .u)).bind fun p0 =>
 (AV.asI .i64 (xs.getD 1 .u)).bind fun n1 =>
 ((bif ((decide (n1 < 1)) == false) then
 Option.bind p0 fun q2 =>
 (σ.ld q2.1 (q2.2 + 3)).bind fun w3 =>
 (AV.asI .i64 w3).bind fun n4 =>
 some ([(.b (decide (n1 > n4)))], σ)
 else some ([(.b true)], σ)) : Option (List AV × AH O)).bind fun r5 =>
 (AV.asB (r5.1.getD 0 .u)).bind fun b6 =>
 (bif b6 then
 some ((.tup [(.i .u64 0), (.b false)]), r5.2)
 else Option.bind p0 fun q7 =>
 (r5.2.ld q7.1 q7.2).bind fun w8 =>
 (AV.asP w8).bind fun p9 =>
 Option.bind p0 fun q10 =>
 (r5.2.ld q10.1 (q10.2 + 1)).bind fun w11 =>
 (AV.asI .i64 w11).bind fun n12 =>
 (k123 [(.p p0), (.i .i64 n1), (.i .i64 (-1))] r5.2).bind fun r13 =>
 (AV.asI .i64 r13.1).bind fun n14 =>
 (chkE (r13.2.ld q7.1 q7.2) (some (.p p9))).bind fun _ =>
 (chkE (r13.2.ld q10.1 (q10.2 + 1)) (some (.i .i64 n12))).bind fun _ =>
 (k92 [(.p p9), (.i .i64 n12), (.i .i64 n14)] r13.2).bind fun r15 =>
 (AV.asTup 2 r15.1).bind fun c16 =>
 (AV.asI .u64 (c16.getD 0 .u)).bind fun n17 =>
 (AV.asI .i64 (c16.getD 1 .u)).bind fun n18 =>
 some ((.tup [(.i .u64 n17), (.b true)]), r15.2))
 else none
noncomputable def pool_Pool__look {O : Type} : Sm O := pool_Pool__look_c pool_Pool__at mem_Mem__Read
theorem pool_Pool__look_ent : Entered Try.prog 129 := Try.call129
theorem pool_Pool__look_run {O : Type} (k123 k92 : Sm O) : run (O := O) Try.prog [(123, k123), (92, k92)] Try.f129 (.n .z (.n (.n (.g [(2, 6, [(17, .one .b)])]) (.n .z .z)) (.n (.d [] [0, 1, 2, 3, 4, 5, 6, 7, 8, 9, 10, 11, 12, 13, 14, 15, 16] [0, 1, 3, 7, 0, 16, 48, 112, 0, 0, 768, 2047, 4095, 8191, 8191, 16383, 65535]) .z))) = pool_Pool__look_c k123 k92 := by kernel_rfl
theorem pool_Pool__look_sound {O : Type} {RO : O → Loc → (Nat → Option Obj) → Prop} : FSound RO Try.prog 129 (pool_Pool__look) :=
   have h : FSound RO Try.prog 129 (pool_Pool__look_c pool_Pool__at mem_Mem__Read) := (pool_Pool__look_run pool_Pool__at mem_Mem__Read) ▸ run_sound (gcons pool_Pool__at_ent (pool_Pool__at_sound) <| gcons mem_Mem__Read_ent (mem_Mem__Read_sound) <| gnil) mixed Try.func129 (by kernel_rfl) _
   h

/-- (*haymow/pool.Pool).Taken -/
noncomputable def pool_Pool__Taken_c {O : Type} (k129 : Sm O) : Sm O := fun xs σ =>
 bif Nat.beq xs.length 2 then
 (AV.asP (xs.getD 0 .u)).bind fun p0 =>
 (AV.asI .i64 (xs.getD 1 .u)).bind fun n1 =>
 (k129 [(.p p0), (.i .i64 n1)] σ).bind fun r2 =>
 (AV.asTup 2 r2.1).bind fun c3 =>
 (AV.asI .u64 (c3.getD 0 .u)).bind fun n4 =>
 (AV.asB (c3.getD 1 .u)).bind fun b5 =>
 ((bif (b5 == true) then
 some ([(.b (((ibits .and .u64 n4 1) : Int) == 1))], r2.2)
 else some ([(.b false)], r2.2)) : Option (List AV × AH O)).bind fun r6 =>
 (AV.asB (r6.1.getD 0 .u)).bind fun b7 =>
 some ((.b b7), r6.2)
 else none
noncomputable def pool_Pool__Taken {O : Type} : Sm O := pool_Pool__Taken_c pool_Pool__look
theorem pool_Pool__Taken_ent : Entered Try.prog 135 := Try.call135
theorem pool_Pool__Taken_run {O : Type} (k129 : Sm O) : run (O := O) Try.prog [(129, k129)] Try.f135 (.n .z (.n .z (.n (.g [(1, 3, [(18, .one .b)])]) .z))) = pool_Pool__Taken_c k129 := by kernel_rfl
theorem pool_Pool__Taken_sound {O : Type} {RO : O → Loc → (Nat → Option Obj) → Prop} : FSound RO Try.prog 135 (pool_Pool__Taken) :=
   have h : FSound RO Try.prog 135 (pool_Pool__Taken_c pool_Pool__look) := (pool_Pool__Taken_run pool_Pool__look) ▸ run_sound (gcons pool_Pool__look_ent (pool_Pool__look_sound) <| gnil) mixed Try.func135 (by kernel_rfl) _
   h

/-- (*haymow/pool.Pool).check -/
noncomputable def pool_Pool__check_c {O : Type} (k135 : Sm O) : Sm O := fun xs σ =>
 bif Nat.beq xs.length 3 then
 (AV.asP (xs.getD 0 .u)).bind fun p0 =>
 (AV.asI .i64 (xs.getD 1 .u)).bind fun n1 =>
 (AV.asI .i64 (xs.getD 2 .u)).bind fun n2 =>
 (k135 [(.p p0), (.i .i64 n1)] σ).bind fun r3 =>
 (AV.asB r3.1).bind fun b4 =>
 (bif (!b4) then
 some ((.i .i64 4), r3.2)
 else ((bif ((decide (n2 < 0)) == false) then
 Option.bind p0 fun q5 =>
 (r3.2.ld q5.1 (q5.2 + 2)).bind fun w6 =>
 (AV.asI .i64 w6).bind fun n7 =>
 some ([(.b (decide (n2 ≥ n7)))], r3.2)
 else some ([(.b true)], r3.2)) : Option (List AV × AH O)).bind fun r8 =>
 (AV.asB (r8.1.getD 0 .u)).bind fun b9 =>
 (bif b9 then
 some ((.i .i64 32), r8.2)
 else some ((.i .i64 0), r8.2)))
 else none
noncomputable def pool_Pool__check {O : Type} : Sm O := pool_Pool__check_c pool_Pool__Taken
theorem pool_Pool__check_ent : Entered Try.prog 125 := Try.call125
theorem pool_Pool__check_run {O : Type} (k135 : Sm O) : run (O := O) Try.prog [(135, k135)] Try.f125 (.n .z (.n (.n (.n .z (.n .z (.n (.g [(2, 6, [(22, .one .b)])]) (.n .z .z)))) .z) .z)) = pool_Pool__check_c k135 := by kernel_rfl
theorem pool_Pool__check_sound {O : Type} {RO : O → Loc → (Nat → Option Obj) → Prop} : FSound RO Try.prog 125 (pool_Pool__check) :=
   have h : FSound RO Try.prog 125 (pool_Pool__check_c pool_Pool__Taken) := (pool_Pool__check_run pool_Pool__Taken) ▸ run_sound (gcons pool_Pool__Taken_ent (pool_Pool__Taken_sound) <| gnil) mixed Try.func125 (by kernel_rfl) _
   h

/-- (*haymow/pool.Pool).Set -/
noncomputable def pool_Pool__Set_c {O : Type} (k125 k123 k89 : Sm O) : Sm O := fun xs σ =>
 bif Nat.beq xs.length 4 then
 (AV.asP (xs.getD 0 .u)).bind fun p0 =>
 (AV.asI .i64 (xs.getD 1 .u)).bind fun n1 =>
 (AV.asI .i64 (xs.getD 2 .u)).bind fun n2 =>
 (AV.asI .u64 (xs.getD 3 .u)).bind fun n3 =>
 (k125 [(.p p0), (.i .i64 n1), (.i .i64 n2)] σ).bind fun r4 =>
 (AV.asI .i64 r4.1).bind fun n5 =>
 (bif ((n5 : Int) != 0) then
 some ((.i .i64 n5), r4.2)
 else Option.bind p0 fun q6 =>
 (r4.2.ld q6.1 q6.2).bind fun w7 =>
 (AV.asP w7).bind fun p8 =>
 Option.bind p0 fun q9 =>
 (r4.2.ld q9.1 (q9.2 + 1)).bind fun w10 =>
 (AV.asI .i64 w10).bind fun n11 =>
 (k123 [(.p p0), (.i .i64 n1), (.i .i64 n2)] r4.2).bind fun r12 =>
 (AV.asI .i64 r12.1).bind fun n13 =>
 (chkE (r12.2.ld q6.1 q6.2) (some (.p p8))).bind fun _ =>
 (chkE (r12.2.ld q9.1 (q9.2 + 1)) (some (.i .i64 n11))).bind fun _ =>
 (k89 [(.p p8), (.i .i64 n11), (.i .i64 n13), (.i .u64 n3)] r12.2).bind fun r14 =>
 (AV.asI .i64 r14.1).bind fun n15 =>
 some ((.i .i64 n15), r14.2))
 else none
noncomputable def pool_Pool__Set {O : Type} : Sm O := pool_Pool__Set_c pool_Pool__check pool_Pool__at mem_Mem__Write
theorem pool_Pool__Set_ent : Entered Try.prog 61 := Try.call61
theorem pool_Pool__Set_run {O : Type} (k125 k123 k89 : Sm O) : run (O := O) Try.prog [(125, k125), (123, k123), (89, k89)] Try.f61 (.n .z (.n (.n .z (.n .z (.n .z .z))) (.n (.d [] [0, 1, 2, 3, 4, 5, 6, 7, 8, 9, 10, 12, 11, 13, 14] [0, 1, 3, 7, 0, 16, 48, 112, 0, 0, 0, 1792, 0, 8191, 16383]) .z))) = pool_Pool__Set_c k125 k123 k89 := by kernel_rfl
theorem pool_Pool__Set_sound {O : Type} {RO : O → Loc → (Nat → Option Obj) → Prop} : FSound RO Try.prog 61 (pool_Pool__Set) :=
   have h : FSound RO Try.prog 61 (pool_Pool__Set_c pool_Pool__check pool_Pool__at mem_Mem__Write) := (pool_Pool__Set_run pool_Pool__check pool_Pool__at mem_Mem__Write) ▸ run_sound (gcons pool_Pool__check_ent (pool_Pool__check_sound) <| gcons pool_Pool__at_ent (pool_Pool__at_sound) <| gcons mem_Mem__Write_ent (mem_Mem__Write_sound) <| gnil) mixed Try.func61 (by kernel_rfl) _
   h

/-- (*haymow/pool.Pool).Table -/
noncomputable def pool_Pool__Table_c {O : Type} (k155 : Sm O) : Sm O := fun xs σ =>
 bif Nat.beq xs.length 3 then
 (AV.asP (xs.getD 0 .u)).bind fun p0 =>
 (AV.asI .i64 (xs.getD 1 .u)).bind fun n1 =>
 (AV.asI .i64 (xs.getD 2 .u)).bind fun n2 =>
 let σ3 := σ.bump 1
 let σ4 := σ3.put σ.next (.cells true 136 [(.p none), (.i .i64 0), (.i .i64 0), (.i .i64 0), (.i .i64 0)])
 Option.bind p0 fun q5 =>
 (σ4.ld q5.1 q5.2).bind fun w6 =>
 (AV.asP w6).bind fun p7 =>
 Option.bind p0 fun q8 =>
 (σ4.ld q8.1 (q8.2 + 1)).bind fun w9 =>
 (AV.asI .i64 w9).bind fun n10 =>
 (k155 [(.p p0)] σ4).bind fun r11 =>
 (AV.asI .i64 r11.1).bind fun n12 =>
 (chkE (r11.2.ld q5.1 q5.2) (some (.p p7))).bind fun _ =>
 (chkE (r11.2.ld q8.1 (q8.2 + 1)) (some (.i .i64 n10))).bind fun _ =>
 (r11.2.st (.n σ.next) 0 [(.p p7), (.i .i64 n10), (.i .i64 n12), (.i .i64 (IntKind.i64.wrap (n1 + 1))), (.i .i64 (IntKind.i64.wrap (n2 + 1)))]).bind fun σ13 =>
 (σ13.ld (.n σ.next) 0).bind fun w14 =>
 (AV.asP w14).bind fun p15 =>
 (σ13.ld (.n σ.next) 1).bind fun w16 =>
 (AV.asI .i64 w16).bind fun n17 =>
 (σ13.ld (.n σ.next) 2).bind fun w18 =>
 (AV.asI .i64 w18).bind fun n19 =>
 (σ13.ld (.n σ.next) 3).bind fun w20 =>
 (AV.asI .i64 w20).bind fun n21 =>
 (σ13.ld (.n σ.next) 4).bind fun w22 =>
 (AV.asI .i64 w22).bind fun n23 =>
 some ((.agg [(.p p15), (.i .i64 n17), (.i .i64 n19), (.i .i64 n21), (.i .i64 n23)]), σ13)
 else none
noncomputable def pool_Pool__Table {O : Type} : Sm O := pool_Pool__Table_c pool_Pool__width
theorem pool_Pool__Table_ent : Entered Try.prog 126 := Try.call126
theorem pool_Pool__Table_run {O : Type} (k155 : Sm O) : run (O := O) Try.prog [(155, k155)] Try.f126 (.n .z (.n (.d [] [0, 1, 2, 3, 4, 5, 6, 7, 8, 10, 11, 12, 13, 9, 14, 15] [0, 1, 3, 7, 0, 16, 48, 112, 0, 256, 0, 1024, 0, 4096, 16383, 32767]) .z)) = pool_Pool__Table_c k155 := by kernel_rfl
theorem pool_Pool__Table_sound {O : Type} {RO : O → Loc → (Nat → Option Obj) → Prop} : FSound RO Try.prog 126 (pool_Pool__Table) :=
   have h : FSound RO Try.prog 126 (pool_Pool__Table_c pool_Pool__width) := (pool_Pool__Table_run pool_Pool__width) ▸ run_sound (gcons pool_Pool__width_ent (pool_Pool__width_sound) <| gnil) mixed Try.func126 (by kernel_rfl) _
   h

/-- (*haymow/large.Large).table -/
noncomputable def large_Large__table_c {O : Type} (k126 : Sm O) : Sm O := fun xs σ =>
 bif Nat.beq xs.length 1 then
 (AV.asP (xs.getD 0 .u)).bind fun p0 =>
 let σ1 := σ.bump 1
 let σ2 := σ1.put σ.next (.cells true 136 [(.p none), (.i .i64 0), (.i .i64 0), (.i .i64 0), (.i .i64 0)])
 Option.bind p0 fun q3 =>
 (σ2.ld q3.1 (q3.2 + 1)).bind fun w4 =>
 (AV.asP w4).bind fun p5 =>
 (k126 [(.p p5), (.i .i64 2), (.i .i64 3)] σ2).bind fun r6 =>
 (AV.asAgg 5 r6.1).bind fun c7 =>
 (AV.asP (c7.getD 0 .u)).bind fun p8 =>
 (AV.asI .i64 (c7.getD 1 .u)).bind fun n9 =>
 (AV.asI .i64 (c7.getD 2 .u)).bind fun n10 =>
 (AV.asI .i64 (c7.getD 3 .u)).bind fun n11 =>
 (AV.asI .i64 (c7.getD 4 .u)).bind fun n12 =>
 (r6.2.st (.n σ.next) 0 [(.p p8), (.i .i64 n9), (.i .i64 n10), (.i .i64 n11), (.i .i64 n12)]).bind fun σ13 =>
 (σ13.ld (.n σ.next) 0).bind fun w14 =>
 (AV.asP w14).bind fun p15 =>
 (σ13.ld (.n σ.next) 1).bind fun w16 =>
 (AV.asI .i64 w16).bind fun n17 =>
 (σ13.ld (.n σ.next) 2).bind fun w18 =>
 (AV.asI .i64 w18).bind fun n19 =>
 (σ13.ld (.n σ.next) 3).bind fun w20 =>
 (AV.asI .i64 w20).bind fun n21 =>
 (σ13.ld (.n σ.next) 4).bind fun w22 =>
 (AV.asI .i64 w22).bind fun n23 =>
 some ((.agg [(.p p15), (.i .i64 n17), (.i .i64 n19), (.i .i64 n21), (.i .i64 n23)]), σ13)
 else none
noncomputable def large_Large__table {O : Type} : Sm O := large_Large__table_c pool_Pool__Table
theorem large_Large__table_ent : Entered Try.prog 84 := Try.call84
theorem large_Large__table_run {O : Type} (k126 : Sm O) : run (O := O) Try.prog [(126, k126)] Try.f84 (.n .z .z) = large_Large__table_c k126 := by kernel_rfl
theorem large_Large__table_sound {O : Type} {RO : O → Loc → (Nat → Option Obj) → Prop} : FSound RO Try.prog 84 (large_Large__table) :=
   have h : FSound RO Try.prog 84 (large_Large__table_c pool_Pool__Table) := (large_Large__table_run pool_Pool__Table) ▸ run_sound (gcons pool_Pool__Table_ent (pool_Pool__Table_sound) <| gnil) mixed Try.func84 (by kernel_rfl) _
   h

/-- (haymow/chain.Table).Right$1 -/
noncomputable def chain_Table__Right_1_c {O : Type} : Sm O := fun xs σ =>
 bif Nat.beq xs.length 2 then
 (AV.asI .i64 (xs.getD 0 .u)).bind fun n0 =>
 ((bif ((decide (n0 ≥ 0)) == true) then
 (AV.asPS (xs.getD 1 .u)).bind fun q1 =>
 (σ.ld q1.1 (q1.2 + 2)).bind fun w2 =>
 (AV.asI .i64 w2).bind fun n3 =>
 some ([(.b (decide (n0 < n3)))], σ)
 else some ([(.b false)], σ)) : Option (List AV × AH O)).bind fun r4 =>
 (AV.asB (r4.1.getD 0 .u)).bind fun b5 =>
 some ((.b b5), r4.2)
 else none
noncomputable def chain_Table__Right_1 {O : Type} : Sm O := chain_Table__Right_1_c
theorem chain_Table__Right_1_ent : Entered Try.prog 161 := Try.call161
theorem chain_Table__Right_1_run {O : Type} : run (O := O) Try.prog [] Try.f161 (.n .z (.n (.g [(2, 4, [(11, .one .b)])]) .z)) = chain_Table__Right_1_c  := by kernel_rfl
theorem chain_Table__Right_1_sound {O : Type} {RO : O → Loc → (Nat → Option Obj) → Prop} : FSound RO Try.prog 161 (chain_Table__Right_1) :=
   have h : FSound RO Try.prog 161 (chain_Table__Right_1_c) := (chain_Table__Right_1_run) ▸ run_sound (gnil) mixed Try.func161 (by kernel_rfl) _
   h

/-- (haymow/chain.Table).Right -/
noncomputable def chain_Table__Right_c {O : Type} (k161 : Sm O) : Sm O := fun xs σ =>
 bif Nat.beq xs.length 1 then
 (AV.asAgg 5 (xs.getD 0 .u)).bind fun c0 =>
 (AV.asP (c0.getD 0 .u)).bind fun p1 =>
 (AV.asI .i64 (c0.getD 1 .u)).bind fun n2 =>
 (AV.asI .i64 (c0.getD 2 .u)).bind fun n3 =>
 (AV.asI .i64 (c0.getD 3 .u)).bind fun n4 =>
 (AV.asI .i64 (c0.getD 4 .u)).bind fun n5 =>
 let σ6 := σ.bump 1
 let σ7 := σ6.put σ.next (.cells true 136 [(.p p1), (.i .i64 n2), (.i .i64 n3), (.i .i64 n4), (.i .i64 n5)])
 (σ7.ld (.n σ.next) 0).bind fun w8 =>
 (AV.asP w8).bind fun p9 =>
 ((bif ((!(Option.isNone p9)) == true) then
 (σ7.ld (.n σ.next) 2).bind fun w10 =>
 (AV.asI .i64 w10).bind fun n11 =>
 some ([(.b (decide (n11 ≥ 2)))], σ7)
 else some ([(.b false)], σ7)) : Option (List AV × AH O)).bind fun r12 =>
 (AV.asB (r12.1.getD 0 .u)).bind fun b13 =>
 ((bif (b13 == true) then
 (r12.2.ld (.n σ.next) 2).bind fun w14 =>
 (AV.asI .i64 w14).bind fun n15 =>
 some ([(.b (decide (n15 ≤ 64)))], r12.2)
 else some ([(.b false)], r12.2)) : Option (List AV × AH O)).bind fun r16 =>
 (AV.asB (r16.1.getD 0 .u)).bind fun b17 =>
 ((bif (b17 == true) then
 (r16.2.ld (.n σ.next) 3).bind fun w18 =>
 (AV.asI .i64 w18).bind fun n19 =>
 (k161 [(.i .i64 n19), (.p (some ((.n σ.next), 0)))] r16.2).bind fun r20 =>
 (AV.asB r20.1).bind fun b21 =>
 some ([(.b b21)], r20.2)
 else some ([(.b false)], r16.2)) : Option (List AV × AH O)).bind fun r22 =>
 (AV.asB (r22.1.getD 0 .u)).bind fun b23 =>
 ((bif (b23 == true) then
 (r22.2.ld (.n σ.next) 4).bind fun w24 =>
 (AV.asI .i64 w24).bind fun n25 =>
 (k161 [(.i .i64 n25), (.p (some ((.n σ.next), 0)))] r22.2).bind fun r26 =>
 (AV.asB r26.1).bind fun b27 =>
 some ([(.b b27)], r26.2)
 else some ([(.b false)], r22.2)) : Option (List AV × AH O)).bind fun r28 =>
 (AV.asB (r28.1.getD 0 .u)).bind fun b29 =>
 ((bif (b29 == true) then
 (r28.2.ld (.n σ.next) 3).bind fun w30 =>
 (AV.asI .i64 w30).bind fun n31 =>
 (r28.2.ld (.n σ.next) 4).bind fun w32 =>
 (AV.asI .i64 w32).bind fun n33 =>
 some ([(.b ((n31 : Int) != n33))], r28.2)
 else some ([(.b false)], r28.2)) : Option (List AV × AH O)).bind fun r34 =>
 (AV.asB (r34.1.getD 0 .u)).bind fun b35 =>
 some ((.b b35), r34.2)
 else none
noncomputable def chain_Table__Right {O : Type} : Sm O := chain_Table__Right_c chain_Table__Right_1
theorem chain_Table__Right_ent : Entered Try.prog 140 := Try.call140
theorem chain_Table__Right_run {O : Type} (k161 : Sm O) : run (O := O) Try.prog [(161, k161)] Try.f140 (.n .z (.n .z (.n (.g [(3, 3, [(12, .one .b)]), (8, 3, [(17, .one .b)]), (13, 4, [(23, .one .b)]), (19, 4, [(29, .one .b)]), (25, 5, [(36, .one .b)])]) .z))) = chain_Table__Right_c k161 := by kernel_rfl
theorem chain_Table__Right_sound {O : Type} {RO : O → Loc → (Nat → Option Obj) → Prop} : FSound RO Try.prog 140 (chain_Table__Right) :=
   have h : FSound RO Try.prog 140 (chain_Table__Right_c chain_Table__Right_1) := (chain_Table__Right_run chain_Table__Right_1) ▸ run_sound (gcons chain_Table__Right_1_ent (chain_Table__Right_1_sound) <| gnil) mixed Try.func140 (by kernel_rfl) _
   h

/-- (*haymow/mem.Mem).Size -/
noncomputable def mem_Mem__Size_c {O : Type} (k138 : Sm O) : Sm O := fun xs σ =>
 bif Nat.beq xs.length 2 then
 (AV.asP (xs.getD 0 .u)).bind fun p0 =>
 (AV.asI .i64 (xs.getD 1 .u)).bind fun n1 =>
 (k138 [(.p p0), (.i .i64 n1)] σ).bind fun r2 =>
 (AV.asP r2.1).bind fun p3 =>
 (bif (Option.isNone p3) then
 some ((.tup [(.i .i64 0), (.i .i64 10)]), r2.2)
 else Option.bind p3 fun q4 =>
 (r2.2.ld q4.1 q4.2).bind fun w5 =>
 (AV.asSl w5).bind fun l6 =>
 some ((.tup [(.i .i64 (l6.2 : Int)), (.i .i64 0)]), r2.2))
 else none
noncomputable def mem_Mem__Size {O : Type} : Sm O := mem_Mem__Size_c mem_Mem__at
theorem mem_Mem__Size_ent : Entered Try.prog 169 := Try.call169
theorem mem_Mem__Size_run {O : Type} (k138 : Sm O) : run (O := O) Try.prog [(138, k138)] Try.f169 (.n .z (.n .z (.n (.n .z (.n .z .z)) .z))) = mem_Mem__Size_c k138 := by kernel_rfl
theorem mem_Mem__Size_sound {O : Type} {RO : O → Loc → (Nat → Option Obj) → Prop} : FSound RO Try.prog 169 (mem_Mem__Size) :=
   have h : FSound RO Try.prog 169 (mem_Mem__Size_c mem_Mem__at) := (mem_Mem__Size_run mem_Mem__at) ▸ run_sound (gcons mem_Mem__at_ent (mem_Mem__at_sound) <| gnil) mixed Try.func169 (by kernel_rfl) _
   h

/-- (haymow/chain.Table).Entries -/
noncomputable def chain_Table__Entries_c {O : Type} (k140 k169 : Sm O) : Sm O := fun xs σ =>
 bif Nat.beq xs.length 1 then
 (AV.asAgg 5 (xs.getD 0 .u)).bind fun c0 =>
 (AV.asP (c0.getD 0 .u)).bind fun p1 =>
 (AV.asI .i64 (c0.getD 1 .u)).bind fun n2 =>
 (AV.asI .i64 (c0.getD 2 .u)).bind fun n3 =>
 (AV.asI .i64 (c0.getD 3 .u)).bind fun n4 =>
 (AV.asI .i64 (c0.getD 4 .u)).bind fun n5 =>
 let σ6 := σ.bump 1
 let σ7 := σ6.put σ.next (.cells true 136 [(.p p1), (.i .i64 n2), (.i .i64 n3), (.i .i64 n4), (.i .i64 n5)])
 (σ7.ld (.n σ.next) 0).bind fun w8 =>
 (AV.asP w8).bind fun p9 =>
 (σ7.ld (.n σ.next) 1).bind fun w10 =>
 (AV.asI .i64 w10).bind fun n11 =>
 (σ7.ld (.n σ.next) 2).bind fun w12 =>
 (AV.asI .i64 w12).bind fun n13 =>
 (σ7.ld (.n σ.next) 3).bind fun w14 =>
 (AV.asI .i64 w14).bind fun n15 =>
 (σ7.ld (.n σ.next) 4).bind fun w16 =>
 (AV.asI .i64 w16).bind fun n17 =>
 (k140 [(.agg [(.p p9), (.i .i64 n11), (.i .i64 n13), (.i .i64 n15), (.i .i64 n17)])] σ7).bind fun r18 =>
 (AV.asB r18.1).bind fun b19 =>
 (bif (!b19) then
 some ((.i .i64 0), r18.2)
 else (r18.2.ld (.n σ.next) 0).bind fun w20 =>
 (AV.asP w20).bind fun p21 =>
 (r18.2.ld (.n σ.next) 1).bind fun w22 =>
 (AV.asI .i64 w22).bind fun n23 =>
 (k169 [(.p p21), (.i .i64 n23)] r18.2).bind fun r24 =>
 (AV.asTup 2 r24.1).bind fun c25 =>
 (AV.asI .i64 (c25.getD 0 .u)).bind fun n26 =>
 (AV.asI .i64 (c25.getD 1 .u)).bind fun n27 =>
 (r24.2.ld (.n σ.next) 2).bind fun w28 =>
 (AV.asI .i64 w28).bind fun n29 =>
 (bif (n29 == 0) then
 none
 else some ((.i .i64 (IntKind.i64.wrap (Int.tdiv n26 n29))), r24.2)))
 else none
noncomputable def chain_Table__Entries {O : Type} : Sm O := chain_Table__Entries_c chain_Table__Right mem_Mem__Size
theorem chain_Table__Entries_ent : Entered Try.prog 156 := Try.call156
theorem chain_Table__Entries_run {O : Type} (k140 k169 : Sm O) : run (O := O) Try.prog [(140, k140), (169, k169)] Try.f156 (.n .z (.n (.n .z (.n .z .z)) (.n .z .z))) = chain_Table__Entries_c k140 k169 := by kernel_rfl
theorem chain_Table__Entries_sound {O : Type} {RO : O → Loc → (Nat → Option Obj) → Prop} : FSound RO Try.prog 156 (chain_Table__Entries) :=
   have h : FSound RO Try.prog 156 (chain_Table__Entries_c chain_Table__Right mem_Mem__Size) := (chain_Table__Entries_run chain_Table__Right mem_Mem__Size) ▸ run_sound (gcons chain_Table__Right_ent (chain_Table__Right_sound) <| gcons mem_Mem__Size_ent (mem_Mem__Size_sound) <| gnil) mixed Try.func156 (by kernel_rfl) _
   h

/-- (haymow/chain.Table).check -/
noncomputable def chain_Table__check_c {O : Type} (k140 k156 : Sm O) : Sm O := fun xs σ =>
 bif Nat.beq xs.length 2 then
 (AV.asAgg 5 (xs.getD 0 .u)).bind fun c0 =>
 (AV.asP (c0.getD 0 .u)).bind fun p1 =>
 (AV.asI .i64 (c0.getD 1 .u)).bind fun n2 =>
 (AV.asI .i64 (c0.getD 2 .u)).bind fun n3 =>
 (AV.asI .i64 (c0.getD 3 .u)).bind fun n4 =>
 (AV.asI .i64 (c0.getD 4 .u)).bind fun n5 =>
 (AV.asI .i64 (xs.getD 1 .u)).bind fun n6 =>
 let σ7 := σ.bump 1
 let σ8 := σ7.put σ.next (.cells true 136 [(.p p1), (.i .i64 n2), (.i .i64 n3), (.i .i64 n4), (.i .i64 n5)])
 (σ8.ld (.n σ.next) 0).bind fun w9 =>
 (AV.asP w9).bind fun p10 =>
 (σ8.ld (.n σ.next) 1).bind fun w11 =>
 (AV.asI .i64 w11).bind fun n12 =>
 (σ8.ld (.n σ.next) 2).bind fun w13 =>
 (AV.asI .i64 w13).bind fun n14 =>
 (σ8.ld (.n σ.next) 3).bind fun w15 =>
 (AV.asI .i64 w15).bind fun n16 =>
 (σ8.ld (.n σ.next) 4).bind fun w17 =>
 (AV.asI .i64 w17).bind fun n18 =>
 (k140 [(.agg [(.p p10), (.i .i64 n12), (.i .i64 n14), (.i .i64 n16), (.i .i64 n18)])] σ8).bind fun r19 =>
 (AV.asB r19.1).bind fun b20 =>
 (bif (!b20) then
 some ((.i .i64 1), r19.2)
 else ((bif ((decide (n6 < 1)) == false) then
 (r19.2.ld (.n σ.next) 0).bind fun w21 =>
 (AV.asP w21).bind fun p22 =>
 (r19.2.ld (.n σ.next) 1).bind fun w23 =>
 (AV.asI .i64 w23).bind fun n24 =>
 (r19.2.ld (.n σ.next) 2).bind fun w25 =>
 (AV.asI .i64 w25).bind fun n26 =>
 (r19.2.ld (.n σ.next) 3).bind fun w27 =>
 (AV.asI .i64 w27).bind fun n28 =>
 (r19.2.ld (.n σ.next) 4).bind fun w29 =>
 (AV.asI .i64 w29).bind fun n30 =>
 (k156 [(.agg [(.p p22), (.i .i64 n24), (.i .i64 n26), (.i .i64 n28), (.i .i64 n30)])] r19.2).bind fun r31 =>
 (AV.asI .i64 r31.1).bind fun n32 =>
 some ([(.b (decide (n6 > n32)))], r31.2)
 else some ([(.b true)], r19.2)) : Option (List AV × AH O)).bind fun r33 =>
 (AV.asB (r33.1.getD 0 .u)).bind fun b34 =>
 (bif b34 then
 some ((.i .i64 2), r33.2)
 else some ((.i .i64 0), r33.2)))
 else none
noncomputable def chain_Table__check {O : Type} : Sm O := chain_Table__check_c chain_Table__Right chain_Table__Entries
theorem chain_Table__check_ent : Entered Try.prog 127 := Try.call127
theorem chain_Table__check_run {O : Type} (k140 k156 : Sm O) : run (O := O) Try.prog [(140, k140), (156, k156)] Try.f127 (.n .z (.n (.n (.n .z (.n .z (.n (.g [(2, 4, [(17, .one .b)])]) (.n .z .z)))) .z) .z)) = chain_Table__check_c k140 k156 := by kernel_rfl
theorem chain_Table__check_sound {O : Type} {RO : O → Loc → (Nat → Option Obj) → Prop} : FSound RO Try.prog 127 (chain_Table__check) :=
   have h : FSound RO Try.prog 127 (chain_Table__check_c chain_Table__Right chain_Table__Entries) := (chain_Table__check_run chain_Table__Right chain_Table__Entries) ▸ run_sound (gcons chain_Table__Right_ent (chain_Table__Right_sound) <| gcons chain_Table__Entries_ent (chain_Table__Entries_sound) <| gnil) mixed Try.func127 (by kernel_rfl) _
   h

/-- (haymow/chain.Table).at -/
noncomputable def chain_Table__at_c {O : Type} : Sm O := fun xs σ =>
 bif Nat.beq xs.length 3 then
 (AV.asAgg 5 (xs.getD 0 .u)).bind fun c0 =>
 (AV.asP (c0.getD 0 .u)).bind fun p1 =>
 (AV.asI .i64 (c0.getD 1 .u)).bind fun n2 =>
 (AV.asI .i64 (c0.getD 2 .u)).bind fun n3 =>
 (AV.asI .i64 (c0.getD 3 .u)).bind fun n4 =>
 (AV.asI .i64 (c0.getD 4 .u)).bind fun n5 =>
 (AV.asI .i64 (xs.getD 1 .u)).bind fun n6 =>
 (AV.asI .i64 (xs.getD 2 .u)).bind fun n7 =>
 let σ8 := σ.bump 1
 let σ9 := σ8.put σ.next (.cells true 136 [(.p p1), (.i .i64 n2), (.i .i64 n3), (.i .i64 n4), (.i .i64 n5)])
 (σ9.ld (.n σ.next) 2).bind fun w10 =>
 (AV.asI .i64 w10).bind fun n11 =>
 let v12 : Int := (IntKind.i64.wrap ((IntKind.i64.wrap (n6 - 1)) * n11))
 some ((.i .i64 (IntKind.i64.wrap (v12 + n7))), σ9)
 else none
noncomputable def chain_Table__at {O : Type} : Sm O := chain_Table__at_c
theorem chain_Table__at_ent : Entered Try.prog 157 := Try.call157
theorem chain_Table__at_run {O : Type} : run (O := O) Try.prog [] Try.f157 (.n .z .z) = chain_Table__at_c  := by kernel_rfl
theorem chain_Table__at_sound {O : Type} {RO : O → Loc → (Nat → Option Obj) → Prop} : FSound RO Try.prog 157 (chain_Table__at) :=
   have h : FSound RO Try.prog 157 (chain_Table__at_c) := (chain_Table__at_run) ▸ run_sound (gnil) mixed Try.func157 (by kernel_rfl) _
   h

/-- (haymow/chain.Table).set -/
noncomputable def chain_Table__set_c {O : Type} (k157 k89 : Sm O) : Sm O := fun xs σ =>
 bif Nat.beq xs.length 4 then
 (AV.asAgg 5 (xs.getD 0 .u)).bind fun c0 =>
 (AV.asP (c0.getD 0 .u)).bind fun p1 =>
 (AV.asI .i64 (c0.getD 1 .u)).bind fun n2 =>
 (AV.asI .i64 (c0.getD 2 .u)).bind fun n3 =>
 (AV.asI .i64 (c0.getD 3 .u)).bind fun n4 =>
 (AV.asI .i64 (c0.getD 4 .u)).bind fun n5 =>
 (AV.asI .i64 (xs.getD 1 .u)).bind fun n6 =>
 (AV.asI .i64 (xs.getD 2 .u)).bind fun n7 =>
 (AV.asI .i64 (xs.getD 3 .u)).bind fun n8 =>
 let σ9 := σ.bump 1
 let σ10 := σ9.put σ.next (.cells true 136 [(.p p1), (.i .i64 n2), (.i .i64 n3), (.i .i64 n4), (.i .i64 n5)])
 (σ10.ld (.n σ.next) 0).bind fun w11 =>
 (AV.asP w11).bind fun p12 =>
 (σ10.ld (.n σ.next) 1).bind fun w13 =>
 (AV.asI .i64 w13).bind fun n14 =>
 (σ10.ld (.n σ.next) 0).bind fun w15 =>
 (AV.asP w15).bind fun p16 =>
 (σ10.ld (.n σ.next) 1).bind fun w17 =>
 (AV.asI .i64 w17).bind fun n18 =>
 (σ10.ld (.n σ.next) 2).bind fun w19 =>
 (AV.asI .i64 w19).bind fun n20 =>
 (σ10.ld (.n σ.next) 3).bind fun w21 =>
 (AV.asI .i64 w21).bind fun n22 =>
 (σ10.ld (.n σ.next) 4).bind fun w23 =>
 (AV.asI .i64 w23).bind fun n24 =>
 (k157 [(.agg [(.p p16), (.i .i64 n18), (.i .i64 n20), (.i .i64 n22), (.i .i64 n24)]), (.i .i64 n6), (.i .i64 n7)] σ10).bind fun r25 =>
 (AV.asI .i64 r25.1).bind fun n26 =>
 (chkE (r25.2.ld (.n σ.next) 0) (some (.p p12))).bind fun _ =>
 (chkE (r25.2.ld (.n σ.next) 1) (some (.i .i64 n14))).bind fun _ =>
 (k89 [(.p p12), (.i .i64 n14), (.i .i64 n26), (.i .u64 (IntKind.u64.wrap n8))] r25.2).bind fun r27 =>
 (AV.asI .i64 r27.1).bind fun n28 =>
 some ((.tup []), r27.2)
 else none
noncomputable def chain_Table__set {O : Type} : Sm O := chain_Table__set_c chain_Table__at mem_Mem__Write
theorem chain_Table__set_ent : Entered Try.prog 128 := Try.call128
theorem chain_Table__set_run {O : Type} (k157 k89 : Sm O) : run (O := O) Try.prog [(157, k157), (89, k89)] Try.f128 (.n .z (.d [] [0, 1, 2, 3, 4, 5, 6, 8, 9, 7, 10] [0, 1, 0, 4, 0, 0, 0, 112, 0, 256, 1023])) = chain_Table__set_c k157 k89 := by kernel_rfl
theorem chain_Table__set_sound {O : Type} {RO : O → Loc → (Nat → Option Obj) → Prop} : FSound RO Try.prog 128 (chain_Table__set) :=
   have h : FSound RO Try.prog 128 (chain_Table__set_c chain_Table__at mem_Mem__Write) := (chain_Table__set_run chain_Table__at mem_Mem__Write) ▸ run_sound (gcons chain_Table__at_ent (chain_Table__at_sound) <| gcons mem_Mem__Write_ent (mem_Mem__Write_sound) <| gnil) mixed Try.func128 (by kernel_rfl) _
   h

/-- (haymow/chain.Table).Push -/
noncomputable def chain_Table__Push_c {O : Type} (k127 k128 : Sm O) : Sm O := fun xs σ =>
 bif Nat.beq xs.length 3 then
 (AV.asAgg 5 (xs.getD 0 .u)).bind fun c0 =>
 (AV.asP (c0.getD 0 .u)).bind fun p1 =>
 (AV.asI .i64 (c0.getD 1 .u)).bind fun n2 =>
 (AV.asI .i64 (c0.getD 2 .u)).bind fun n3 =>
 (AV.asI .i64 (c0.getD 3 .u)).bind fun n4 =>
 (AV.asI .i64 (c0.getD 4 .u)).bind fun n5 =>
 (AV.asAgg 3 (xs.getD 1 .u)).bind fun c6 =>
 (AV.asI .i64 (c6.getD 0 .u)).bind fun n7 =>
 (AV.asI .i64 (c6.getD 1 .u)).bind fun n8 =>
 (AV.asI .i64 (c6.getD 2 .u)).bind fun n9 =>
 (AV.asI .i64 (xs.getD 2 .u)).bind fun n10 =>
 let σ11 := σ.bump 3
 let σ12 := σ11.put σ.next (.cells true 136 [(.p p1), (.i .i64 n2), (.i .i64 n3), (.i .i64 n4), (.i .i64 n5)])
 let σ13 := σ12.put (σ.next + 1) (.cells true 130 [(.i .i64 n7), (.i .i64 n8), (.i .i64 n9)])
 let σ14 := σ13.put ((σ.next + 1) + 1) (.cells true 130 [(.i .i64 0), (.i .i64 0), (.i .i64 0)])
 (σ14.ld (.n σ.next) 0).bind fun w15 =>
 (AV.asP w15).bind fun p16 =>
 (σ14.ld (.n σ.next) 1).bind fun w17 =>
 (AV.asI .i64 w17).bind fun n18 =>
 (σ14.ld (.n σ.next) 2).bind fun w19 =>
 (AV.asI .i64 w19).bind fun n20 =>
 (σ14.ld (.n σ.next) 3).bind fun w21 =>
 (AV.asI .i64 w21).bind fun n22 =>
 (σ14.ld (.n σ.next) 4).bind fun w23 =>
 (AV.asI .i64 w23).bind fun n24 =>
 (k127 [(.agg [(.p p16), (.i .i64 n18), (.i .i64 n20), (.i .i64 n22), (.i .i64 n24)]), (.i .i64 n10)] σ14).bind fun r25 =>
 (AV.asI .i64 r25.1).bind fun n26 =>
 (bif ((n26 : Int) != 0) then
 (r25.2.ld (.n (σ.next + 1)) 0).bind fun w27 =>
 (AV.asI .i64 w27).bind fun n28 =>
 (r25.2.ld (.n (σ.next + 1)) 1).bind fun w29 =>
 (AV.asI .i64 w29).bind fun n30 =>
 (r25.2.ld (.n (σ.next + 1)) 2).bind fun w31 =>
 (AV.asI .i64 w31).bind fun n32 =>
 (r25.2.st (.n ((σ.next + 1) + 1)) 0 [(.i .i64 n28), (.i .i64 n30), (.i .i64 n32)]).bind fun σ33 =>
 (σ33.ld (.n ((σ.next + 1) + 1)) 0).bind fun w34 =>
 (AV.asI .i64 w34).bind fun n35 =>
 (σ33.ld (.n ((σ.next + 1) + 1)) 1).bind fun w36 =>
 (AV.asI .i64 w36).bind fun n37 =>
 (σ33.ld (.n ((σ.next + 1) + 1)) 2).bind fun w38 =>
 (AV.asI .i64 w38).bind fun n39 =>
 some ((.tup [(.agg [(.i .i64 n35), (.i .i64 n37), (.i .i64 n39)]), (.i .i64 n26)]), σ33)
 else (r25.2.ld (.n σ.next) 0).bind fun w40 =>
 (AV.asP w40).bind fun p41 =>
 (r25.2.ld (.n σ.next) 1).bind fun w42 =>
 (AV.asI .i64 w42).bind fun n43 =>
 (r25.2.ld (.n σ.next) 2).bind fun w44 =>
 (AV.asI .i64 w44).bind fun n45 =>
 (r25.2.ld (.n σ.next) 3).bind fun w46 =>
 (AV.asI .i64 w46).bind fun n47 =>
 (r25.2.ld (.n σ.next) 4).bind fun w48 =>
 (AV.asI .i64 w48).bind fun n49 =>
 (r25.2.ld (.n σ.next) 4).bind fun w50 =>
 (AV.asI .i64 w50).bind fun n51 =>
 (r25.2.ld (.n (σ.next + 1)) 1).bind fun w52 =>
 (AV.asI .i64 w52).bind fun n53 =>
 (k128 [(.agg [(.p p41), (.i .i64 n43), (.i .i64 n45), (.i .i64 n47), (.i .i64 n49)]), (.i .i64 n10), (.i .i64 n51), (.i .i64 n53)] r25.2).bind fun r54 =>
 (AV.asTup 0 r54.1).bind fun c55 =>
 (r54.2.ld (.n σ.next) 0).bind fun w56 =>
 (AV.asP w56).bind fun p57 =>
 (r54.2.ld (.n σ.next) 1).bind fun w58 =>
 (AV.asI .i64 w58).bind fun n59 =>
 (r54.2.ld (.n σ.next) 2).bind fun w60 =>
 (AV.asI .i64 w60).bind fun n61 =>
 (r54.2.ld (.n σ.next) 3).bind fun w62 =>
 (AV.asI .i64 w62).bind fun n63 =>
 (r54.2.ld (.n σ.next) 4).bind fun w64 =>
 (AV.asI .i64 w64).bind fun n65 =>
 (r54.2.ld (.n σ.next) 3).bind fun w66 =>
 (AV.asI .i64 w66).bind fun n67 =>
 (k128 [(.agg [(.p p57), (.i .i64 n59), (.i .i64 n61), (.i .i64 n63), (.i .i64 n65)]), (.i .i64 n10), (.i .i64 n67), (.i .i64 0)] r54.2).bind fun r68 =>
 (AV.asTup 0 r68.1).bind fun c69 =>
 (r68.2.ld (.n (σ.next + 1)) 2).bind fun w70 =>
 (AV.asI .i64 w70).bind fun n71 =>
 (bif ((n71 : Int) == 0) then
 (r68.2.st (.n ((σ.next + 1) + 1)) 0 [(.i .i64 n10), (.i .i64 n10), (.i .i64 1)]).bind fun σ72 =>
 (σ72.ld (.n ((σ.next + 1) + 1)) 0).bind fun w73 =>
 (AV.asI .i64 w73).bind fun n74 =>
 (σ72.ld (.n ((σ.next + 1) + 1)) 1).bind fun w75 =>
 (AV.asI .i64 w75).bind fun n76 =>
 (σ72.ld (.n ((σ.next + 1) + 1)) 2).bind fun w77 =>
 (AV.asI .i64 w77).bind fun n78 =>
 some ((.tup [(.agg [(.i .i64 n74), (.i .i64 n76), (.i .i64 n78)]), (.i .i64 0)]), σ72)
 else (r68.2.ld (.n σ.next) 0).bind fun w79 =>
 (AV.asP w79).bind fun p80 =>
 (r68.2.ld (.n σ.next) 1).bind fun w81 =>
 (AV.asI .i64 w81).bind fun n82 =>
 (r68.2.ld (.n σ.next) 2).bind fun w83 =>
 (AV.asI .i64 w83).bind fun n84 =>
 (r68.2.ld (.n σ.next) 3).bind fun w85 =>
 (AV.asI .i64 w85).bind fun n86 =>
 (r68.2.ld (.n σ.next) 4).bind fun w87 =>
 (AV.asI .i64 w87).bind fun n88 =>
 (r68.2.ld (.n (σ.next + 1)) 1).bind fun w89 =>
 (AV.asI .i64 w89).bind fun n90 =>
 (r68.2.ld (.n σ.next) 3).bind fun w91 =>
 (AV.asI .i64 w91).bind fun n92 =>
 (k128 [(.agg [(.p p80), (.i .i64 n82), (.i .i64 n84), (.i .i64 n86), (.i .i64 n88)]), (.i .i64 n90), (.i .i64 n92), (.i .i64 n10)] r68.2).bind fun r93 =>
 (AV.asTup 0 r93.1).bind fun c94 =>
 (r93.2.ld (.n (σ.next + 1)) 0).bind fun w95 =>
 (AV.asI .i64 w95).bind fun n96 =>
 (r93.2.ld (.n (σ.next + 1)) 2).bind fun w97 =>
 (AV.asI .i64 w97).bind fun n98 =>
 (r93.2.st (.n ((σ.next + 1) + 1)) 0 [(.i .i64 n96), (.i .i64 n10), (.i .i64 (IntKind.i64.wrap (n98 + 1)))]).bind fun σ99 =>
 (σ99.ld (.n ((σ.next + 1) + 1)) 0).bind fun w100 =>
 (AV.asI .i64 w100).bind fun n101 =>
 (σ99.ld (.n ((σ.next + 1) + 1)) 1).bind fun w102 =>
 (AV.asI .i64 w102).bind fun n103 =>
 (σ99.ld (.n ((σ.next + 1) + 1)) 2).bind fun w104 =>
 (AV.asI .i64 w104).bind fun n105 =>
 some ((.tup [(.agg [(.i .i64 n101), (.i .i64 n103), (.i .i64 n105)]), (.i .i64 0)]), σ99)))
 else none
noncomputable def chain_Table__Push {O : Type} : Sm O := chain_Table__Push_c chain_Table__check chain_Table__set
theorem chain_Table__Push_ent : Entered Try.prog 63 := Try.call63
theorem chain_Table__Push_run {O : Type} (k127 k128 : Sm O) : run (O := O) Try.prog [(127, k127), (128, k128)] Try.f63 (.n .z (.n (.n .z (.n .z (.n .z .z))) (.n .z (.n .z (.n (.n .z (.n .z .z)) (.n .z .z)))))) = chain_Table__Push_c k127 k128 := by kernel_rfl
theorem chain_Table__Push_sound {O : Type} {RO : O → Loc → (Nat → Option Obj) → Prop} : FSound RO Try.prog 63 (chain_Table__Push) :=
   have h : FSound RO Try.prog 63 (chain_Table__Push_c chain_Table__check chain_Table__set) := (chain_Table__Push_run chain_Table__check chain_Table__set) ▸ run_sound (gcons chain_Table__check_ent (chain_Table__check_sound) <| gcons chain_Table__set_ent (chain_Table__set_sound) <| gnil) mixed Try.func63 (by kernel_rfl) _
   h

/-- (*haymow/large.Large).Add -/
noncomputable def large_Large__Add_c {O : Type} (k82 k60 k83 k61 k84 k63 : Sm O) : Sm O := fun xs σ =>
 bif Nat.beq xs.length 2 then
 (AV.asP (xs.getD 0 .u)).bind fun p0 =>
 (AV.asI .i64 (xs.getD 1 .u)).bind fun n1 =>
 (bif (decide (n1 < 1)) then
 some ((.tup [(.i .i64 0), (.i .i64 1)]), σ)
 else Option.bind p0 fun q2 =>
 (σ.ld q2.1 q2.2).bind fun w3 =>
 (AV.asP w3).bind fun p4 =>
 (k82 [(.p p4), (.i .i64 n1)] σ).bind fun r5 =>
 (AV.asTup 2 r5.1).bind fun c6 =>
 (AV.asI .i64 (c6.getD 0 .u)).bind fun n7 =>
 (AV.asI .i64 (c6.getD 1 .u)).bind fun n8 =>
 (bif ((n8 : Int) != 0) then
 some ((.tup [(.i .i64 0), (.i .i64 n8)]), r5.2)
 else Option.bind p0 fun q9 =>
 (r5.2.ld q9.1 (q9.2 + 1)).bind fun w10 =>
 (AV.asP w10).bind fun p11 =>
 (k60 [(.p p11)] r5.2).bind fun r12 =>
 (AV.asTup 2 r12.1).bind fun c13 =>
 (AV.asI .i64 (c13.getD 0 .u)).bind fun n14 =>
 (AV.asI .i64 (c13.getD 1 .u)).bind fun n15 =>
 (bif ((n15 : Int) != 0) then
 Option.bind p0 fun q16 =>
 (r12.2.ld q16.1 q16.2).bind fun w17 =>
 (AV.asP w17).bind fun p18 =>
 (k83 [(.p p18), (.i .i64 n7)] r12.2).bind fun r19 =>
 (AV.asI .i64 r19.1).bind fun n20 =>
 some ((.tup [(.i .i64 0), (.i .i64 n15)]), r19.2)
 else Option.bind p0 fun q21 =>
 (r12.2.ld q21.1 (q21.2 + 1)).bind fun w22 =>
 (AV.asP w22).bind fun p23 =>
 (k61 [(.p p23), (.i .i64 n14), (.i .i64 0), (.i .u64 (IntKind.u64.wrap n7))] r12.2).bind fun r24 =>
 (AV.asI .i64 r24.1).bind fun n25 =>
 Option.bind p0 fun q26 =>
 (r24.2.ld q26.1 (q26.2 + 1)).bind fun w27 =>
 (AV.asP w27).bind fun p28 =>
 (k61 [(.p p28), (.i .i64 n14), (.i .i64 1), (.i .u64 (IntKind.u64.wrap n1))] r24.2).bind fun r29 =>
 (AV.asI .i64 r29.1).bind fun n30 =>
 Option.bind p0 fun q31 =>
 (r29.2.ld q31.1 (q31.2 + 1)).bind fun w32 =>
 (AV.asP w32).bind fun p33 =>
 Option.bind p0 fun q34 =>
 (r29.2.ld q34.1 (q34.2 + 8)).bind fun w35 =>
 (AV.asI .u64 w35).bind fun n36 =>
 (k61 [(.p p33), (.i .i64 n14), (.i .i64 4), (.i .u64 n36)] r29.2).bind fun r37 =>
 (AV.asI .i64 r37.1).bind fun n38 =>
 Option.bind p0 fun q39 =>
 (r37.2.ld q39.1 (q39.2 + 2)).bind fun w40 =>
 (AV.asI .i64 w40).bind fun n41 =>
 (r37.2.ld q39.1 ((q39.2 + 2) + 1)).bind fun w42 =>
 (AV.asI .i64 w42).bind fun n43 =>
 (r37.2.ld q39.1 (((q39.2 + 2) + 1) + 1)).bind fun w44 =>
 (AV.asI .i64 w44).bind fun n45 =>
 (k84 [(.p p0)] r37.2).bind fun r46 =>
 (AV.asAgg 5 r46.1).bind fun c47 =>
 (AV.asP (c47.getD 0 .u)).bind fun p48 =>
 (AV.asI .i64 (c47.getD 1 .u)).bind fun n49 =>
 (AV.asI .i64 (c47.getD 2 .u)).bind fun n50 =>
 (AV.asI .i64 (c47.getD 3 .u)).bind fun n51 =>
 (AV.asI .i64 (c47.getD 4 .u)).bind fun n52 =>
 (chkE (r46.2.ld q39.1 (q39.2 + 2)) (some (.i .i64 n41))).bind fun _ =>
 (chkE (r46.2.ld q39.1 ((q39.2 + 2) + 1)) (some (.i .i64 n43))).bind fun _ =>
 (chkE (r46.2.ld q39.1 (((q39.2 + 2) + 1) + 1)) (some (.i .i64 n45))).bind fun _ =>
 (k63 [(.agg [(.p p48), (.i .i64 n49), (.i .i64 n50), (.i .i64 n51), (.i .i64 n52)]), (.agg [(.i .i64 n41), (.i .i64 n43), (.i .i64 n45)]), (.i .i64 n14)] r46.2).bind fun r53 =>
 (AV.asTup 2 r53.1).bind fun c54 =>
 (AV.asAgg 3 (c54.getD 0 .u)).bind fun c55 =>
 (AV.asI .i64 (c55.getD 0 .u)).bind fun n56 =>
 (AV.asI .i64 (c55.getD 1 .u)).bind fun n57 =>
 (AV.asI .i64 (c55.getD 2 .u)).bind fun n58 =>
 (AV.asI .i64 (c54.getD 1 .u)).bind fun n59 =>
 Option.bind p0 fun q60 =>
 (r53.2.st q60.1 (q60.2 + 2) [(.i .i64 n56), (.i .i64 n57), (.i .i64 n58)]).bind fun σ61 =>
 Option.bind p0 fun q62 =>
 (σ61.ld q62.1 (q62.2 + 10)).bind fun w63 =>
 (AV.asI .i64 w63).bind fun n64 =>
 Option.bind p0 fun q65 =>
 (σ61.st q65.1 (q65.2 + 10) [(.i .i64 (IntKind.i64.wrap (n64 + n1)))]).bind fun σ66 =>
 some ((.tup [(.i .i64 n14), (.i .i64 0)]), σ66))))
 else none
noncomputable def large_Large__Add {O : Type} : Sm O := large_Large__Add_c mem_Mem__Open pool_Pool__Take mem_Mem__Close pool_Pool__Set large_Large__table chain_Table__Push
theorem large_Large__Add_ent : Entered Try.prog 27 := Try.call27
theorem large_Large__Add_run {O : Type} (k82 k60 k83 k61 k84 k63 : Sm O) : run (O := O) Try.prog [(82, k82), (60, k60), (83, k83), (61, k61), (84, k84), (63, k63)] Try.f27 (.n .z (.n (.n .z (.n .z .z)) (.n .z (.n (.n .z (.n .z .z)) (.n .z (.n (.n .z (.n (.n .z .z) .z)) (.n .z (.n .z (.n (.d [] [0, 1, 2, 3, 4, 5, 6, 7, 8, 9] [0, 1, 3, 7, 0, 0, 32, 96, 224, 511]) (.n (.d [] [0, 1, 3, 4, 5, 6, 7, 2, 8, 9, 10, 11, 12, 13, 14] [0, 0, 2, 0, 8, 24, 56, 0, 254, 510, 1022, 1022, 2047, 6143, 14335]) (.n .z .z))))))))))) = large_Large__Add_c k82 k60 k83 k61 k84 k63 := by kernel_rfl
theorem large_Large__Add_sound {O : Type} {RO : O → Loc → (Nat → Option Obj) → Prop} : FSound RO Try.prog 27 (large_Large__Add) :=
   have h : FSound RO Try.prog 27 (large_Large__Add_c mem_Mem__Open pool_Pool__Take mem_Mem__Close pool_Pool__Set large_Large__table chain_Table__Push) := (large_Large__Add_run mem_Mem__Open pool_Pool__Take mem_Mem__Close pool_Pool__Set large_Large__table chain_Table__Push) ▸ run_sound (gcons mem_Mem__Open_ent (mem_Mem__Open_sound) <| gcons pool_Pool__Take_ent (pool_Pool__Take_sound) <| gcons mem_Mem__Close_ent (mem_Mem__Close_sound) <| gcons pool_Pool__Set_ent (pool_Pool__Set_sound) <| gcons large_Large__table_ent (large_Large__table_sound) <| gcons chain_Table__Push_ent (chain_Table__Push_sound) <| gnil) mixed Try.func27 (by kernel_rfl) _
   h

/-- (haymow/chain.Table).Join -/
noncomputable def chain_Table__Join_c {O : Type} (k140 k128 : Sm O) : Sm O := fun xs σ =>
 bif Nat.beq xs.length 3 then
 (AV.asAgg 5 (xs.getD 0 .u)).bind fun c0 =>
 (AV.asP (c0.getD 0 .u)).bind fun p1 =>
 (AV.asI .i64 (c0.getD 1 .u)).bind fun n2 =>
 (AV.asI .i64 (c0.getD 2 .u)).bind fun n3 =>
 (AV.asI .i64 (c0.getD 3 .u)).bind fun n4 =>
 (AV.asI .i64 (c0.getD 4 .u)).bind fun n5 =>
 (AV.asAgg 3 (xs.getD 1 .u)).bind fun c6 =>
 (AV.asI .i64 (c6.getD 0 .u)).bind fun n7 =>
 (AV.asI .i64 (c6.getD 1 .u)).bind fun n8 =>
 (AV.asI .i64 (c6.getD 2 .u)).bind fun n9 =>
 (AV.asAgg 3 (xs.getD 2 .u)).bind fun c10 =>
 (AV.asI .i64 (c10.getD 0 .u)).bind fun n11 =>
 (AV.asI .i64 (c10.getD 1 .u)).bind fun n12 =>
 (AV.asI .i64 (c10.getD 2 .u)).bind fun n13 =>
 let σ14 := σ.bump 4
 let σ15 := σ14.put σ.next (.cells true 136 [(.p p1), (.i .i64 n2), (.i .i64 n3), (.i .i64 n4), (.i .i64 n5)])
 let σ16 := σ15.put (σ.next + 1) (.cells true 130 [(.i .i64 n7), (.i .i64 n8), (.i .i64 n9)])
 let σ17 := σ16.put ((σ.next + 1) + 1) (.cells true 130 [(.i .i64 n11), (.i .i64 n12), (.i .i64 n13)])
 let σ18 := σ17.put (((σ.next + 1) + 1) + 1) (.cells true 130 [(.i .i64 0), (.i .i64 0), (.i .i64 0)])
 (σ18.ld (.n σ.next) 0).bind fun w19 =>
 (AV.asP w19).bind fun p20 =>
 (σ18.ld (.n σ.next) 1).bind fun w21 =>
 (AV.asI .i64 w21).bind fun n22 =>
 (σ18.ld (.n σ.next) 2).bind fun w23 =>
 (AV.asI .i64 w23).bind fun n24 =>
 (σ18.ld (.n σ.next) 3).bind fun w25 =>
 (AV.asI .i64 w25).bind fun n26 =>
 (σ18.ld (.n σ.next) 4).bind fun w27 =>
 (AV.asI .i64 w27).bind fun n28 =>
 (k140 [(.agg [(.p p20), (.i .i64 n22), (.i .i64 n24), (.i .i64 n26), (.i .i64 n28)])] σ18).bind fun r29 =>
 (AV.asB r29.1).bind fun b30 =>
 (bif (!b30) then
 (r29.2.ld (.n (σ.next + 1)) 0).bind fun w31 =>
 (AV.asI .i64 w31).bind fun n32 =>
 (r29.2.ld (.n (σ.next + 1)) 1).bind fun w33 =>
 (AV.asI .i64 w33).bind fun n34 =>
 (r29.2.ld (.n (σ.next + 1)) 2).bind fun w35 =>
 (AV.asI .i64 w35).bind fun n36 =>
 (r29.2.st (.n (((σ.next + 1) + 1) + 1)) 0 [(.i .i64 n32), (.i .i64 n34), (.i .i64 n36)]).bind fun σ37 =>
 (σ37.ld (.n (((σ.next + 1) + 1) + 1)) 0).bind fun w38 =>
 (AV.asI .i64 w38).bind fun n39 =>
 (σ37.ld (.n (((σ.next + 1) + 1) + 1)) 1).bind fun w40 =>
 (AV.asI .i64 w40).bind fun n41 =>
 (σ37.ld (.n (((σ.next + 1) + 1) + 1)) 2).bind fun w42 =>
 (AV.asI .i64 w42).bind fun n43 =>
 some ((.tup [(.agg [(.i .i64 n39), (.i .i64 n41), (.i .i64 n43)]), (.i .i64 1)]), σ37)
 else (r29.2.ld (.n (σ.next + 1)) 2).bind fun w44 =>
 (AV.asI .i64 w44).bind fun n45 =>
 (bif ((n45 : Int) == 0) then
 (r29.2.ld (.n ((σ.next + 1) + 1)) 0).bind fun w46 =>
 (AV.asI .i64 w46).bind fun n47 =>
 (r29.2.ld (.n ((σ.next + 1) + 1)) 1).bind fun w48 =>
 (AV.asI .i64 w48).bind fun n49 =>
 (r29.2.ld (.n ((σ.next + 1) + 1)) 2).bind fun w50 =>
 (AV.asI .i64 w50).bind fun n51 =>
 (r29.2.st (.n (((σ.next + 1) + 1) + 1)) 0 [(.i .i64 n47), (.i .i64 n49), (.i .i64 n51)]).bind fun σ52 =>
 (σ52.ld (.n (((σ.next + 1) + 1) + 1)) 0).bind fun w53 =>
 (AV.asI .i64 w53).bind fun n54 =>
 (σ52.ld (.n (((σ.next + 1) + 1) + 1)) 1).bind fun w55 =>
 (AV.asI .i64 w55).bind fun n56 =>
 (σ52.ld (.n (((σ.next + 1) + 1) + 1)) 2).bind fun w57 =>
 (AV.asI .i64 w57).bind fun n58 =>
 some ((.tup [(.agg [(.i .i64 n54), (.i .i64 n56), (.i .i64 n58)]), (.i .i64 0)]), σ52)
 else (r29.2.ld (.n ((σ.next + 1) + 1)) 2).bind fun w59 =>
 (AV.asI .i64 w59).bind fun n60 =>
 (bif ((n60 : Int) == 0) then
 (r29.2.ld (.n (σ.next + 1)) 0).bind fun w61 =>
 (AV.asI .i64 w61).bind fun n62 =>
 (r29.2.ld (.n (σ.next + 1)) 1).bind fun w63 =>
 (AV.asI .i64 w63).bind fun n64 =>
 (r29.2.ld (.n (σ.next + 1)) 2).bind fun w65 =>
 (AV.asI .i64 w65).bind fun n66 =>
 (r29.2.st (.n (((σ.next + 1) + 1) + 1)) 0 [(.i .i64 n62), (.i .i64 n64), (.i .i64 n66)]).bind fun σ67 =>
 (σ67.ld (.n (((σ.next + 1) + 1) + 1)) 0).bind fun w68 =>
 (AV.asI .i64 w68).bind fun n69 =>
 (σ67.ld (.n (((σ.next + 1) + 1) + 1)) 1).bind fun w70 =>
 (AV.asI .i64 w70).bind fun n71 =>
 (σ67.ld (.n (((σ.next + 1) + 1) + 1)) 2).bind fun w72 =>
 (AV.asI .i64 w72).bind fun n73 =>
 some ((.tup [(.agg [(.i .i64 n69), (.i .i64 n71), (.i .i64 n73)]), (.i .i64 0)]), σ67)
 else (r29.2.ld (.n σ.next) 0).bind fun w74 =>
 (AV.asP w74).bind fun p75 =>
 (r29.2.ld (.n σ.next) 1).bind fun w76 =>
 (AV.asI .i64 w76).bind fun n77 =>
 (r29.2.ld (.n σ.next) 2).bind fun w78 =>
 (AV.asI .i64 w78).bind fun n79 =>
 (r29.2.ld (.n σ.next) 3).bind fun w80 =>
 (AV.asI .i64 w80).bind fun n81 =>
 (r29.2.ld (.n σ.next) 4).bind fun w82 =>
 (AV.asI .i64 w82).bind fun n83 =>
 (r29.2.ld (.n (σ.next + 1)) 1).bind fun w84 =>
 (AV.asI .i64 w84).bind fun n85 =>
 (r29.2.ld (.n σ.next) 3).bind fun w86 =>
 (AV.asI .i64 w86).bind fun n87 =>
 (r29.2.ld (.n ((σ.next + 1) + 1)) 0).bind fun w88 =>
 (AV.asI .i64 w88).bind fun n89 =>
 (k128 [(.agg [(.p p75), (.i .i64 n77), (.i .i64 n79), (.i .i64 n81), (.i .i64 n83)]), (.i .i64 n85), (.i .i64 n87), (.i .i64 n89)] r29.2).bind fun r90 =>
 (AV.asTup 0 r90.1).bind fun c91 =>
 (r90.2.ld (.n σ.next) 0).bind fun w92 =>
 (AV.asP w92).bind fun p93 =>
 (r90.2.ld (.n σ.next) 1).bind fun w94 =>
 (AV.asI .i64 w94).bind fun n95 =>
 (r90.2.ld (.n σ.next) 2).bind fun w96 =>
 (AV.asI .i64 w96).bind fun n97 =>
 (r90.2.ld (.n σ.next) 3).bind fun w98 =>
 (AV.asI .i64 w98).bind fun n99 =>
 (r90.2.ld (.n σ.next) 4).bind fun w100 =>
 (AV.asI .i64 w100).bind fun n101 =>
 (r90.2.ld (.n ((σ.next + 1) + 1)) 0).bind fun w102 =>
 (AV.asI .i64 w102).bind fun n103 =>
 (r90.2.ld (.n σ.next) 4).bind fun w104 =>
 (AV.asI .i64 w104).bind fun n105 =>
 (r90.2.ld (.n (σ.next + 1)) 1).bind fun w106 =>
 (AV.asI .i64 w106).bind fun n107 =>
 (k128 [(.agg [(.p p93), (.i .i64 n95), (.i .i64 n97), (.i .i64 n99), (.i .i64 n101)]), (.i .i64 n103), (.i .i64 n105), (.i .i64 n107)] r90.2).bind fun r108 =>
 (AV.asTup 0 r108.1).bind fun c109 =>
 (r108.2.ld (.n (σ.next + 1)) 0).bind fun w110 =>
 (AV.asI .i64 w110).bind fun n111 =>
 (r108.2.ld (.n ((σ.next + 1) + 1)) 1).bind fun w112 =>
 (AV.asI .i64 w112).bind fun n113 =>
 (r108.2.ld (.n (σ.next + 1)) 2).bind fun w114 =>
 (AV.asI .i64 w114).bind fun n115 =>
 (r108.2.ld (.n ((σ.next + 1) + 1)) 2).bind fun w116 =>
 (AV.asI .i64 w116).bind fun n117 =>
 (r108.2.st (.n (((σ.next + 1) + 1) + 1)) 0 [(.i .i64 n111), (.i .i64 n113), (.i .i64 (IntKind.i64.wrap (n115 + n117)))]).bind fun σ118 =>
 (σ118.ld (.n (((σ.next + 1) + 1) + 1)) 0).bind fun w119 =>
 (AV.asI .i64 w119).bind fun n120 =>
 (σ118.ld (.n (((σ.next + 1) + 1) + 1)) 1).bind fun w121 =>
 (AV.asI .i64 w121).bind fun n122 =>
 (σ118.ld (.n (((σ.next + 1) + 1) + 1)) 2).bind fun w123 =>
 (AV.asI .i64 w123).bind fun n124 =>
 some ((.tup [(.agg [(.i .i64 n120), (.i .i64 n122), (.i .i64 n124)]), (.i .i64 0)]), σ118))))
 else none
noncomputable def chain_Table__Join {O : Type} : Sm O := chain_Table__Join_c chain_Table__Right chain_Table__set
theorem chain_Table__Join_ent : Entered Try.prog 85 := Try.call85
theorem chain_Table__Join_run {O : Type} (k140 k128 : Sm O) : run (O := O) Try.prog [(140, k140), (128, k128)] Try.f85 (.n .z (.n (.n (.n .z (.n .z (.n .z (.n .z (.n .z (.n .z .z)))))) .z) (.n .z (.n .z .z)))) = chain_Table__Join_c k140 k128 := by kernel_rfl
theorem chain_Table__Join_sound {O : Type} {RO : O → Loc → (Nat → Option Obj) → Prop} : FSound RO Try.prog 85 (chain_Table__Join) :=
   have h : FSound RO Try.prog 85 (chain_Table__Join_c chain_Table__Right chain_Table__set) := (chain_Table__Join_run chain_Table__Right chain_Table__set) ▸ run_sound (gcons chain_Table__Right_ent (chain_Table__Right_sound) <| gcons chain_Table__set_ent (chain_Table__set_sound) <| gnil) mixed Try.func85 (by kernel_rfl) _
   h

/-- (*haymow/large.Large).Begin -/
noncomputable def large_Large__Begin_c {O : Type} (k84 k85 : Sm O) : Sm O := fun xs σ =>
 bif Nat.beq xs.length 1 then
 (AV.asP (xs.getD 0 .u)).bind fun p0 =>
 Option.bind p0 fun q1 =>
 (σ.ld q1.1 (q1.2 + 8)).bind fun w2 =>
 (AV.asI .u64 w2).bind fun n3 =>
 Option.bind p0 fun q4 =>
 (σ.st q4.1 (q4.2 + 8) [(.i .u64 (IntKind.u64.wrap (n3 + 1)))]).bind fun σ5 =>
 Option.bind p0 fun q6 =>
 (σ5.ld q6.1 (q6.2 + 5)).bind fun w7 =>
 (AV.asI .i64 w7).bind fun n8 =>
 (σ5.ld q6.1 ((q6.2 + 5) + 1)).bind fun w9 =>
 (AV.asI .i64 w9).bind fun n10 =>
 (σ5.ld q6.1 (((q6.2 + 5) + 1) + 1)).bind fun w11 =>
 (AV.asI .i64 w11).bind fun n12 =>
 Option.bind p0 fun q13 =>
 (σ5.ld q13.1 (q13.2 + 2)).bind fun w14 =>
 (AV.asI .i64 w14).bind fun n15 =>
 (σ5.ld q13.1 ((q13.2 + 2) + 1)).bind fun w16 =>
 (AV.asI .i64 w16).bind fun n17 =>
 (σ5.ld q13.1 (((q13.2 + 2) + 1) + 1)).bind fun w18 =>
 (AV.asI .i64 w18).bind fun n19 =>
 (k84 [(.p p0)] σ5).bind fun r20 =>
 (AV.asAgg 5 r20.1).bind fun c21 =>
 (AV.asP (c21.getD 0 .u)).bind fun p22 =>
 (AV.asI .i64 (c21.getD 1 .u)).bind fun n23 =>
 (AV.asI .i64 (c21.getD 2 .u)).bind fun n24 =>
 (AV.asI .i64 (c21.getD 3 .u)).bind fun n25 =>
 (AV.asI .i64 (c21.getD 4 .u)).bind fun n26 =>
 (chkE (r20.2.ld q6.1 (q6.2 + 5)) (some (.i .i64 n8))).bind fun _ =>
 (chkE (r20.2.ld q6.1 ((q6.2 + 5) + 1)) (some (.i .i64 n10))).bind fun _ =>
 (chkE (r20.2.ld q6.1 (((q6.2 + 5) + 1) + 1)) (some (.i .i64 n12))).bind fun _ =>
 (chkE (r20.2.ld q13.1 (q13.2 + 2)) (some (.i .i64 n15))).bind fun _ =>
 (chkE (r20.2.ld q13.1 ((q13.2 + 2) + 1)) (some (.i .i64 n17))).bind fun _ =>
 (chkE (r20.2.ld q13.1 (((q13.2 + 2) + 1) + 1)) (some (.i .i64 n19))).bind fun _ =>
 (k85 [(.agg [(.p p22), (.i .i64 n23), (.i .i64 n24), (.i .i64 n25), (.i .i64 n26)]), (.agg [(.i .i64 n8), (.i .i64 n10), (.i .i64 n12)]), (.agg [(.i .i64 n15), (.i .i64 n17), (.i .i64 n19)])] r20.2).bind fun r27 =>
 (AV.asTup 2 r27.1).bind fun c28 =>
 (AV.asAgg 3 (c28.getD 0 .u)).bind fun c29 =>
 (AV.asI .i64 (c29.getD 0 .u)).bind fun n30 =>
 (AV.asI .i64 (c29.getD 1 .u)).bind fun n31 =>
 (AV.asI .i64 (c29.getD 2 .u)).bind fun n32 =>
 (AV.asI .i64 (c28.getD 1 .u)).bind fun n33 =>
 Option.bind p0 fun q34 =>
 (r27.2.st q34.1 (q34.2 + 5) [(.i .i64 n30), (.i .i64 n31), (.i .i64 n32)]).bind fun σ35 =>
 Option.bind p0 fun q36 =>
 (σ35.st q36.1 (q36.2 + 2) [(.i .i64 0), (.i .i64 0), (.i .i64 0)]).bind fun σ37 =>
 Option.bind p0 fun q38 =>
 (σ37.st q38.1 (q38.2 + 9) [(.i .i64 0)]).bind fun σ39 =>
 some ((.tup []), σ39)
 else none
noncomputable def large_Large__Begin {O : Type} : Sm O := large_Large__Begin_c large_Large__table chain_Table__Join
theorem large_Large__Begin_ent : Entered Try.prog 28 := Try.call28
theorem large_Large__Begin_run {O : Type} (k84 k85 : Sm O) : run (O := O) Try.prog [(84, k84), (85, k85)] Try.f28 (.n .z (.n (.d [] [0, 1, 3, 4, 5, 6, 7, 8, 9, 10, 2, 11, 12, 13, 14, 15, 16, 17] [0, 0, 2, 0, 8, 24, 56, 0, 128, 384, 896, 2046, 4094, 8190, 8190, 16383, 49151, 114687]) .z)) = large_Large__Begin_c k84 k85 := by kernel_rfl
theorem large_Large__Begin_sound {O : Type} {RO : O → Loc → (Nat → Option Obj) → Prop} : FSound RO Try.prog 28 (large_Large__Begin) :=
   have h : FSound RO Try.prog 28 (large_Large__Begin_c large_Large__table chain_Table__Join) := (large_Large__Begin_run large_Large__table chain_Table__Join) ▸ run_sound (gcons large_Large__table_ent (large_Large__table_sound) <| gcons chain_Table__Join_ent (chain_Table__Join_sound) <| gnil) mixed Try.func28 (by kernel_rfl) _
   h

/-- (*haymow/pool.Pool).Get -/
noncomputable def pool_Pool__Get_c {O : Type} (k125 k123 k92 : Sm O) : Sm O := fun xs σ =>
 bif Nat.beq xs.length 3 then
 (AV.asP (xs.getD 0 .u)).bind fun p0 =>
 (AV.asI .i64 (xs.getD 1 .u)).bind fun n1 =>
 (AV.asI .i64 (xs.getD 2 .u)).bind fun n2 =>
 (k125 [(.p p0), (.i .i64 n1), (.i .i64 n2)] σ).bind fun r3 =>
 (AV.asI .i64 r3.1).bind fun n4 =>
 (bif ((n4 : Int) != 0) then
 some ((.tup [(.i .u64 0), (.i .i64 n4)]), r3.2)
 else Option.bind p0 fun q5 =>
 (r3.2.ld q5.1 q5.2).bind fun w6 =>
 (AV.asP w6).bind fun p7 =>
 Option.bind p0 fun q8 =>
 (r3.2.ld q8.1 (q8.2 + 1)).bind fun w9 =>
 (AV.asI .i64 w9).bind fun n10 =>
 (k123 [(.p p0), (.i .i64 n1), (.i .i64 n2)] r3.2).bind fun r11 =>
 (AV.asI .i64 r11.1).bind fun n12 =>
 (chkE (r11.2.ld q5.1 q5.2) (some (.p p7))).bind fun _ =>
 (chkE (r11.2.ld q8.1 (q8.2 + 1)) (some (.i .i64 n10))).bind fun _ =>
 (k92 [(.p p7), (.i .i64 n10), (.i .i64 n12)] r11.2).bind fun r13 =>
 (AV.asTup 2 r13.1).bind fun c14 =>
 (AV.asI .u64 (c14.getD 0 .u)).bind fun n15 =>
 (AV.asI .i64 (c14.getD 1 .u)).bind fun n16 =>
 some ((.tup [(.i .u64 n15), (.i .i64 n16)]), r13.2))
 else none
noncomputable def pool_Pool__Get {O : Type} : Sm O := pool_Pool__Get_c pool_Pool__check pool_Pool__at mem_Mem__Read
theorem pool_Pool__Get_ent : Entered Try.prog 79 := Try.call79
theorem pool_Pool__Get_run {O : Type} (k125 k123 k92 : Sm O) : run (O := O) Try.prog [(125, k125), (123, k123), (92, k92)] Try.f79 (.n .z (.n (.n .z (.n .z (.n .z .z))) (.n (.d [] [0, 1, 2, 3, 4, 5, 6, 7, 8, 9, 10, 11, 12, 13, 14, 15, 16] [0, 1, 3, 7, 0, 16, 48, 112, 0, 0, 0, 1792, 4095, 8191, 8191, 32767, 65535]) .z))) = pool_Pool__Get_c k125 k123 k92 := by kernel_rfl
theorem pool_Pool__Get_sound {O : Type} {RO : O → Loc → (Nat → Option Obj) → Prop} : FSound RO Try.prog 79 (pool_Pool__Get) :=
   have h : FSound RO Try.prog 79 (pool_Pool__Get_c pool_Pool__check pool_Pool__at mem_Mem__Read) := (pool_Pool__Get_run pool_Pool__check pool_Pool__at mem_Mem__Read) ▸ run_sound (gcons pool_Pool__check_ent (pool_Pool__check_sound) <| gcons pool_Pool__at_ent (pool_Pool__at_sound) <| gcons mem_Mem__Read_ent (mem_Mem__Read_sound) <| gnil) mixed Try.func79 (by kernel_rfl) _
   h

/-- (*haymow/large.Large).Marked -/
noncomputable def large_Large__Marked_c {O : Type} (k79 : Sm O) : Sm O := fun xs σ =>
 bif Nat.beq xs.length 2 then
 (AV.asP (xs.getD 0 .u)).bind fun p0 =>
 (AV.asI .i64 (xs.getD 1 .u)).bind fun n1 =>
 Option.bind p0 fun q2 =>
 (σ.ld q2.1 (q2.2 + 1)).bind fun w3 =>
 (AV.asP w3).bind fun p4 =>
 (k79 [(.p p4), (.i .i64 n1), (.i .i64 4)] σ).bind fun r5 =>
 (AV.asTup 2 r5.1).bind fun c6 =>
 (AV.asI .u64 (c6.getD 0 .u)).bind fun n7 =>
 (AV.asI .i64 (c6.getD 1 .u)).bind fun n8 =>
 ((bif (((n8 : Int) == 0) == true) then
 Option.bind p0 fun q9 =>
 (r5.2.ld q9.1 (q9.2 + 8)).bind fun w10 =>
 (AV.asI .u64 w10).bind fun n11 =>
 some ([(.b ((n7 : Int) == n11))], r5.2)
 else some ([(.b false)], r5.2)) : Option (List AV × AH O)).bind fun r12 =>
 (AV.asB (r12.1.getD 0 .u)).bind fun b13 =>
 some ((.tup [(.b b13), (.i .i64 n8)]), r12.2)
 else none
noncomputable def large_Large__Marked {O : Type} : Sm O := large_Large__Marked_c pool_Pool__Get
theorem large_Large__Marked_ent : Entered Try.prog 86 := Try.call86
theorem large_Large__Marked_run {O : Type} (k79 : Sm O) : run (O := O) Try.prog [(79, k79)] Try.f86 (.n .z (.n .z (.n (.g [(2, 6, [(26, .one .b)])]) .z))) = large_Large__Marked_c k79 := by kernel_rfl
theorem large_Large__Marked_sound {O : Type} {RO : O → Loc → (Nat → Option Obj) → Prop} : FSound RO Try.prog 86 (large_Large__Marked) :=
   have h : FSound RO Try.prog 86 (large_Large__Marked_c pool_Pool__Get) := (large_Large__Marked_run pool_Pool__Get) ▸ run_sound (gcons pool_Pool__Get_ent (pool_Pool__Get_sound) <| gnil) mixed Try.func86 (by kernel_rfl) _
   h

/-- (haymow/chain.Table).get -/
noncomputable def chain_Table__get_c {O : Type} (k157 k92 : Sm O) : Sm O := fun xs σ =>
 bif Nat.beq xs.length 3 then
 (AV.asAgg 5 (xs.getD 0 .u)).bind fun c0 =>
 (AV.asP (c0.getD 0 .u)).bind fun p1 =>
 (AV.asI .i64 (c0.getD 1 .u)).bind fun n2 =>
 (AV.asI .i64 (c0.getD 2 .u)).bind fun n3 =>
 (AV.asI .i64 (c0.getD 3 .u)).bind fun n4 =>
 (AV.asI .i64 (c0.getD 4 .u)).bind fun n5 =>
 (AV.asI .i64 (xs.getD 1 .u)).bind fun n6 =>
 (AV.asI .i64 (xs.getD 2 .u)).bind fun n7 =>
 let σ8 := σ.bump 1
 let σ9 := σ8.put σ.next (.cells true 136 [(.p p1), (.i .i64 n2), (.i .i64 n3), (.i .i64 n4), (.i .i64 n5)])
 (σ9.ld (.n σ.next) 0).bind fun w10 =>
 (AV.asP w10).bind fun p11 =>
 (σ9.ld (.n σ.next) 1).bind fun w12 =>
 (AV.asI .i64 w12).bind fun n13 =>
 (σ9.ld (.n σ.next) 0).bind fun w14 =>
 (AV.asP w14).bind fun p15 =>
 (σ9.ld (.n σ.next) 1).bind fun w16 =>
 (AV.asI .i64 w16).bind fun n17 =>
 (σ9.ld (.n σ.next) 2).bind fun w18 =>
 (AV.asI .i64 w18).bind fun n19 =>
 (σ9.ld (.n σ.next) 3).bind fun w20 =>
 (AV.asI .i64 w20).bind fun n21 =>
 (σ9.ld (.n σ.next) 4).bind fun w22 =>
 (AV.asI .i64 w22).bind fun n23 =>
 (k157 [(.agg [(.p p15), (.i .i64 n17), (.i .i64 n19), (.i .i64 n21), (.i .i64 n23)]), (.i .i64 n6), (.i .i64 n7)] σ9).bind fun r24 =>
 (AV.asI .i64 r24.1).bind fun n25 =>
 (chkE (r24.2.ld (.n σ.next) 0) (some (.p p11))).bind fun _ =>
 (chkE (r24.2.ld (.n σ.next) 1) (some (.i .i64 n13))).bind fun _ =>
 (k92 [(.p p11), (.i .i64 n13), (.i .i64 n25)] r24.2).bind fun r26 =>
 (AV.asTup 2 r26.1).bind fun c27 =>
 (AV.asI .u64 (c27.getD 0 .u)).bind fun n28 =>
 (AV.asI .i64 (c27.getD 1 .u)).bind fun n29 =>
 some ((.i .i64 (IntKind.i64.wrap n28)), r26.2)
 else none
noncomputable def chain_Table__get {O : Type} : Sm O := chain_Table__get_c chain_Table__at mem_Mem__Read
theorem chain_Table__get_ent : Entered Try.prog 141 := Try.call141
theorem chain_Table__get_run {O : Type} (k157 k92 : Sm O) : run (O := O) Try.prog [(157, k157), (92, k92)] Try.f141 (.n .z (.n (.d [] [0, 1, 2, 3, 4, 5, 6, 7, 8, 9, 10, 11, 12, 13] [0, 1, 0, 4, 0, 0, 0, 112, 255, 511, 1023, 1023, 2047, 8191]) .z)) = chain_Table__get_c k157 k92 := by kernel_rfl
theorem chain_Table__get_sound {O : Type} {RO : O → Loc → (Nat → Option Obj) → Prop} : FSound RO Try.prog 141 (chain_Table__get) :=
   have h : FSound RO Try.prog 141 (chain_Table__get_c chain_Table__at mem_Mem__Read) := (chain_Table__get_run chain_Table__at mem_Mem__Read) ▸ run_sound (gcons chain_Table__at_ent (chain_Table__at_sound) <| gcons mem_Mem__Read_ent (mem_Mem__Read_sound) <| gnil) mixed Try.func141 (by kernel_rfl) _
   h

/-- (haymow/chain.Table).Drop -/
noncomputable def chain_Table__Drop_c {O : Type} (k127 k141 k128 : Sm O) : Sm O := fun xs σ =>
 bif Nat.beq xs.length 3 then
 (AV.asAgg 5 (xs.getD 0 .u)).bind fun c0 =>
 (AV.asP (c0.getD 0 .u)).bind fun p1 =>
 (AV.asI .i64 (c0.getD 1 .u)).bind fun n2 =>
 (AV.asI .i64 (c0.getD 2 .u)).bind fun n3 =>
 (AV.asI .i64 (c0.getD 3 .u)).bind fun n4 =>
 (AV.asI .i64 (c0.getD 4 .u)).bind fun n5 =>
 (AV.asAgg 3 (xs.getD 1 .u)).bind fun c6 =>
 (AV.asI .i64 (c6.getD 0 .u)).bind fun n7 =>
 (AV.asI .i64 (c6.getD 1 .u)).bind fun n8 =>
 (AV.asI .i64 (c6.getD 2 .u)).bind fun n9 =>
 (AV.asI .i64 (xs.getD 2 .u)).bind fun n10 =>
 let σ11 := σ.bump 3
 let σ12 := σ11.put σ.next (.cells true 136 [(.p p1), (.i .i64 n2), (.i .i64 n3), (.i .i64 n4), (.i .i64 n5)])
 let σ13 := σ12.put (σ.next + 1) (.cells true 130 [(.i .i64 n7), (.i .i64 n8), (.i .i64 n9)])
 let σ14 := σ13.put ((σ.next + 1) + 1) (.cells true 130 [(.i .i64 0), (.i .i64 0), (.i .i64 0)])
 (σ14.ld (.n σ.next) 0).bind fun w15 =>
 (AV.asP w15).bind fun p16 =>
 (σ14.ld (.n σ.next) 1).bind fun w17 =>
 (AV.asI .i64 w17).bind fun n18 =>
 (σ14.ld (.n σ.next) 2).bind fun w19 =>
 (AV.asI .i64 w19).bind fun n20 =>
 (σ14.ld (.n σ.next) 3).bind fun w21 =>
 (AV.asI .i64 w21).bind fun n22 =>
 (σ14.ld (.n σ.next) 4).bind fun w23 =>
 (AV.asI .i64 w23).bind fun n24 =>
 (k127 [(.agg [(.p p16), (.i .i64 n18), (.i .i64 n20), (.i .i64 n22), (.i .i64 n24)]), (.i .i64 n10)] σ14).bind fun r25 =>
 (AV.asI .i64 r25.1).bind fun n26 =>
 (bif ((n26 : Int) != 0) then
 (r25.2.ld (.n (σ.next + 1)) 0).bind fun w27 =>
 (AV.asI .i64 w27).bind fun n28 =>
 (r25.2.ld (.n (σ.next + 1)) 1).bind fun w29 =>
 (AV.asI .i64 w29).bind fun n30 =>
 (r25.2.ld (.n (σ.next + 1)) 2).bind fun w31 =>
 (AV.asI .i64 w31).bind fun n32 =>
 (r25.2.st (.n ((σ.next + 1) + 1)) 0 [(.i .i64 n28), (.i .i64 n30), (.i .i64 n32)]).bind fun σ33 =>
 (σ33.ld (.n ((σ.next + 1) + 1)) 0).bind fun w34 =>
 (AV.asI .i64 w34).bind fun n35 =>
 (σ33.ld (.n ((σ.next + 1) + 1)) 1).bind fun w36 =>
 (AV.asI .i64 w36).bind fun n37 =>
 (σ33.ld (.n ((σ.next + 1) + 1)) 2).bind fun w38 =>
 (AV.asI .i64 w38).bind fun n39 =>
 some ((.tup [(.agg [(.i .i64 n35), (.i .i64 n37), (.i .i64 n39)]), (.i .i64 n26)]), σ33)
 else (r25.2.ld (.n σ.next) 0).bind fun w40 =>
 (AV.asP w40).bind fun p41 =>
 (r25.2.ld (.n σ.next) 1).bind fun w42 =>
 (AV.asI .i64 w42).bind fun n43 =>
 (r25.2.ld (.n σ.next) 2).bind fun w44 =>
 (AV.asI .i64 w44).bind fun n45 =>
 (r25.2.ld (.n σ.next) 3).bind fun w46 =>
 (AV.asI .i64 w46).bind fun n47 =>
 (r25.2.ld (.n σ.next) 4).bind fun w48 =>
 (AV.asI .i64 w48).bind fun n49 =>
 (r25.2.ld (.n σ.next) 3).bind fun w50 =>
 (AV.asI .i64 w50).bind fun n51 =>
 (r25.2.ld (.n σ.next) 0).bind fun w52 =>
 (AV.asP w52).bind fun p53 =>
 (r25.2.ld (.n σ.next) 1).bind fun w54 =>
 (AV.asI .i64 w54).bind fun n55 =>
 (r25.2.ld (.n σ.next) 2).bind fun w56 =>
 (AV.asI .i64 w56).bind fun n57 =>
 (r25.2.ld (.n σ.next) 3).bind fun w58 =>
 (AV.asI .i64 w58).bind fun n59 =>
 (r25.2.ld (.n σ.next) 4).bind fun w60 =>
 (AV.asI .i64 w60).bind fun n61 =>
 (r25.2.ld (.n σ.next) 4).bind fun w62 =>
 (AV.asI .i64 w62).bind fun n63 =>
 (k141 [(.agg [(.p p41), (.i .i64 n43), (.i .i64 n45), (.i .i64 n47), (.i .i64 n49)]), (.i .i64 n10), (.i .i64 n51)] r25.2).bind fun r64 =>
 (AV.asI .i64 r64.1).bind fun n65 =>
 (chkE (r64.2.ld (.n σ.next) 0) (some (.p p53))).bind fun _ =>
 (chkE (r64.2.ld (.n σ.next) 1) (some (.i .i64 n55))).bind fun _ =>
 (chkE (r64.2.ld (.n σ.next) 2) (some (.i .i64 n57))).bind fun _ =>
 (chkE (r64.2.ld (.n σ.next) 3) (some (.i .i64 n59))).bind fun _ =>
 (chkE (r64.2.ld (.n σ.next) 4) (some (.i .i64 n61))).bind fun _ =>
 (chkE (r64.2.ld (.n σ.next) 4) (some (.i .i64 n63))).bind fun _ =>
 (k141 [(.agg [(.p p53), (.i .i64 n55), (.i .i64 n57), (.i .i64 n59), (.i .i64 n61)]), (.i .i64 n10), (.i .i64 n63)] r64.2).bind fun r66 =>
 (AV.asI .i64 r66.1).bind fun n67 =>
 ((bif ((n67 : Int) != 0) then
 (r66.2.ld (.n σ.next) 0).bind fun w68 =>
 (AV.asP w68).bind fun p69 =>
 (r66.2.ld (.n σ.next) 1).bind fun w70 =>
 (AV.asI .i64 w70).bind fun n71 =>
 (r66.2.ld (.n σ.next) 2).bind fun w72 =>
 (AV.asI .i64 w72).bind fun n73 =>
 (r66.2.ld (.n σ.next) 3).bind fun w74 =>
 (AV.asI .i64 w74).bind fun n75 =>
 (r66.2.ld (.n σ.next) 4).bind fun w76 =>
 (AV.asI .i64 w76).bind fun n77 =>
 (r66.2.ld (.n σ.next) 3).bind fun w78 =>
 (AV.asI .i64 w78).bind fun n79 =>
 (k128 [(.agg [(.p p69), (.i .i64 n71), (.i .i64 n73), (.i .i64 n75), (.i .i64 n77)]), (.i .i64 n67), (.i .i64 n79), (.i .i64 n65)] r66.2).bind fun r80 =>
 (AV.asTup 0 r80.1).bind fun c81 =>
 some ([], r80.2)
 else (r66.2.st (.n (σ.next + 1)) 0 [(.i .i64 n65)]).bind fun σ82 =>
 some ([], σ82)) : Option (List AV × AH O)).bind fun r83 =>
 ((bif ((n65 : Int) != 0) then
 (r83.2.ld (.n σ.next) 0).bind fun w84 =>
 (AV.asP w84).bind fun p85 =>
 (r83.2.ld (.n σ.next) 1).bind fun w86 =>
 (AV.asI .i64 w86).bind fun n87 =>
 (r83.2.ld (.n σ.next) 2).bind fun w88 =>
 (AV.asI .i64 w88).bind fun n89 =>
 (r83.2.ld (.n σ.next) 3).bind fun w90 =>
 (AV.asI .i64 w90).bind fun n91 =>
 (r83.2.ld (.n σ.next) 4).bind fun w92 =>
 (AV.asI .i64 w92).bind fun n93 =>
 (r83.2.ld (.n σ.next) 4).bind fun w94 =>
 (AV.asI .i64 w94).bind fun n95 =>
 (k128 [(.agg [(.p p85), (.i .i64 n87), (.i .i64 n89), (.i .i64 n91), (.i .i64 n93)]), (.i .i64 n65), (.i .i64 n95), (.i .i64 n67)] r83.2).bind fun r96 =>
 (AV.asTup 0 r96.1).bind fun c97 =>
 some ([], r96.2)
 else (r83.2.st (.n (σ.next + 1)) 1 [(.i .i64 n67)]).bind fun σ98 =>
 some ([], σ98)) : Option (List AV × AH O)).bind fun r99 =>
 (r99.2.ld (.n (σ.next + 1)) 2).bind fun w100 =>
 (AV.asI .i64 w100).bind fun n101 =>
 (r99.2.st (.n (σ.next + 1)) 2 [(.i .i64 (IntKind.i64.wrap (n101 - 1)))]).bind fun σ102 =>
 (σ102.ld (.n (σ.next + 1)) 0).bind fun w103 =>
 (AV.asI .i64 w103).bind fun n104 =>
 (σ102.ld (.n (σ.next + 1)) 1).bind fun w105 =>
 (AV.asI .i64 w105).bind fun n106 =>
 (σ102.ld (.n (σ.next + 1)) 2).bind fun w107 =>
 (AV.asI .i64 w107).bind fun n108 =>
 (σ102.st (.n ((σ.next + 1) + 1)) 0 [(.i .i64 n104), (.i .i64 n106), (.i .i64 n108)]).bind fun σ109 =>
 (σ109.ld (.n ((σ.next + 1) + 1)) 0).bind fun w110 =>
 (AV.asI .i64 w110).bind fun n111 =>
 (σ109.ld (.n ((σ.next + 1) + 1)) 1).bind fun w112 =>
 (AV.asI .i64 w112).bind fun n113 =>
 (σ109.ld (.n ((σ.next + 1) + 1)) 2).bind fun w114 =>
 (AV.asI .i64 w114).bind fun n115 =>
 some ((.tup [(.agg [(.i .i64 n111), (.i .i64 n113), (.i .i64 n115)]), (.i .i64 0)]), σ109))
 else none
noncomputable def chain_Table__Drop {O : Type} : Sm O := chain_Table__Drop_c chain_Table__check chain_Table__get chain_Table__set
theorem chain_Table__Drop_ent : Entered Try.prog 87 := Try.call87
theorem chain_Table__Drop_run {O : Type} (k127 k141 k128 : Sm O) : run (O := O) Try.prog [(127, k127), (141, k141), (128, k128)] Try.f87 (.n .z (.n (.n .z (.n .z (.n .z .z))) (.n (.d [] [0, 1, 2, 3, 5, 6, 7, 8, 4, 9, 10, 11] [0, 0, 0, 4, 15, 0, 0, 0, 128, 511, 1023, 2047]) (.n (.n .z (.j false [] .z .z)) (.n (.n .z (.j false [] .z .z)) (.n .z .z)))))) = chain_Table__Drop_c k127 k141 k128 := by kernel_rfl
theorem chain_Table__Drop_sound {O : Type} {RO : O → Loc → (Nat → Option Obj) → Prop} : FSound RO Try.prog 87 (chain_Table__Drop) :=
   have h : FSound RO Try.prog 87 (chain_Table__Drop_c chain_Table__check chain_Table__get chain_Table__set) := (chain_Table__Drop_run chain_Table__check chain_Table__get chain_Table__set) ▸ run_sound (gcons chain_Table__check_ent (chain_Table__check_sound) <| gcons chain_Table__get_ent (chain_Table__get_sound) <| gcons chain_Table__set_ent (chain_Table__set_sound) <| gnil) mixed Try.func87 (by kernel_rfl) _
   h

/-- (*haymow/large.Large).Mark -/
noncomputable def large_Large__Mark_c {O : Type} (k86 k84 k87 k63 k61 : Sm O) : Sm O := fun xs σ =>
 bif Nat.beq xs.length 2 then
 (AV.asP (xs.getD 0 .u)).bind fun p0 =>
 (AV.asI .i64 (xs.getD 1 .u)).bind fun n1 =>
 (k86 [(.p p0), (.i .i64 n1)] σ).bind fun r2 =>
 (AV.asTup 2 r2.1).bind fun c3 =>
 (AV.asB (c3.getD 0 .u)).bind fun b4 =>
 (AV.asI .i64 (c3.getD 1 .u)).bind fun n5 =>
 ((bif (b4 == false) then
 some ([(.b ((n5 : Int) != 0))], r2.2)
 else some ([(.b true)], r2.2)) : Option (List AV × AH O)).bind fun r6 =>
 (AV.asB (r6.1.getD 0 .u)).bind fun b7 =>
 (bif b7 then
 some ((.tup [(.b false), (.i .i64 n5)]), r6.2)
 else Option.bind p0 fun q8 =>
 (r6.2.ld q8.1 (q8.2 + 5)).bind fun w9 =>
 (AV.asI .i64 w9).bind fun n10 =>
 (r6.2.ld q8.1 ((q8.2 + 5) + 1)).bind fun w11 =>
 (AV.asI .i64 w11).bind fun n12 =>
 (r6.2.ld q8.1 (((q8.2 + 5) + 1) + 1)).bind fun w13 =>
 (AV.asI .i64 w13).bind fun n14 =>
 (k84 [(.p p0)] r6.2).bind fun r15 =>
 (AV.asAgg 5 r15.1).bind fun c16 =>
 (AV.asP (c16.getD 0 .u)).bind fun p17 =>
 (AV.asI .i64 (c16.getD 1 .u)).bind fun n18 =>
 (AV.asI .i64 (c16.getD 2 .u)).bind fun n19 =>
 (AV.asI .i64 (c16.getD 3 .u)).bind fun n20 =>
 (AV.asI .i64 (c16.getD 4 .u)).bind fun n21 =>
 (chkE (r15.2.ld q8.1 (q8.2 + 5)) (some (.i .i64 n10))).bind fun _ =>
 (chkE (r15.2.ld q8.1 ((q8.2 + 5) + 1)) (some (.i .i64 n12))).bind fun _ =>
 (chkE (r15.2.ld q8.1 (((q8.2 + 5) + 1) + 1)) (some (.i .i64 n14))).bind fun _ =>
 (k87 [(.agg [(.p p17), (.i .i64 n18), (.i .i64 n19), (.i .i64 n20), (.i .i64 n21)]), (.agg [(.i .i64 n10), (.i .i64 n12), (.i .i64 n14)]), (.i .i64 n1)] r15.2).bind fun r22 =>
 (AV.asTup 2 r22.1).bind fun c23 =>
 (AV.asAgg 3 (c23.getD 0 .u)).bind fun c24 =>
 (AV.asI .i64 (c24.getD 0 .u)).bind fun n25 =>
 (AV.asI .i64 (c24.getD 1 .u)).bind fun n26 =>
 (AV.asI .i64 (c24.getD 2 .u)).bind fun n27 =>
 (AV.asI .i64 (c23.getD 1 .u)).bind fun n28 =>
 Option.bind p0 fun q29 =>
 (r22.2.st q29.1 (q29.2 + 5) [(.i .i64 n25), (.i .i64 n26), (.i .i64 n27)]).bind fun σ30 =>
 Option.bind p0 fun q31 =>
 (σ30.ld q31.1 (q31.2 + 2)).bind fun w32 =>
 (AV.asI .i64 w32).bind fun n33 =>
 (σ30.ld q31.1 ((q31.2 + 2) + 1)).bind fun w34 =>
 (AV.asI .i64 w34).bind fun n35 =>
 (σ30.ld q31.1 (((q31.2 + 2) + 1) + 1)).bind fun w36 =>
 (AV.asI .i64 w36).bind fun n37 =>
 (k84 [(.p p0)] σ30).bind fun r38 =>
 (AV.asAgg 5 r38.1).bind fun c39 =>
 (AV.asP (c39.getD 0 .u)).bind fun p40 =>
 (AV.asI .i64 (c39.getD 1 .u)).bind fun n41 =>
 (AV.asI .i64 (c39.getD 2 .u)).bind fun n42 =>
 (AV.asI .i64 (c39.getD 3 .u)).bind fun n43 =>
 (AV.asI .i64 (c39.getD 4 .u)).bind fun n44 =>
 (chkE (r38.2.ld q31.1 (q31.2 + 2)) (some (.i .i64 n33))).bind fun _ =>
 (chkE (r38.2.ld q31.1 ((q31.2 + 2) + 1)) (some (.i .i64 n35))).bind fun _ =>
 (chkE (r38.2.ld q31.1 (((q31.2 + 2) + 1) + 1)) (some (.i .i64 n37))).bind fun _ =>
 (k63 [(.agg [(.p p40), (.i .i64 n41), (.i .i64 n42), (.i .i64 n43), (.i .i64 n44)]), (.agg [(.i .i64 n33), (.i .i64 n35), (.i .i64 n37)]), (.i .i64 n1)] r38.2).bind fun r45 =>
 (AV.asTup 2 r45.1).bind fun c46 =>
 (AV.asAgg 3 (c46.getD 0 .u)).bind fun c47 =>
 (AV.asI .i64 (c47.getD 0 .u)).bind fun n48 =>
 (AV.asI .i64 (c47.getD 1 .u)).bind fun n49 =>
 (AV.asI .i64 (c47.getD 2 .u)).bind fun n50 =>
 (AV.asI .i64 (c46.getD 1 .u)).bind fun n51 =>
 Option.bind p0 fun q52 =>
 (r45.2.st q52.1 (q52.2 + 2) [(.i .i64 n48), (.i .i64 n49), (.i .i64 n50)]).bind fun σ53 =>
 Option.bind p0 fun q54 =>
 (σ53.ld q54.1 (q54.2 + 1)).bind fun w55 =>
 (AV.asP w55).bind fun p56 =>
 Option.bind p0 fun q57 =>
 (σ53.ld q57.1 (q57.2 + 8)).bind fun w58 =>
 (AV.asI .u64 w58).bind fun n59 =>
 (k61 [(.p p56), (.i .i64 n1), (.i .i64 4), (.i .u64 n59)] σ53).bind fun r60 =>
 (AV.asI .i64 r60.1).bind fun n61 =>
 some ((.tup [(.b true), (.i .i64 n61)]), r60.2))
 else none
noncomputable def large_Large__Mark {O : Type} : Sm O := large_Large__Mark_c large_Large__Marked large_Large__table chain_Table__Drop chain_Table__Push pool_Pool__Set
theorem large_Large__Mark_ent : Entered Try.prog 29 := Try.call29
theorem large_Large__Mark_run {O : Type} (k86 k84 k87 k63 k61 : Sm O) : run (O := O) Try.prog [(86, k86), (84, k84), (87, k87), (63, k63), (61, k61)] Try.f29 (.n .z (.n .z (.n (.n (.g [(1, 2, [(18, .one .b)])]) (.n .z .z)) (.n (.d [] [0, 1, 3, 4, 5, 6, 7, 2, 8, 9, 10, 11, 12, 13, 14] [0, 0, 2, 0, 8, 24, 56, 0, 254, 510, 1022, 1022, 2047, 6143, 14335]) (.n (.d [] [0, 1, 3, 4, 5, 6, 7, 2, 8, 9, 10, 11, 12, 13, 14] [0, 0, 2, 0, 8, 24, 56, 0, 254, 510, 1022, 1022, 2047, 6143, 14335]) (.n (.d [] [0, 1, 2, 3, 4, 5, 6, 7, 8, 9, 10, 11] [0, 1, 3, 7, 0, 0, 32, 96, 224, 511, 1023, 2047]) .z)))))) = large_Large__Mark_c k86 k84 k87 k63 k61 := by kernel_rfl
theorem large_Large__Mark_sound {O : Type} {RO : O → Loc → (Nat → Option Obj) → Prop} : FSound RO Try.prog 29 (large_Large__Mark) :=
   have h : FSound RO Try.prog 29 (large_Large__Mark_c large_Large__Marked large_Large__table chain_Table__Drop chain_Table__Push pool_Pool__Set) := (large_Large__Mark_run large_Large__Marked large_Large__table chain_Table__Drop chain_Table__Push pool_Pool__Set) ▸ run_sound (gcons large_Large__Marked_ent (large_Large__Marked_sound) <| gcons large_Large__table_ent (large_Large__table_sound) <| gcons chain_Table__Drop_ent (chain_Table__Drop_sound) <| gcons chain_Table__Push_ent (chain_Table__Push_sound) <| gcons pool_Pool__Set_ent (pool_Pool__Set_sound) <| gnil) mixed Try.func29 (by kernel_rfl) _
   h

/-- (haymow/chain.Table).After -/
noncomputable def chain_Table__After_c {O : Type} (k127 k141 : Sm O) : Sm O := fun xs σ =>
 bif Nat.beq xs.length 2 then
 (AV.asAgg 5 (xs.getD 0 .u)).bind fun c0 =>
 (AV.asP (c0.getD 0 .u)).bind fun p1 =>
 (AV.asI .i64 (c0.getD 1 .u)).bind fun n2 =>
 (AV.asI .i64 (c0.getD 2 .u)).bind fun n3 =>
 (AV.asI .i64 (c0.getD 3 .u)).bind fun n4 =>
 (AV.asI .i64 (c0.getD 4 .u)).bind fun n5 =>
 (AV.asI .i64 (xs.getD 1 .u)).bind fun n6 =>
 let σ7 := σ.bump 1
 let σ8 := σ7.put σ.next (.cells true 136 [(.p p1), (.i .i64 n2), (.i .i64 n3), (.i .i64 n4), (.i .i64 n5)])
 (σ8.ld (.n σ.next) 0).bind fun w9 =>
 (AV.asP w9).bind fun p10 =>
 (σ8.ld (.n σ.next) 1).bind fun w11 =>
 (AV.asI .i64 w11).bind fun n12 =>
 (σ8.ld (.n σ.next) 2).bind fun w13 =>
 (AV.asI .i64 w13).bind fun n14 =>
 (σ8.ld (.n σ.next) 3).bind fun w15 =>
 (AV.asI .i64 w15).bind fun n16 =>
 (σ8.ld (.n σ.next) 4).bind fun w17 =>
 (AV.asI .i64 w17).bind fun n18 =>
 (k127 [(.agg [(.p p10), (.i .i64 n12), (.i .i64 n14), (.i .i64 n16), (.i .i64 n18)]), (.i .i64 n6)] σ8).bind fun r19 =>
 (AV.asI .i64 r19.1).bind fun n20 =>
 (bif ((n20 : Int) != 0) then
 some ((.tup [(.i .i64 0), (.i .i64 n20)]), r19.2)
 else (r19.2.ld (.n σ.next) 0).bind fun w21 =>
 (AV.asP w21).bind fun p22 =>
 (r19.2.ld (.n σ.next) 1).bind fun w23 =>
 (AV.asI .i64 w23).bind fun n24 =>
 (r19.2.ld (.n σ.next) 2).bind fun w25 =>
 (AV.asI .i64 w25).bind fun n26 =>
 (r19.2.ld (.n σ.next) 3).bind fun w27 =>
 (AV.asI .i64 w27).bind fun n28 =>
 (r19.2.ld (.n σ.next) 4).bind fun w29 =>
 (AV.asI .i64 w29).bind fun n30 =>
 (r19.2.ld (.n σ.next) 3).bind fun w31 =>
 (AV.asI .i64 w31).bind fun n32 =>
 (k141 [(.agg [(.p p22), (.i .i64 n24), (.i .i64 n26), (.i .i64 n28), (.i .i64 n30)]), (.i .i64 n6), (.i .i64 n32)] r19.2).bind fun r33 =>
 (AV.asI .i64 r33.1).bind fun n34 =>
 some ((.tup [(.i .i64 n34), (.i .i64 0)]), r33.2))
 else none
noncomputable def chain_Table__After {O : Type} : Sm O := chain_Table__After_c chain_Table__check chain_Table__get
theorem chain_Table__After_ent : Entered Try.prog 88 := Try.call88
theorem chain_Table__After_run {O : Type} (k127 k141 : Sm O) : run (O := O) Try.prog [(127, k127), (141, k141)] Try.f88 (.n .z (.n (.n .z (.n .z (.n .z .z))) .z)) = chain_Table__After_c k127 k141 := by kernel_rfl
theorem chain_Table__After_sound {O : Type} {RO : O → Loc → (Nat → Option Obj) → Prop} : FSound RO Try.prog 88 (chain_Table__After) :=
   have h : FSound RO Try.prog 88 (chain_Table__After_c chain_Table__check chain_Table__get) := (chain_Table__After_run chain_Table__check chain_Table__get) ▸ run_sound (gcons chain_Table__check_ent (chain_Table__check_sound) <| gcons chain_Table__get_ent (chain_Table__get_sound) <| gnil) mixed Try.func88 (by kernel_rfl) _
   h

/-- (*haymow/pool.Pool).Give -/
noncomputable def pool_Pool__Give_c {O : Type} (k129 k123 k89 : Sm O) : Sm O := fun xs σ =>
 bif Nat.beq xs.length 2 then
 (AV.asP (xs.getD 0 .u)).bind fun p0 =>
 (AV.asI .i64 (xs.getD 1 .u)).bind fun n1 =>
 (k129 [(.p p0), (.i .i64 n1)] σ).bind fun r2 =>
 (AV.asTup 2 r2.1).bind fun c3 =>
 (AV.asI .u64 (c3.getD 0 .u)).bind fun n4 =>
 (AV.asB (c3.getD 1 .u)).bind fun b5 =>
 ((bif ((!b5) == false) then
 some ([(.b (((ibits .and .u64 n4 1) : Int) == 0))], r2.2)
 else some ([(.b true)], r2.2)) : Option (List AV × AH O)).bind fun r6 =>
 (AV.asB (r6.1.getD 0 .u)).bind fun b7 =>
 (bif b7 then
 some ((.i .i64 4), r6.2)
 else Option.bind p0 fun q8 =>
 (r6.2.ld q8.1 q8.2).bind fun w9 =>
 (AV.asP w9).bind fun p10 =>
 Option.bind p0 fun q11 =>
 (r6.2.ld q11.1 (q11.2 + 1)).bind fun w12 =>
 (AV.asI .i64 w12).bind fun n13 =>
 let v14 : Int := (IntKind.u64.wrap ((IntKind.u64.wrap ((Int.fdiv n4 (2 ^ 1)) + 1)) * 2 ^ 1))
 (k123 [(.p p0), (.i .i64 n1), (.i .i64 (-1))] r6.2).bind fun r15 =>
 (AV.asI .i64 r15.1).bind fun n16 =>
 (chkE (r15.2.ld q8.1 q8.2) (some (.p p10))).bind fun _ =>
 (chkE (r15.2.ld q11.1 (q11.2 + 1)) (some (.i .i64 n13))).bind fun _ =>
 (k89 [(.p p10), (.i .i64 n13), (.i .i64 n16), (.i .u64 v14)] r15.2).bind fun r17 =>
 (AV.asI .i64 r17.1).bind fun n18 =>
 Option.bind p0 fun q19 =>
 (r17.2.ld q19.1 q19.2).bind fun w20 =>
 (AV.asP w20).bind fun p21 =>
 Option.bind p0 fun q22 =>
 (r17.2.ld q22.1 (q22.2 + 1)).bind fun w23 =>
 (AV.asI .i64 w23).bind fun n24 =>
 Option.bind p0 fun q25 =>
 (r17.2.ld q25.1 (q25.2 + 5)).bind fun w26 =>
 (AV.asI .i64 w26).bind fun n27 =>
 (k123 [(.p p0), (.i .i64 n1), (.i .i64 0)] r17.2).bind fun r28 =>
 (AV.asI .i64 r28.1).bind fun n29 =>
 (chkE (r28.2.ld q19.1 q19.2) (some (.p p21))).bind fun _ =>
 (chkE (r28.2.ld q22.1 (q22.2 + 1)) (some (.i .i64 n24))).bind fun _ =>
 (chkE (r28.2.ld q25.1 (q25.2 + 5)) (some (.i .i64 n27))).bind fun _ =>
 (k89 [(.p p21), (.i .i64 n24), (.i .i64 n29), (.i .u64 (IntKind.u64.wrap n27))] r28.2).bind fun r30 =>
 (AV.asI .i64 r30.1).bind fun n31 =>
 Option.bind p0 fun q32 =>
 (r30.2.st q32.1 (q32.2 + 5) [(.i .i64 n1)]).bind fun σ33 =>
 Option.bind p0 fun q34 =>
 (σ33.ld q34.1 (q34.2 + 6)).bind fun w35 =>
 (AV.asI .i64 w35).bind fun n36 =>
 Option.bind p0 fun q37 =>
 (σ33.st q37.1 (q37.2 + 6) [(.i .i64 (IntKind.i64.wrap (n36 - 1)))]).bind fun σ38 =>
 some ((.i .i64 0), σ38))
 else none
noncomputable def pool_Pool__Give {O : Type} : Sm O := pool_Pool__Give_c pool_Pool__look pool_Pool__at mem_Mem__Write
theorem pool_Pool__Give_ent : Entered Try.prog 90 := Try.call90
theorem pool_Pool__Give_run {O : Type} (k129 k123 k89 : Sm O) : run (O := O) Try.prog [(129, k129), (123, k123), (89, k89)] Try.f90 (.n .z (.n .z (.n (.n (.g [(2, 3, [(19, .one .b)])]) (.n .z .z)) (.n (.d [] [0, 1, 2, 3, 4, 5, 6, 7, 8, 9, 11, 12, 13, 14, 10, 15] [0, 1, 3, 7, 0, 16, 48, 112, 0, 0, 768, 0, 2048, 6144, 14336, 32767]) (.n (.d [] [0, 1, 2, 3, 4, 5, 6, 7, 8, 9, 11, 12, 13, 14, 15, 10, 16] [0, 1, 3, 7, 0, 16, 48, 112, 0, 0, 768, 0, 2048, 6144, 14336, 30720, 65535]) (.n .z (.n .z .z))))))) = pool_Pool__Give_c k129 k123 k89 := by kernel_rfl
theorem pool_Pool__Give_sound {O : Type} {RO : O → Loc → (Nat → Option Obj) → Prop} : FSound RO Try.prog 90 (pool_Pool__Give) :=
   have h : FSound RO Try.prog 90 (pool_Pool__Give_c pool_Pool__look pool_Pool__at mem_Mem__Write) := (pool_Pool__Give_run pool_Pool__look pool_Pool__at mem_Mem__Write) ▸ run_sound (gcons pool_Pool__look_ent (pool_Pool__look_sound) <| gcons pool_Pool__at_ent (pool_Pool__at_sound) <| gcons mem_Mem__Write_ent (mem_Mem__Write_sound) <| gnil) mixed Try.func90 (by kernel_rfl) _
   h

/-- (*haymow/large.Large).Sweep -/
noncomputable def large_Large__Sweep_L1 {O : Type} (n6 : Int) (k84 : Sm O) (p0 : Option (Bid × Nat)) (k88 : Sm O) (k79 : Sm O) (k83 : Sm O) (k90 : Sm O) : List AV × AH O → Option ((List AV × AH O) ⊕ (List AV × AH O)) := (fun r7 =>
 (AV.asI .i64 (r7.1.getD 0 .u)).bind fun n8 =>
 (AV.asI .i64 (r7.1.getD 1 .u)).bind fun n9 =>
 (AV.asI .i64 (r7.1.getD 2 .u)).bind fun n10 =>
 (AV.asI .i64 (r7.1.getD 3 .u)).bind fun n11 =>
 (bif (decide (n11 < n6)) then
 (k84 [(.p p0)] r7.2).bind fun r12 =>
 (AV.asAgg 5 r12.1).bind fun c13 =>
 (AV.asP (c13.getD 0 .u)).bind fun p14 =>
 (AV.asI .i64 (c13.getD 1 .u)).bind fun n15 =>
 (AV.asI .i64 (c13.getD 2 .u)).bind fun n16 =>
 (AV.asI .i64 (c13.getD 3 .u)).bind fun n17 =>
 (AV.asI .i64 (c13.getD 4 .u)).bind fun n18 =>
 (k88 [(.agg [(.p p14), (.i .i64 n15), (.i .i64 n16), (.i .i64 n17), (.i .i64 n18)]), (.i .i64 n10)] r12.2).bind fun r19 =>
 (AV.asTup 2 r19.1).bind fun c20 =>
 (AV.asI .i64 (c20.getD 0 .u)).bind fun n21 =>
 (AV.asI .i64 (c20.getD 1 .u)).bind fun n22 =>
 Option.bind p0 fun q23 =>
 (r19.2.ld q23.1 (q23.2 + 1)).bind fun w24 =>
 (AV.asP w24).bind fun p25 =>
 (k79 [(.p p25), (.i .i64 n10), (.i .i64 0)] r19.2).bind fun r26 =>
 (AV.asTup 2 r26.1).bind fun c27 =>
 (AV.asI .u64 (c27.getD 0 .u)).bind fun n28 =>
 (AV.asI .i64 (c27.getD 1 .u)).bind fun n29 =>
 Option.bind p0 fun q30 =>
 (r26.2.ld q30.1 (q30.2 + 1)).bind fun w31 =>
 (AV.asP w31).bind fun p32 =>
 (k79 [(.p p32), (.i .i64 n10), (.i .i64 1)] r26.2).bind fun r33 =>
 (AV.asTup 2 r33.1).bind fun c34 =>
 (AV.asI .u64 (c34.getD 0 .u)).bind fun n35 =>
 (AV.asI .i64 (c34.getD 1 .u)).bind fun n36 =>
 Option.bind p0 fun q37 =>
 (r33.2.ld q37.1 q37.2).bind fun w38 =>
 (AV.asP w38).bind fun p39 =>
 (k83 [(.p p39), (.i .i64 (IntKind.i64.wrap n28))] r33.2).bind fun r40 =>
 (AV.asI .i64 r40.1).bind fun n41 =>
 Option.bind p0 fun q42 =>
 (r40.2.ld q42.1 (q42.2 + 1)).bind fun w43 =>
 (AV.asP w43).bind fun p44 =>
 (k90 [(.p p44), (.i .i64 n10)] r40.2).bind fun r45 =>
 (AV.asI .i64 r45.1).bind fun n46 =>
 some (Sum.inl ([(.i .i64 (IntKind.i64.wrap (n8 + 1))), (.i .i64 (IntKind.i64.wrap (n9 + (IntKind.i64.wrap n35)))), (.i .i64 n21), (.i .i64 (IntKind.i64.wrap (n11 + 1)))], r45.2))
 else some (Sum.inr ([(.i .i64 n8), (.i .i64 n9)], r7.2))))
noncomputable def large_Large__Sweep_c {O : Type} (k84 k88 k79 k83 k90 : Sm O) : Sm O := fun xs σ =>
 bif Nat.beq xs.length 1 then
 (AV.asP (xs.getD 0 .u)).bind fun p0 =>
 Option.bind p0 fun q1 =>
 (σ.ld q1.1 (q1.2 + 5)).bind fun w2 =>
 (AV.asI .i64 w2).bind fun n3 =>
 Option.bind p0 fun q4 =>
 (σ.ld q4.1 ((q4.2 + 5) + 2)).bind fun w5 =>
 (AV.asI .i64 w5).bind fun n6 =>
 (loopF (S := List AV × AH O) (T := List AV × AH O) (large_Large__Sweep_L1 n6 k84 p0 k88 k79 k83 k90) ([(.i .i64 0), (.i .i64 0), (.i .i64 n3), (.i .i64 0)], σ)).bind fun r47 =>
 (AV.asI .i64 (r47.1.getD 0 .u)).bind fun n48 =>
 (AV.asI .i64 (r47.1.getD 1 .u)).bind fun n49 =>
 Option.bind p0 fun q50 =>
 (r47.2.st q50.1 (q50.2 + 5) [(.i .i64 0), (.i .i64 0), (.i .i64 0)]).bind fun σ51 =>
 Option.bind p0 fun q52 =>
 (σ51.ld q52.1 (q52.2 + 10)).bind fun w53 =>
 (AV.asI .i64 w53).bind fun n54 =>
 Option.bind p0 fun q55 =>
 (σ51.st q55.1 (q55.2 + 10) [(.i .i64 (IntKind.i64.wrap (n54 - n49)))]).bind fun σ56 =>
 some ((.tup [(.i .i64 n48), (.i .i64 n49)]), σ56)
 else none
noncomputable def large_Large__Sweep {O : Type} : Sm O := large_Large__Sweep_c large_Large__table chain_Table__After pool_Pool__Get mem_Mem__Close pool_Pool__Give
theorem large_Large__Sweep_ent : Entered Try.prog 34 := Try.call34
theorem large_Large__Sweep_run {O : Type} (k84 k88 k79 k83 k90 : Sm O) : run (O := O) Try.prog [(84, k84), (88, k88), (79, k79), (83, k83), (90, k90)] Try.f34 (.n .z (.n .z (.n (.n .z (.n (.lp false 0 [(2, .one (.i .i64)), (3, .one (.i .i64)), (4, .one (.i .i64)), (21, .one (.i .i64))] [(2, .one (.i .i64)), (3, .one (.i .i64))] (.n .z (.n .z (.n (.n (.n .z (.n .z (.n .z (.n .z (.n .z .z))))) .z) .z)))) .z)) (.n .z (.n .z .z))))) = large_Large__Sweep_c k84 k88 k79 k83 k90 := by kernel_rfl
theorem large_Large__Sweep_sound {O : Type} {RO : O → Loc → (Nat → Option Obj) → Prop} : FSound RO Try.prog 34 (large_Large__Sweep) :=
   have h : FSound RO Try.prog 34 (large_Large__Sweep_c large_Large__table chain_Table__After pool_Pool__Get mem_Mem__Close pool_Pool__Give) := (large_Large__Sweep_run large_Large__table chain_Table__After pool_Pool__Get mem_Mem__Close pool_Pool__Give) ▸ run_sound (gcons large_Large__table_ent (large_Large__table_sound) <| gcons chain_Table__After_ent (chain_Table__After_sound) <| gcons pool_Pool__Get_ent (pool_Pool__Get_sound) <| gcons mem_Mem__Close_ent (mem_Mem__Close_sound) <| gcons pool_Pool__Give_ent (pool_Pool__Give_sound) <| gnil) mixed Try.func34 (by kernel_rfl) _
   h

/-- (haymow/chain.Table).All$1 -/
noncomputable def chain_Table__All_1_L1 {O : Type} (n6 : Int) (k88 : Sm O) (ky0 : Sm O) (f0 : Option (Fn × List AV × List AV)) (xs : List AV) : List AV × AH O → Option ((List AV × AH O) ⊕ ((List AV × AH O) ⊕ (AV × AH O))) := (fun r7 =>
 (AV.asI .i64 (r7.1.getD 0 .u)).bind fun n8 =>
 (AV.asI .i64 (r7.1.getD 1 .u)).bind fun n9 =>
 (bif (decide (n9 < n6)) then
 (callV [(88, k88), (1000000, ky0)] f0 [(.i .i64 n8)] r7.2).bind fun r10 =>
 (AV.asB r10.1).bind fun b11 =>
 (bif (!b11) then
 ((some ((.tup []), r10.2) : Option (AV × AH O)).map fun r => Sum.inr (Sum.inr r))
 else (AV.asPS (xs.getD 2 .u)).bind fun q12 =>
 (r10.2.ld q12.1 q12.2).bind fun w13 =>
 (AV.asP w13).bind fun p14 =>
 (r10.2.ld q12.1 (q12.2 + 1)).bind fun w15 =>
 (AV.asI .i64 w15).bind fun n16 =>
 (r10.2.ld q12.1 ((q12.2 + 1) + 1)).bind fun w17 =>
 (AV.asI .i64 w17).bind fun n18 =>
 (r10.2.ld q12.1 (((q12.2 + 1) + 1) + 1)).bind fun w19 =>
 (AV.asI .i64 w19).bind fun n20 =>
 (r10.2.ld q12.1 ((((q12.2 + 1) + 1) + 1) + 1)).bind fun w21 =>
 (AV.asI .i64 w21).bind fun n22 =>
 (k88 [(.agg [(.p p14), (.i .i64 n16), (.i .i64 n18), (.i .i64 n20), (.i .i64 n22)]), (.i .i64 n8)] r10.2).bind fun r23 =>
 (AV.asTup 2 r23.1).bind fun c24 =>
 (AV.asI .i64 (c24.getD 0 .u)).bind fun n25 =>
 (AV.asI .i64 (c24.getD 1 .u)).bind fun n26 =>
 (bif ((n26 : Int) != 0) then
 ((some ((.tup []), r23.2) : Option (AV × AH O)).map fun r => Sum.inr (Sum.inr r))
 else some (Sum.inl ([(.i .i64 n25), (.i .i64 (IntKind.i64.wrap (n9 + 1)))], r23.2))))
 else some (Sum.inr (Sum.inl ([], r7.2)))))
noncomputable def chain_Table__All_1_c {O : Type} (k88 ky0 : Sm O) : Sm O := fun xs σ =>
 bif Nat.beq xs.length 3 then
 (AV.asF (xs.getD 0 .u)).bind fun f0 =>
 (AV.asPS (xs.getD 1 .u)).bind fun q1 =>
 (σ.ld q1.1 q1.2).bind fun w2 =>
 (AV.asI .i64 w2).bind fun n3 =>
 (AV.asPS (xs.getD 1 .u)).bind fun q4 =>
 (σ.ld q4.1 (q4.2 + 2)).bind fun w5 =>
 (AV.asI .i64 w5).bind fun n6 =>
 bindS (S := List AV × AH O) (R := (AV × AH O)) (loopF (S := List AV × AH O) (T := (List AV × AH O) ⊕ (AV × AH O)) (chain_Table__All_1_L1 n6 k88 ky0 f0 xs) ([(.i .i64 n3), (.i .i64 0)], σ)) fun r27 =>
 some ((.tup []), r27.2)
 else none
noncomputable def chain_Table__All_1 {O : Type} (ky0 : Sm O) : Sm O := chain_Table__All_1_c chain_Table__After ky0
theorem chain_Table__All_1_ent : Entered Try.prog 158 := Try.call158
theorem chain_Table__All_1_run {O : Type} (k88 ky0 : Sm O) : run (O := O) Try.prog [(88, k88), (1000000, ky0)] Try.f158 (.n .z (.n .z (.n (.lp true 0 [(4, .one (.i .i64)), (11, .one (.i .i64))] [] (.n .z (.n .z (.n (.n (.n (.n .z .z) (.n .z (.n (.n .z .z) .z))) .z) .z)))) .z))) = chain_Table__All_1_c k88 ky0 := by kernel_rfl
theorem chain_Table__All_1_sound {O : Type} {RO : O → Loc → (Nat → Option Obj) → Prop} {ky0 : Sm O} (hy : YSound RO Try.prog ky0) : FSound RO Try.prog 158 (chain_Table__All_1 ky0) :=
   have h : FSound RO Try.prog 158 (chain_Table__All_1_c chain_Table__After ky0) := (chain_Table__All_1_run chain_Table__After ky0) ▸ run_sound (gcons chain_Table__After_ent (chain_Table__After_sound) <| gyld hy <| gnil) mixed Try.func158 (by kernel_rfl) _
   h

/-- (haymow/chain.Table).All -/
noncomputable def chain_Table__All_c {O : Type} : Sm O := fun xs σ =>
 bif Nat.beq xs.length 2 then
 (AV.asAgg 5 (xs.getD 0 .u)).bind fun c0 =>
 (AV.asP (c0.getD 0 .u)).bind fun p1 =>
 (AV.asI .i64 (c0.getD 1 .u)).bind fun n2 =>
 (AV.asI .i64 (c0.getD 2 .u)).bind fun n3 =>
 (AV.asI .i64 (c0.getD 3 .u)).bind fun n4 =>
 (AV.asI .i64 (c0.getD 4 .u)).bind fun n5 =>
 (AV.asAgg 3 (xs.getD 1 .u)).bind fun c6 =>
 (AV.asI .i64 (c6.getD 0 .u)).bind fun n7 =>
 (AV.asI .i64 (c6.getD 1 .u)).bind fun n8 =>
 (AV.asI .i64 (c6.getD 2 .u)).bind fun n9 =>
 let σ10 := σ.bump 2
 let σ11 := σ10.put σ.next (.cells true 136 [(.p p1), (.i .i64 n2), (.i .i64 n3), (.i .i64 n4), (.i .i64 n5)])
 let σ12 := σ11.put (σ.next + 1) (.cells true 130 [(.i .i64 n7), (.i .i64 n8), (.i .i64 n9)])
 some ((.fn (some (.func 158, [], [(.p (some ((.n (σ.next + 1)), 0))), (.p (some ((.n σ.next), 0)))]))), σ12)
 else none
noncomputable def chain_Table__All {O : Type} : Sm O := chain_Table__All_c
theorem chain_Table__All_ent : Entered Try.prog 132 := Try.call132
theorem chain_Table__All_run {O : Type} : run (O := O) Try.prog [] Try.f132 (.n .z .z) = chain_Table__All_c  := by kernel_rfl
theorem chain_Table__All_sound {O : Type} {RO : O → Loc → (Nat → Option Obj) → Prop} : FSound RO Try.prog 132 (chain_Table__All) :=
   have h : FSound RO Try.prog 132 (chain_Table__All_c) := (chain_Table__All_run) ▸ run_sound (gnil) mixed Try.func132 (by kernel_rfl) _
   h

/-- a round of a loop in (*haymow/large.Large).All$1 -/
noncomputable def large_Large__All_1_R0_c {O : Type} (ky0 : Sm O) : Sm O := roundW 144000 1 fun env0 ys0 blk0 σ =>
 (AV.asP (env0 2)).bind fun p0 =>
 (AV.asI .i64 (ys0.getD 0 .u)).bind fun n1 =>
 (busyL σ blk0).bind fun σ2 =>
 Option.bind p0 fun q3 =>
 (σ2.ld q3.1 q3.2).bind fun w4 =>
 (AV.asF w4).bind fun f5 =>
 (callV [(1000000, ky0)] f5 [(.i .i64 n1)] σ2).bind fun r6 =>
 (AV.asB r6.1).bind fun b7 =>
 (bif (!b7) then
 (markL r6.2 blk0 (.done none)).bind fun σ => some (.b false, σ)
 else (markL r6.2 blk0 .ready).bind fun σ => some (.b true, σ))
noncomputable def large_Large__All_1_R0 {O : Type} (ky0 : Sm O) : Sm O := large_Large__All_1_R0_c ky0
theorem large_Large__All_1_R0_run {O : Type} (ky0 : Sm O) : roundAt (O := O) Try.prog [(1000000, ky0)] 144 Try.f144 0 [(2, .one .p)] [(24, .one (.i .i64))] (.n .z (.n (.n .z .z) .z)) = large_Large__All_1_R0_c ky0 := by kernel_rfl
theorem large_Large__All_1_R0_sound {O : Type} {RO : O → Loc → (Nat → Option Obj) → Prop} {ky0 : Sm O} (hy : YSound RO Try.prog ky0) : YSound RO Try.prog (large_Large__All_1_R0 ky0) :=
   have h : YSound RO Try.prog (large_Large__All_1_R0_c ky0) := (large_Large__All_1_R0_run ky0) ▸ roundAt_sound (gyld hy <| gnil) mixed Try.func144 _ _ _ _
   h
/-- (*haymow/large.Large).All$1 -/
noncomputable def large_Large__All_1_L1 {O : Type} (σ2 : AH O) (xs : List AV) (k84 : Sm O) (k132 : Sm O) (kr158 : Sm O) (ky0 : Sm O) (σ : AH O) : List AV × AH O → Option ((List AV × AH O) ⊕ ((List AV × AH O) ⊕ (AV × AH O))) := (fun r27 =>
 (AV.asI .i64 (r27.1.getD 0 .u)).bind fun n28 =>
 (bif (decide (n28 < 2)) then
 let σ29 := r27.2.bump 1
 (bif ((decide ((0 : Int) ≤ n28)) && (decide (n28 < 2))) then
 (σ29.ld (.n σ2.next) (0 + (n28.toNat * 3))).bind fun w30 =>
 (AV.asI .i64 w30).bind fun n31 =>
 (σ29.ld (.n σ2.next) ((0 + (n28.toNat * 3)) + 1)).bind fun w32 =>
 (AV.asI .i64 w32).bind fun n33 =>
 (σ29.ld (.n σ2.next) (((0 + (n28.toNat * 3)) + 1) + 1)).bind fun w34 =>
 (AV.asI .i64 w34).bind fun n35 =>
 let σ36 := σ29.put r27.2.next (.cells true 130 [(.i .i64 0), (.i .i64 0), (.i .i64 0)])
 (σ36.st (.n r27.2.next) 0 [(.i .i64 n31), (.i .i64 n33), (.i .i64 n35)]).bind fun σ37 =>
 (AV.asPS (xs.getD 1 .u)).bind fun q38 =>
 (σ37.ld q38.1 q38.2).bind fun w39 =>
 (AV.asP w39).bind fun p40 =>
 (AV.asPS (xs.getD 1 .u)).bind fun q41 =>
 (σ37.ld (.n r27.2.next) 0).bind fun w42 =>
 (AV.asI .i64 w42).bind fun n43 =>
 (σ37.ld (.n r27.2.next) 1).bind fun w44 =>
 (AV.asI .i64 w44).bind fun n45 =>
 (σ37.ld (.n r27.2.next) 2).bind fun w46 =>
 (AV.asI .i64 w46).bind fun n47 =>
 (k84 [(.p p40)] σ37).bind fun r48 =>
 (AV.asAgg 5 r48.1).bind fun c49 =>
 (AV.asP (c49.getD 0 .u)).bind fun p50 =>
 (AV.asI .i64 (c49.getD 1 .u)).bind fun n51 =>
 (AV.asI .i64 (c49.getD 2 .u)).bind fun n52 =>
 (AV.asI .i64 (c49.getD 3 .u)).bind fun n53 =>
 (AV.asI .i64 (c49.getD 4 .u)).bind fun n54 =>
 (chkE (r48.2.ld (.n r27.2.next) 0) (some (.i .i64 n43))).bind fun _ =>
 (chkE (r48.2.ld (.n r27.2.next) 1) (some (.i .i64 n45))).bind fun _ =>
 (chkE (r48.2.ld (.n r27.2.next) 2) (some (.i .i64 n47))).bind fun _ =>
 (k132 [(.agg [(.p p50), (.i .i64 n51), (.i .i64 n52), (.i .i64 n53), (.i .i64 n54)]), (.agg [(.i .i64 n43), (.i .i64 n45), (.i .i64 n47)])] r48.2).bind fun r55 =>
 (AV.asF r55.1).bind fun f56 =>
 (rangeV [(84, k84), (132, k132), (2000158, kr158), (1000000, ky0)] f56 144000 [(2, (.p (some ((.n σ.next), 0))))] r55.2).bind fun r57 =>
 (lstN r57.2 r55.2.next).bind fun st58 =>
 let σ59 := r57.2.kill r55.2.next
 (bif Nat.beq st58 0 then
 some (Sum.inl ([(.i .i64 (IntKind.i64.wrap (n28 + 1)))], σ59))
 else (bif Nat.beq st58 3 then
 ((some ((.tup []), σ59) : Option (AV × AH O)).map fun r => Sum.inr (Sum.inr r))
 else none))
 else none)
 else some (Sum.inr (Sum.inl ([], r27.2)))))
noncomputable def large_Large__All_1_c {O : Type} (k84 k132 kr158 ky0 : Sm O) : Sm O := fun xs σ =>
 bif Nat.beq xs.length 2 then
 (AV.asF (xs.getD 0 .u)).bind fun f0 =>
 let σ1 := σ.bump 1
 let σ2 := σ1.put σ.next (.cells true 217 [(.fn f0)])
 let σ3 := σ2.bump 1
 (AV.asPS (xs.getD 1 .u)).bind fun q4 =>
 (σ3.ld q4.1 q4.2).bind fun w5 =>
 (AV.asP w5).bind fun p6 =>
 (AV.asPS (xs.getD 1 .u)).bind fun q7 =>
 Option.bind p6 fun q8 =>
 (σ3.ld q8.1 (q8.2 + 2)).bind fun w9 =>
 (AV.asI .i64 w9).bind fun n10 =>
 (σ3.ld q8.1 ((q8.2 + 2) + 1)).bind fun w11 =>
 (AV.asI .i64 w11).bind fun n12 =>
 (σ3.ld q8.1 (((q8.2 + 2) + 1) + 1)).bind fun w13 =>
 (AV.asI .i64 w13).bind fun n14 =>
 (AV.asPS (xs.getD 1 .u)).bind fun q15 =>
 (σ3.ld q15.1 q15.2).bind fun w16 =>
 (AV.asP w16).bind fun p17 =>
 (AV.asPS (xs.getD 1 .u)).bind fun q18 =>
 Option.bind p17 fun q19 =>
 (σ3.ld q19.1 (q19.2 + 5)).bind fun w20 =>
 (AV.asI .i64 w20).bind fun n21 =>
 (σ3.ld q19.1 ((q19.2 + 5) + 1)).bind fun w22 =>
 (AV.asI .i64 w22).bind fun n23 =>
 (σ3.ld q19.1 (((q19.2 + 5) + 1) + 1)).bind fun w24 =>
 (AV.asI .i64 w24).bind fun n25 =>
 let σ26 := σ3.put σ2.next (.cells true 130 [(.i .i64 n10), (.i .i64 n12), (.i .i64 n14), (.i .i64 n21), (.i .i64 n23), (.i .i64 n25)])
 bindS (S := List AV × AH O) (R := (AV × AH O)) (loopF (S := List AV × AH O) (T := (List AV × AH O) ⊕ (AV × AH O)) (large_Large__All_1_L1 σ2 xs k84 k132 kr158 ky0 σ) ([(.i .i64 0)], σ26)) fun r60 =>
 some ((.tup []), r60.2)
 else none
noncomputable def large_Large__All_1 {O : Type} (ky0 : Sm O) : Sm O := large_Large__All_1_c large_Large__table chain_Table__All (chain_Table__All_1 (large_Large__All_1_R0 ky0)) ky0
theorem large_Large__All_1_ent : Entered Try.prog 144 := Try.call144
theorem large_Large__All_1_run {O : Type} (k84 k132 kr158 ky0 : Sm O) : run (O := O) Try.prog [(84, k84), (132, k132), (2000158, kr158), (1000000, ky0)] Try.f144 (.n .z (.n (.d [] [0, 1, 2, 3, 4, 5, 6, 7, 10, 8, 9] [0, 1, 3, 7, 0, 16, 48, 112, 255, 511, 0]) (.n (.lp true 0 [(16, .one (.i .i64))] [] (.n .z (.n .z (.n (.n (.n .z (.n (.d [] [0, 2, 1, 3] [0, 1, 0, 7]) (.n (.rf 144000 [2] [3]) .z))) .z) .z)))) .z))) = large_Large__All_1_c k84 k132 kr158 ky0 := by kernel_rfl
theorem large_Large__All_1_sound {O : Type} {RO : O → Loc → (Nat → Option Obj) → Prop} {ky0 : Sm O} (hy : YSound RO Try.prog ky0) : FSound RO Try.prog 144 (large_Large__All_1 ky0) :=
   have h : FSound RO Try.prog 144 (large_Large__All_1_c large_Large__table chain_Table__All (chain_Table__All_1 (large_Large__All_1_R0 ky0)) ky0) := (large_Large__All_1_run large_Large__table chain_Table__All (chain_Table__All_1 (large_Large__All_1_R0 ky0)) ky0) ▸ run_soundR (gcons large_Large__table_ent (large_Large__table_sound) <| gcons chain_Table__All_ent (chain_Table__All_sound) <| grf (c := 158) chain_Table__All_1_ent (chain_Table__All_1_sound (large_Large__All_1_R0_sound hy)) <| gyld hy <| gnil) mixed Try.func144 (by kernel_rfl) _ (by kernel_rfl)
   h

/-- (*haymow/large.Large).All -/
noncomputable def large_Large__All_c {O : Type} : Sm O := fun xs σ =>
 bif Nat.beq xs.length 1 then
 (AV.asP (xs.getD 0 .u)).bind fun p0 =>
 let σ1 := σ.bump 1
 let σ2 := σ1.put σ.next (.cells true 67 [(.p p0)])
 some ((.fn (some (.func 144, [], [(.p (some ((.n σ.next), 0)))]))), σ2)
 else none
noncomputable def large_Large__All {O : Type} : Sm O := large_Large__All_c
theorem large_Large__All_ent : Entered Try.prog 91 := Try.call91
theorem large_Large__All_run {O : Type} : run (O := O) Try.prog [] Try.f91 (.n .z .z) = large_Large__All_c  := by kernel_rfl
theorem large_Large__All_sound {O : Type} {RO : O → Loc → (Nat → Option Obj) → Prop} : FSound RO Try.prog 91 (large_Large__All) :=
   have h : FSound RO Try.prog 91 (large_Large__All_c) := (large_Large__All_run) ▸ run_sound (gnil) mixed Try.func91 (by kernel_rfl) _
   h

/-- a round of a loop in haymow/haymowlaw15.told -/
noncomputable def law15_told_R0_c {O : Type} : Sm O := roundW 35000 1 fun env0 ys0 blk0 σ =>
 (AV.asP (env0 2)).bind fun p0 =>
 (AV.asP (env0 3)).bind fun p1 =>
 (AV.asP (env0 5)).bind fun p2 =>
 (AV.asI .i64 (ys0.getD 0 .u)).bind fun n3 =>
 (busyL σ blk0).bind fun σ4 =>
 Option.bind p2 fun q5 =>
 (σ4.ld q5.1 q5.2).bind fun w6 =>
 (AV.asSl w6).bind fun l7 =>
 (bif (decide ((l7.2 : Int) > 200)) then
 Option.bind p2 fun q8 =>
 (σ4.ld q8.1 q8.2).bind fun w9 =>
 (AV.asSl w9).bind fun l10 =>
 Option.bind p0 fun q11 =>
 (σ4.st q11.1 q11.2 [(.sl l10.1 l10.2)]).bind fun σ12 =>
 Option.bind p1 fun q13 =>
 (σ12.st q13.1 q13.2 [(.b false)]).bind fun σ14 =>
 (markL σ14 blk0 (.done none)).bind fun σ => some (.b false, σ)
 else let σ15 := σ4.bump 2
 Option.bind p2 fun q16 =>
 (σ15.ld q16.1 q16.2).bind fun w17 =>
 (AV.asSl w17).bind fun l18 =>
 let σ19 := σ15.put σ4.next (.cells true 3 [(.i .i64 n3)])
 (σ19.rdSl (.loc (.n σ4.next) 0 1) 1 1).bind fun new20 =>
 (bif (Nat.ble ((l18.2 + 1) * 9) 35184372088832) then
 (σ19.appSl (σ4.next + 1) 3 1 l18.1 l18.2 1 new20).bind fun r21 =>
 (AV.asSl r21.1).bind fun l22 =>
 Option.bind p2 fun q23 =>
 (r21.2.st q23.1 q23.2 [(.sl l22.1 l22.2)]).bind fun σ24 =>
 (markL σ24 blk0 .ready).bind fun σ => some (.b true, σ)
 else none))
noncomputable def law15_told_R0 {O : Type} : Sm O := law15_told_R0_c
theorem law15_told_R0_run {O : Type} : roundAt (O := O) Try.prog [] 35 Try.f35 0 [(2, .one .p), (3, .one .p), (5, .one .p)] [(12, .one (.i .i64))] (.n .z (.n (.n (.n .z (.n .z .z)) .z) .z)) = law15_told_R0_c  := by kernel_rfl
theorem law15_told_R0_sound {O : Type} {RO : O → Loc → (Nat → Option Obj) → Prop} : YSound RO Try.prog (law15_told_R0) :=
   have h : YSound RO Try.prog (law15_told_R0_c) := (law15_told_R0_run) ▸ roundAt_sound (gnil) mixed Try.func35 _ _ _ _
   h
/-- haymow/haymowlaw15.told -/
noncomputable def law15_told_c {O : Type} (k91 kr144 : Sm O) : Sm O := fun xs σ =>
 bif Nat.beq xs.length 1 then
 (AV.asP (xs.getD 0 .u)).bind fun p0 =>
 let σ1 := σ.bump 2
 let σ2 := σ1.put σ.next (.cells true 29 [(.sl .nil 0)])
 let σ3 := σ2.put (σ.next + 1) (.cells true 4 [(.b false)])
 (k91 [(.p p0)] σ3).bind fun r4 =>
 (AV.asF r4.1).bind fun f5 =>
 (bif (Option.isNone f5) then
 (r4.2.st (.n σ.next) 0 [(.sl .nil 0)]).bind fun σ6 =>
 (σ6.st (.n (σ.next + 1)) 0 [(.b false)]).bind fun σ7 =>
 (σ7.ld (.n σ.next) 0).bind fun w8 =>
 (AV.asSl w8).bind fun l9 =>
 (σ7.ld (.n (σ.next + 1)) 0).bind fun w10 =>
 (AV.asB w10).bind fun b11 =>
 some ((.tup [(.sl l9.1 l9.2), (.b b11)]), σ7)
 else let σ12 := r4.2.bump 1
 let σ13 := σ12.put r4.2.next (.cells true 29 [(.sl .nil 0)])
 (rangeV [(91, k91), (2000144, kr144)] f5 35000 [(2, (.p (some ((.n σ.next), 0)))), (3, (.p (some ((.n (σ.next + 1)), 0)))), (5, (.p (some ((.n r4.2.next), 0))))] σ13).bind fun r14 =>
 (lstN r14.2 σ13.next).bind fun st15 =>
 let σ16 := r14.2.kill σ13.next
 (bif Nat.beq st15 0 then
 (σ16.ld (.n r4.2.next) 0).bind fun w17 =>
 (AV.asSl w17).bind fun l18 =>
 (σ16.st (.n σ.next) 0 [(.sl l18.1 l18.2)]).bind fun σ19 =>
 (σ19.st (.n (σ.next + 1)) 0 [(.b true)]).bind fun σ20 =>
 (σ20.ld (.n σ.next) 0).bind fun w21 =>
 (AV.asSl w21).bind fun l22 =>
 (σ20.ld (.n (σ.next + 1)) 0).bind fun w23 =>
 (AV.asB w23).bind fun b24 =>
 some ((.tup [(.sl l22.1 l22.2), (.b b24)]), σ20)
 else (bif Nat.beq st15 3 then
 (σ16.ld (.n σ.next) 0).bind fun w25 =>
 (AV.asSl w25).bind fun l26 =>
 (σ16.ld (.n (σ.next + 1)) 0).bind fun w27 =>
 (AV.asB w27).bind fun b28 =>
 some ((.tup [(.sl l26.1 l26.2), (.b b28)]), σ16)
 else none)))
 else none
noncomputable def law15_told {O : Type} : Sm O := law15_told_c large_Large__All (large_Large__All_1 (law15_told_R0))
theorem law15_told_ent : Entered Try.prog 35 := Try.call35
theorem law15_told_run {O : Type} (k91 kr144 : Sm O) : run (O := O) Try.prog [(91, k91), (2000144, kr144)] Try.f35 (.n .z (.n .z (.n (.n .z (.n .z .z)) (.n .z (.n (.n .z (.n (.rf 35000 [2, 3, 5] [3]) .z)) .z))))) = law15_told_c k91 kr144 := by kernel_rfl
theorem law15_told_sound {O : Type} {RO : O → Loc → (Nat → Option Obj) → Prop} : FSound RO Try.prog 35 (law15_told) :=
   have h : FSound RO Try.prog 35 (law15_told_c large_Large__All (large_Large__All_1 (law15_told_R0))) := (law15_told_run large_Large__All (large_Large__All_1 (law15_told_R0))) ▸ run_soundR (gcons large_Large__All_ent (large_Large__All_sound) <| grf (c := 144) large_Large__All_1_ent (large_Large__All_1_sound (law15_told_R0_sound)) <| gnil) mixed Try.func35 (by kernel_rfl) _ (by kernel_rfl)
   h

/-- haymow/haymowref02.Same -/
noncomputable def haymowref02_Same_L1 {O : Type} (l0 : SA × Nat) (l1 : SA × Nat) : List AV × AH O → Option ((List AV × AH O) ⊕ ((List AV × AH O) ⊕ (AV × AH O))) := (fun r2 =>
 (AV.asI .i64 (r2.1.getD 0 .u)).bind fun n3 =>
 (bif (decide (n3 < (l0.2 : Int))) then
 (bif ((decide ((0 : Int) ≤ n3)) && (decide (n3 < (l0.2 : Int)))) then
 (SA.ref l0.1).bind fun q4 =>
 (r2.2.ld q4.1 (q4.2 + (n3.toNat * 1))).bind fun w5 =>
 (AV.asI .i64 w5).bind fun n6 =>
 (bif ((decide ((0 : Int) ≤ n3)) && (decide (n3 < (l1.2 : Int)))) then
 (SA.ref l1.1).bind fun q7 =>
 (r2.2.ld q7.1 (q7.2 + (n3.toNat * 1))).bind fun w8 =>
 (AV.asI .i64 w8).bind fun n9 =>
 (bif ((n6 : Int) != n9) then
 ((some ((.b false), r2.2) : Option (AV × AH O)).map fun r => Sum.inr (Sum.inr r))
 else some (Sum.inl ([(.i .i64 (IntKind.i64.wrap (n3 + 1)))], r2.2)))
 else none)
 else none)
 else some (Sum.inr (Sum.inl ([], r2.2)))))
noncomputable def haymowref02_Same_c {O : Type} : Sm O := fun xs σ =>
 bif Nat.beq xs.length 2 then
 (AV.asSl (xs.getD 0 .u)).bind fun l0 =>
 (AV.asSl (xs.getD 1 .u)).bind fun l1 =>
 (bif (((l0.2 : Int) : Int) != (l1.2 : Int)) then
 some ((.b false), σ)
 else bindS (S := List AV × AH O) (R := (AV × AH O)) (loopF (S := List AV × AH O) (T := (List AV × AH O) ⊕ (AV × AH O)) (haymowref02_Same_L1 l0 l1) ([(.i .i64 0)], σ)) fun r10 =>
 some ((.b true), r10.2))
 else none
noncomputable def haymowref02_Same {O : Type} : Sm O := haymowref02_Same_c
theorem haymowref02_Same_ent : Entered Try.prog 23 := Try.call23
theorem haymowref02_Same_run {O : Type} : run (O := O) Try.prog [] Try.f23 (.n .z (.n (.n .z (.n .z .z)) (.n (.n .z (.n (.lp true 0 [(5, .one (.i .i64))] [] (.n (.n .z .z) (.n (.n (.n (.d [] [0, 1, 2, 3, 4, 5, 6, 7, 8] [0, 0, 3, 7, 0, 0, 48, 112, 255]) (.n .z .z)) .z) .z))) .z)) .z))) = haymowref02_Same_c  := by kernel_rfl
theorem haymowref02_Same_sound {O : Type} {RO : O → Loc → (Nat → Option Obj) → Prop} : FSound RO Try.prog 23 (haymowref02_Same) :=
   have h : FSound RO Try.prog 23 (haymowref02_Same_c) := (haymowref02_Same_run) ▸ run_sound (gnil) mixed Try.func23 (by kernel_rfl) _
   h

/-- (*haymow/large.Large).Words -/
noncomputable def large_Large__Words_c {O : Type} : Sm O := fun xs σ =>
 bif Nat.beq xs.length 1 then
 (AV.asP (xs.getD 0 .u)).bind fun p0 =>
 Option.bind p0 fun q1 =>
 (σ.ld q1.1 (q1.2 + 10)).bind fun w2 =>
 (AV.asI .i64 w2).bind fun n3 =>
 some ((.i .i64 n3), σ)
 else none
noncomputable def large_Large__Words {O : Type} : Sm O := large_Large__Words_c
theorem large_Large__Words_ent : Entered Try.prog 32 := Try.call32
theorem large_Large__Words_run {O : Type} : run (O := O) Try.prog [] Try.f32 (.n .z .z) = large_Large__Words_c  := by kernel_rfl
theorem large_Large__Words_sound {O : Type} {RO : O → Loc → (Nat → Option Obj) → Prop} : FSound RO Try.prog 32 (large_Large__Words) :=
   have h : FSound RO Try.prog 32 (large_Large__Words_c) := (large_Large__Words_run) ▸ run_sound (gnil) mixed Try.func32 (by kernel_rfl) _
   h

/-- haymow/haymowlaw15.awake -/
noncomputable def law15_awake_c {O : Type} (k26 k27 k28 k29 k34 k35 k23 k32 : Sm O) : Sm O := fun xs σ =>
 bif Nat.beq xs.length 0 then
 (k26 [] σ).bind fun r0 =>
 (AV.asTup 3 r0.1).bind fun c1 =>
 (AV.asP (c1.getD 0 .u)).bind fun p2 =>
 (AV.asP (c1.getD 1 .u)).bind fun p3 =>
 (AV.asB (c1.getD 2 .u)).bind fun b4 =>
 (bif (!b4) then
 some ((.b false), r0.2)
 else (k27 [(.p p3), (.i .i64 100)] r0.2).bind fun r5 =>
 (AV.asTup 2 r5.1).bind fun c6 =>
 (AV.asI .i64 (c6.getD 0 .u)).bind fun n7 =>
 (AV.asI .i64 (c6.getD 1 .u)).bind fun n8 =>
 (k27 [(.p p3), (.i .i64 50)] r5.2).bind fun r9 =>
 (AV.asTup 2 r9.1).bind fun c10 =>
 (AV.asI .i64 (c10.getD 0 .u)).bind fun n11 =>
 (AV.asI .i64 (c10.getD 1 .u)).bind fun n12 =>
 (k28 [(.p p3)] r9.2).bind fun r13 =>
 (AV.asTup 0 r13.1).bind fun c14 =>
 (k29 [(.p p3), (.i .i64 2)] r13.2).bind fun r15 =>
 (AV.asTup 2 r15.1).bind fun c16 =>
 (AV.asB (c16.getD 0 .u)).bind fun b17 =>
 (AV.asI .i64 (c16.getD 1 .u)).bind fun n18 =>
 (k34 [(.p p3)] r15.2).bind fun r19 =>
 (AV.asTup 2 r19.1).bind fun c20 =>
 (AV.asI .i64 (c20.getD 0 .u)).bind fun n21 =>
 (AV.asI .i64 (c20.getD 1 .u)).bind fun n22 =>
 (k35 [(.p p3)] r19.2).bind fun r23 =>
 (AV.asTup 2 r23.1).bind fun c24 =>
 (AV.asSl (c24.getD 0 .u)).bind fun l25 =>
 (AV.asB (c24.getD 1 .u)).bind fun b26 =>
 let σ27 := r23.2.bump 1
 ((bif (b17 == true) then
 some ([(.b ((n18 : Int) == 0))], σ27)
 else some ([(.b false)], σ27)) : Option (List AV × AH O)).bind fun r28 =>
 (AV.asB (r28.1.getD 0 .u)).bind fun b29 =>
 ((bif (b29 == true) then
 some ([(.b ((n21 : Int) == 1))], r28.2)
 else some ([(.b false)], r28.2)) : Option (List AV × AH O)).bind fun r30 =>
 (AV.asB (r30.1.getD 0 .u)).bind fun b31 =>
 ((bif (b31 == true) then
 some ([(.b ((n22 : Int) == 100))], r30.2)
 else some ([(.b false)], r30.2)) : Option (List AV × AH O)).bind fun r32 =>
 (AV.asB (r32.1.getD 0 .u)).bind fun b33 =>
 ((bif (b33 == true) then
 some ([(.b b26)], r32.2)
 else some ([(.b false)], r32.2)) : Option (List AV × AH O)).bind fun r34 =>
 (AV.asB (r34.1.getD 0 .u)).bind fun b35 =>
 ((bif (b35 == true) then
 let σ36 := r34.2.put r23.2.next (.cells true 3 [(.i .i64 2)])
 (k23 [(.sl l25.1 l25.2), (.sl (.loc (.n r23.2.next) 0 1) 1)] σ36).bind fun r37 =>
 (AV.asB r37.1).bind fun b38 =>
 some ([(.b b38)], r37.2)
 else some ([(.b false)], r34.2)) : Option (List AV × AH O)).bind fun r39 =>
 (AV.asB (r39.1.getD 0 .u)).bind fun b40 =>
 ((bif (b40 == true) then
 (k32 [(.p p3)] r39.2).bind fun r41 =>
 (AV.asI .i64 r41.1).bind fun n42 =>
 some ([(.b ((n42 : Int) == 50))], r41.2)
 else some ([(.b false)], r39.2)) : Option (List AV × AH O)).bind fun r43 =>
 (AV.asB (r43.1.getD 0 .u)).bind fun b44 =>
 some ((.b b44), r43.2))
 else none
noncomputable def law15_awake {O : Type} : Sm O := law15_awake_c law15_made large_Large__Add large_Large__Begin large_Large__Mark large_Large__Sweep law15_told haymowref02_Same large_Large__Words
theorem law15_awake_ent : Entered Try.prog 24 := Try.call24
theorem law15_awake_run {O : Type} (k26 k27 k28 k29 k34 k35 k23 k32 : Sm O) : run (O := O) Try.prog [(26, k26), (27, k27), (28, k28), (29, k29), (34, k34), (35, k35), (23, k23), (32, k32)] Try.f24 (.n .z (.n .z (.n (.n .z (.n .z .z)) (.n .z (.n .z (.n .z (.n .z (.n .z (.n .z (.n (.g [(1, 2, [(42, .one .b)]), (5, 2, [(46, .one .b)]), (9, 2, [(50, .one .b)]), (13, 1, [(53, .one .b)]), (16, 3, [(58, .one .b)]), (21, 3, [(63, .one .b)])]) .z)))))))))) = law15_awake_c k26 k27 k28 k29 k34 k35 k23 k32 := by kernel_rfl
theorem law15_awake_sound {O : Type} {RO : O → Loc → (Nat → Option Obj) → Prop} : FSound RO Try.prog 24 (law15_awake) :=
   have h : FSound RO Try.prog 24 (law15_awake_c law15_made large_Large__Add large_Large__Begin large_Large__Mark large_Large__Sweep law15_told haymowref02_Same large_Large__Words) := (law15_awake_run law15_made large_Large__Add large_Large__Begin large_Large__Mark large_Large__Sweep law15_told haymowref02_Same large_Large__Words) ▸ run_sound (gcons law15_made_ent (law15_made_sound) <| gcons large_Large__Add_ent (large_Large__Add_sound) <| gcons large_Large__Begin_ent (large_Large__Begin_sound) <| gcons large_Large__Mark_ent (large_Large__Mark_sound) <| gcons large_Large__Sweep_ent (large_Large__Sweep_sound) <| gcons law15_told_ent (law15_told_sound) <| gcons haymowref02_Same_ent (haymowref02_Same_sound) <| gcons large_Large__Words_ent (large_Large__Words_sound) <| gnil) mixed Try.func24 (by kernel_rfl) _
   h

/-- (*haymow/large.Large).Grey -/
noncomputable def large_Large__Grey_c {O : Type} (k84 k88 : Sm O) : Sm O := fun xs σ =>
 bif Nat.beq xs.length 1 then
 (AV.asP (xs.getD 0 .u)).bind fun p0 =>
 Option.bind p0 fun q1 =>
 (σ.ld q1.1 (q1.2 + 2)).bind fun w2 =>
 (AV.asI .i64 w2).bind fun n3 =>
 Option.bind p0 fun q4 =>
 (σ.ld q4.1 (q4.2 + 9)).bind fun w5 =>
 (AV.asI .i64 w5).bind fun n6 =>
 ((bif ((n6 : Int) != 0) then
 Option.bind p0 fun q7 =>
 (σ.ld q7.1 (q7.2 + 9)).bind fun w8 =>
 (AV.asI .i64 w8).bind fun n9 =>
 (k84 [(.p p0)] σ).bind fun r10 =>
 (AV.asAgg 5 r10.1).bind fun c11 =>
 (AV.asP (c11.getD 0 .u)).bind fun p12 =>
 (AV.asI .i64 (c11.getD 1 .u)).bind fun n13 =>
 (AV.asI .i64 (c11.getD 2 .u)).bind fun n14 =>
 (AV.asI .i64 (c11.getD 3 .u)).bind fun n15 =>
 (AV.asI .i64 (c11.getD 4 .u)).bind fun n16 =>
 (chkE (r10.2.ld q7.1 (q7.2 + 9)) (some (.i .i64 n9))).bind fun _ =>
 (k88 [(.agg [(.p p12), (.i .i64 n13), (.i .i64 n14), (.i .i64 n15), (.i .i64 n16)]), (.i .i64 n9)] r10.2).bind fun r17 =>
 (AV.asTup 2 r17.1).bind fun c18 =>
 (AV.asI .i64 (c18.getD 0 .u)).bind fun n19 =>
 (AV.asI .i64 (c18.getD 1 .u)).bind fun n20 =>
 some ([(.i .i64 n19)], r17.2)
 else some ([(.i .i64 n3)], σ)) : Option (List AV × AH O)).bind fun r21 =>
 (AV.asI .i64 (r21.1.getD 0 .u)).bind fun n22 =>
 (bif ((n22 : Int) == 0) then
 some ((.tup [(.i .i64 0), (.b false)]), r21.2)
 else Option.bind p0 fun q23 =>
 (r21.2.st q23.1 (q23.2 + 9) [(.i .i64 n22)]).bind fun σ24 =>
 some ((.tup [(.i .i64 n22), (.b true)]), σ24))
 else none
noncomputable def large_Large__Grey {O : Type} : Sm O := large_Large__Grey_c large_Large__table chain_Table__After
theorem large_Large__Grey_ent : Entered Try.prog 30 := Try.call30
theorem large_Large__Grey_run {O : Type} (k84 k88 : Sm O) : run (O := O) Try.prog [(84, k84), (88, k88)] Try.f30 (.n .z (.n .z (.n (.n .z (.j false [(4, .one (.i .i64))] (.d [] [0, 2, 3, 4, 5, 1, 6, 7, 8, 9, 10] [0, 1, 0, 4, 12, 28, 63, 127, 255, 255, 511]) .z)) (.n (.n .z (.n .z .z)) (.n .z .z))))) = large_Large__Grey_c k84 k88 := by kernel_rfl
theorem large_Large__Grey_sound {O : Type} {RO : O → Loc → (Nat → Option Obj) → Prop} : FSound RO Try.prog 30 (large_Large__Grey) :=
   have h : FSound RO Try.prog 30 (large_Large__Grey_c large_Large__table chain_Table__After) := (large_Large__Grey_run large_Large__table chain_Table__After) ▸ run_sound (gcons large_Large__table_ent (large_Large__table_sound) <| gcons chain_Table__After_ent (chain_Table__After_sound) <| gnil) mixed Try.func30 (by kernel_rfl) _
   h

/-- haymow/haymowlaw15.LargeGreys -/
noncomputable def law15_LargeGreys_L3 {O : Type} (v18 : Int) (k30 : Sm O) (p12 : Option (Bid × Nat)) : List AV × AH O → Option ((List AV × AH O) ⊕ (List AV × AH O)) := (fun r64 =>
 (AV.asSl (r64.1.getD 0 .u)).bind fun l65 =>
 (AV.asI .i64 (r64.1.getD 1 .u)).bind fun n66 =>
 (bif (decide (n66 ≤ v18)) then
 (k30 [(.p p12)] r64.2).bind fun r67 =>
 (AV.asTup 2 r67.1).bind fun c68 =>
 (AV.asI .i64 (c68.getD 0 .u)).bind fun n69 =>
 (AV.asB (c68.getD 1 .u)).bind fun b70 =>
 ((bif b70 then
 let σ71 := r67.2.bump 2
 let σ72 := σ71.put r67.2.next (.cells true 3 [(.i .i64 n69)])
 (σ72.rdSl (.loc (.n r67.2.next) 0 1) 1 1).bind fun new73 =>
 (bif (Nat.ble ((l65.2 + 1) * 9) 35184372088832) then
 (σ72.appSl (r67.2.next + 1) 3 1 l65.1 l65.2 1 new73).bind fun r74 =>
 (AV.asSl r74.1).bind fun l75 =>
 some ([(.sl l75.1 l75.2)], r74.2)
 else none)
 else some ([(.sl l65.1 l65.2)], r67.2)) : Option (List AV × AH O)).bind fun r76 =>
 (AV.asSl (r76.1.getD 0 .u)).bind fun l77 =>
 some (Sum.inl ([(.sl l77.1 l77.2), (.i .i64 (IntKind.i64.wrap (n66 + 1)))], r76.2))
 else some (Sum.inr ([(.sl l65.1 l65.2)], r64.2))))
noncomputable def law15_LargeGreys_L2 {O : Type} (l1 : SA × Nat) (v18 : Int) (k29 : Sm O) (p12 : Option (Bid × Nat)) (n2 : Int) (k30 : Sm O) : List AV × AH O → Option ((List AV × AH O) ⊕ (List AV × AH O)) := (fun r28 =>
 (AV.asSl (r28.1.getD 0 .u)).bind fun l29 =>
 (AV.asSl (r28.1.getD 1 .u)).bind fun l30 =>
 (AV.asI .i64 (r28.1.getD 2 .u)).bind fun n31 =>
 (bif (decide (n31 < (l1.2 : Int))) then
 (bif ((decide ((0 : Int) ≤ n31)) && (decide (n31 < (l1.2 : Int)))) then
 (SA.ref l1.1).bind fun q32 =>
 (r28.2.ld q32.1 (q32.2 + (n31.toNat * 1))).bind fun w33 =>
 (AV.asI .u8 w33).bind fun n34 =>
 (bif (v18 == 0) then
 none
 else let v35 : Int := (IntKind.i64.wrap (1 + (Int.tmod (IntKind.i64.wrap n34) v18)))
 (k29 [(.p p12), (.i .i64 v35)] r28.2).bind fun r36 =>
 (AV.asTup 2 r36.1).bind fun c37 =>
 (AV.asB (c37.getD 0 .u)).bind fun b38 =>
 (AV.asI .i64 (c37.getD 1 .u)).bind fun n39 =>
 ((bif b38 then
 let σ40 := r36.2.bump 2
 let σ41 := σ40.put r36.2.next (.cells true 3 [(.i .i64 v35)])
 (σ41.rdSl (.loc (.n r36.2.next) 0 1) 1 1).bind fun new42 =>
 (bif (Nat.ble ((l29.2 + 1) * 9) 35184372088832) then
 (σ41.appSl (r36.2.next + 1) 3 1 l29.1 l29.2 1 new42).bind fun r43 =>
 (AV.asSl r43.1).bind fun l44 =>
 some ([(.sl l44.1 l44.2)], r43.2)
 else none)
 else some ([(.sl l29.1 l29.2)], r36.2)) : Option (List AV × AH O)).bind fun r45 =>
 (AV.asSl (r45.1.getD 0 .u)).bind fun l46 =>
 let v47 : Int := (IntKind.i64.wrap (1 + (Int.tmod (IntKind.i64.wrap n2) 4)))
 (bif (v47 == 0) then
 none
 else ((bif (((Int.tmod n31 v47) : Int) == 0) then
 (k30 [(.p p12)] r45.2).bind fun r48 =>
 (AV.asTup 2 r48.1).bind fun c49 =>
 (AV.asI .i64 (c49.getD 0 .u)).bind fun n50 =>
 (AV.asB (c49.getD 1 .u)).bind fun b51 =>
 ((bif b51 then
 let σ52 := r48.2.bump 2
 let σ53 := σ52.put r48.2.next (.cells true 3 [(.i .i64 n50)])
 (σ53.rdSl (.loc (.n r48.2.next) 0 1) 1 1).bind fun new54 =>
 (bif (Nat.ble ((l30.2 + 1) * 9) 35184372088832) then
 (σ53.appSl (r48.2.next + 1) 3 1 l30.1 l30.2 1 new54).bind fun r55 =>
 (AV.asSl r55.1).bind fun l56 =>
 some ([(.sl l56.1 l56.2)], r55.2)
 else none)
 else some ([(.sl l30.1 l30.2)], r48.2)) : Option (List AV × AH O)).bind fun r57 =>
 (AV.asSl (r57.1.getD 0 .u)).bind fun l58 =>
 some ([(.sl l58.1 l58.2)], r57.2)
 else some ([(.sl l30.1 l30.2)], r45.2)) : Option (List AV × AH O)).bind fun r59 =>
 (AV.asSl (r59.1.getD 0 .u)).bind fun l60 =>
 some (Sum.inl ([(.sl l46.1 l46.2), (.sl l60.1 l60.2), (.i .i64 (IntKind.i64.wrap (n31 + 1)))], r59.2))))
 else none)
 else some (Sum.inr ([(.sl l29.1 l29.2), (.sl l30.1 l30.2)], r28.2))))
noncomputable def law15_LargeGreys_L1 {O : Type} (v18 : Int) (k27 : Sm O) (p12 : Option (Bid × Nat)) : List AV × AH O → Option ((List AV × AH O) ⊕ (List AV × AH O)) := (fun r19 =>
 (AV.asI .i64 (r19.1.getD 0 .u)).bind fun n20 =>
 (bif (decide (n20 < v18)) then
 (k27 [(.p p12), (.i .i64 1)] r19.2).bind fun r21 =>
 (AV.asTup 2 r21.1).bind fun c22 =>
 (AV.asI .i64 (c22.getD 0 .u)).bind fun n23 =>
 (AV.asI .i64 (c22.getD 1 .u)).bind fun n24 =>
 some (Sum.inl ([(.i .i64 (IntKind.i64.wrap (n20 + 1)))], r21.2))
 else some (Sum.inr ([], r19.2))))
noncomputable def law15_LargeGreys_c {O : Type} (k24 k25 k26 k27 k28 k29 k30 k23 : Sm O) : Sm O := fun xs σ =>
 bif Nat.beq xs.length 3 then
 (AV.asI .u8 (xs.getD 0 .u)).bind fun n0 =>
 (AV.asSl (xs.getD 1 .u)).bind fun l1 =>
 (AV.asI .u8 (xs.getD 2 .u)).bind fun n2 =>
 (k24 [] σ).bind fun r3 =>
 (AV.asB r3.1).bind fun b4 =>
 (bif (!b4) then
 some ((.b false), r3.2)
 else (bif (decide ((l1.2 : Int) > 60)) then
 some ((.b true), r3.2)
 else (k25 [(.p none)] r3.2).bind fun r5 =>
 (AV.asTup 2 r5.1).bind fun c6 =>
 (AV.asP (c6.getD 0 .u)).bind fun p7 =>
 (AV.asI .i64 (c6.getD 1 .u)).bind fun n8 =>
 (k26 [] r5.2).bind fun r9 =>
 (AV.asTup 3 r9.1).bind fun c10 =>
 (AV.asP (c10.getD 0 .u)).bind fun p11 =>
 (AV.asP (c10.getD 1 .u)).bind fun p12 =>
 (AV.asB (c10.getD 2 .u)).bind fun b13 =>
 ((bif ((!b13) == false) then
 some ([(.b (!(Option.isNone p7)))], r9.2)
 else some ([(.b true)], r9.2)) : Option (List AV × AH O)).bind fun r14 =>
 (AV.asB (r14.1.getD 0 .u)).bind fun b15 =>
 ((bif (b15 == false) then
 some ([(.b ((n8 : Int) != 1))], r14.2)
 else some ([(.b true)], r14.2)) : Option (List AV × AH O)).bind fun r16 =>
 (AV.asB (r16.1.getD 0 .u)).bind fun b17 =>
 (bif b17 then
 some ((.b false), r16.2)
 else let v18 : Int := (IntKind.i64.wrap (1 + (Int.tmod (IntKind.i64.wrap n0) 20)))
 (loopF (S := List AV × AH O) (T := List AV × AH O) (law15_LargeGreys_L1 v18 k27 p12) ([(.i .i64 0)], r16.2)).bind fun r25 =>
 (k28 [(.p p12)] r25.2).bind fun r26 =>
 (AV.asTup 0 r26.1).bind fun c27 =>
 (loopF (S := List AV × AH O) (T := List AV × AH O) (law15_LargeGreys_L2 l1 v18 k29 p12 n2 k30) ([(.sl .nil 0), (.sl .nil 0), (.i .i64 0)], r26.2)).bind fun r61 =>
 (AV.asSl (r61.1.getD 0 .u)).bind fun l62 =>
 (AV.asSl (r61.1.getD 1 .u)).bind fun l63 =>
 (loopF (S := List AV × AH O) (T := List AV × AH O) (law15_LargeGreys_L3 v18 k30 p12) ([(.sl l63.1 l63.2), (.i .i64 0)], r61.2)).bind fun r78 =>
 (AV.asSl (r78.1.getD 0 .u)).bind fun l79 =>
 (k30 [(.p p12)] r78.2).bind fun r80 =>
 (AV.asTup 2 r80.1).bind fun c81 =>
 (AV.asI .i64 (c81.getD 0 .u)).bind fun n82 =>
 (AV.asB (c81.getD 1 .u)).bind fun b83 =>
 (k23 [(.sl l79.1 l79.2), (.sl l62.1 l62.2)] r80.2).bind fun r84 =>
 (AV.asB r84.1).bind fun b85 =>
 ((bif (b85 == true) then
 some ([(.b (!b83))], r84.2)
 else some ([(.b false)], r84.2)) : Option (List AV × AH O)).bind fun r86 =>
 (AV.asB (r86.1.getD 0 .u)).bind fun b87 =>
 some ((.b b87), r86.2))))
 else none
noncomputable def law15_LargeGreys {O : Type} : Sm O := law15_LargeGreys_c law15_awake large_New law15_made large_Large__Add large_Large__Begin large_Large__Mark large_Large__Grey haymowref02_Same
theorem law15_LargeGreys_ent : Entered Try.prog 4 := Try.call4
theorem law15_LargeGreys_run {O : Type} (k24 k25 k26 k27 k28 k29 k30 k23 : Sm O) : run (O := O) Try.prog [(24, k24), (25, k25), (26, k26), (27, k27), (28, k28), (29, k29), (30, k30), (23, k23)] Try.f4 (.n .z (.n (.n .z (.n .z .z)) (.n (.n .z (.n .z .z)) (.n .z (.n .z (.n (.n (.g [(2, 2, [(46, .one .b)]), (6, 2, [(50, .one .b)])]) (.n .z .z)) (.n .z (.n (.n .z (.n (.lp false 0 [(13, .one (.i .i64))] [] (.n (.n .z .z) (.n .z .z))) .z)) (.n .z (.n .z (.n (.n .z (.n (.lp false 2 [(14, .one .sl), (15, .one .sl), (16, .one (.i .i64))] [(14, .one .sl), (15, .one .sl)] (.n (.n .z .z) (.n (.n (.n .z (.n .z (.n (.n .z (.j false [(14, .one .sl)] .z .z)) (.n .z (.j false [(15, .one .sl)] (.n .z (.n .z (.j false [(15, .one .sl)] .z .z))) .z))))) .z) .z))) .z)) (.n (.n .z (.n (.lp false 4 [(15, .one .sl), (22, .one (.i .i64))] [(15, .one .sl)] (.n (.n .z .z) (.n (.n (.n .z (.n .z (.j false [(15, .one .sl)] .z .z))) .z) .z))) .z)) (.n .z (.n (.g [(3, 2, [(132, .one .b)])]) .z)))))))))))))) = law15_LargeGreys_c k24 k25 k26 k27 k28 k29 k30 k23 := by kernel_rfl
theorem law15_LargeGreys_sound {O : Type} {RO : O → Loc → (Nat → Option Obj) → Prop} : FSound RO Try.prog 4 (law15_LargeGreys) :=
   have h : FSound RO Try.prog 4 (law15_LargeGreys_c law15_awake large_New law15_made large_Large__Add large_Large__Begin large_Large__Mark large_Large__Grey haymowref02_Same) := (law15_LargeGreys_run law15_awake large_New law15_made large_Large__Add large_Large__Begin large_Large__Mark large_Large__Grey haymowref02_Same) ▸ run_sound (gcons law15_awake_ent (law15_awake_sound) <| gcons large_New_ent (large_New_sound) <| gcons law15_made_ent (law15_made_sound) <| gcons large_Large__Add_ent (large_Large__Add_sound) <| gcons large_Large__Begin_ent (large_Large__Begin_sound) <| gcons large_Large__Mark_ent (large_Large__Mark_sound) <| gcons large_Large__Grey_ent (large_Large__Grey_sound) <| gcons haymowref02_Same_ent (haymowref02_Same_sound) <| gnil) mixed Try.func4 (by kernel_rfl) _
   h

/-- (*haymow/large.Large).Write -/
noncomputable def large_Large__Write_c {O : Type} (k79 k89 : Sm O) : Sm O := fun xs σ =>
 bif Nat.beq xs.length 4 then
 (AV.asP (xs.getD 0 .u)).bind fun p0 =>
 (AV.asI .i64 (xs.getD 1 .u)).bind fun n1 =>
 (AV.asI .i64 (xs.getD 2 .u)).bind fun n2 =>
 (AV.asI .u64 (xs.getD 3 .u)).bind fun n3 =>
 Option.bind p0 fun q4 =>
 (σ.ld q4.1 (q4.2 + 1)).bind fun w5 =>
 (AV.asP w5).bind fun p6 =>
 (k79 [(.p p6), (.i .i64 n1), (.i .i64 0)] σ).bind fun r7 =>
 (AV.asTup 2 r7.1).bind fun c8 =>
 (AV.asI .u64 (c8.getD 0 .u)).bind fun n9 =>
 (AV.asI .i64 (c8.getD 1 .u)).bind fun n10 =>
 (bif ((n10 : Int) != 0) then
 some ((.i .i64 n10), r7.2)
 else Option.bind p0 fun q11 =>
 (r7.2.ld q11.1 q11.2).bind fun w12 =>
 (AV.asP w12).bind fun p13 =>
 (k89 [(.p p13), (.i .i64 (IntKind.i64.wrap n9)), (.i .i64 n2), (.i .u64 n3)] r7.2).bind fun r14 =>
 (AV.asI .i64 r14.1).bind fun n15 =>
 some ((.i .i64 n15), r14.2))
 else none
noncomputable def large_Large__Write {O : Type} : Sm O := large_Large__Write_c pool_Pool__Get mem_Mem__Write
theorem large_Large__Write_ent : Entered Try.prog 31 := Try.call31
theorem large_Large__Write_run {O : Type} (k79 k89 : Sm O) : run (O := O) Try.prog [(79, k79), (89, k89)] Try.f31 (.n .z (.n .z (.n (.n .z (.n .z .z)) .z))) = large_Large__Write_c k79 k89 := by kernel_rfl
theorem large_Large__Write_sound {O : Type} {RO : O → Loc → (Nat → Option Obj) → Prop} : FSound RO Try.prog 31 (large_Large__Write) :=
   have h : FSound RO Try.prog 31 (large_Large__Write_c pool_Pool__Get mem_Mem__Write) := (large_Large__Write_run pool_Pool__Get mem_Mem__Write) ▸ run_sound (gcons pool_Pool__Get_ent (pool_Pool__Get_sound) <| gcons mem_Mem__Write_ent (mem_Mem__Write_sound) <| gnil) mixed Try.func31 (by kernel_rfl) _
   h

/-- (*haymow/meter.Meter).Held -/
noncomputable def meter_Meter__Held_c {O : Type} : Sm O := fun xs σ =>
 bif Nat.beq xs.length 1 then
 (AV.asP (xs.getD 0 .u)).bind fun p0 =>
 (bif (Option.isNone p0) then
 some ((.i .i64 0), σ)
 else Option.bind p0 fun q1 =>
 (σ.ld q1.1 (q1.2 + 4)).bind fun w2 =>
 (AV.asI .i64 w2).bind fun n3 =>
 some ((.i .i64 n3), σ))
 else none
noncomputable def meter_Meter__Held {O : Type} : Sm O := meter_Meter__Held_c
theorem meter_Meter__Held_ent : Entered Try.prog 19 := Try.call19
theorem meter_Meter__Held_run {O : Type} : run (O := O) Try.prog [] Try.f19 (.n .z (.n (.n .z (.n .z .z)) .z)) = meter_Meter__Held_c  := by kernel_rfl
theorem meter_Meter__Held_sound {O : Type} {RO : O → Loc → (Nat → Option Obj) → Prop} : FSound RO Try.prog 19 (meter_Meter__Held) :=
   have h : FSound RO Try.prog 19 (meter_Meter__Held_c) := (meter_Meter__Held_run) ▸ run_sound (gnil) mixed Try.func19 (by kernel_rfl) _
   h

/-- haymow/haymowref15.Has -/
noncomputable def haymowref15_Has_L1 {O : Type} (l0 : SA × Nat) (n1 : Int) : List AV × AH O → Option ((List AV × AH O) ⊕ ((List AV × AH O) ⊕ (AV × AH O))) := (fun r2 =>
 (AV.asI .i64 (r2.1.getD 0 .u)).bind fun n3 =>
 (bif (decide (n3 < (l0.2 : Int))) then
 (bif ((decide ((0 : Int) ≤ n3)) && (decide (n3 < (l0.2 : Int)))) then
 (SA.ref l0.1).bind fun q4 =>
 (r2.2.ld q4.1 (q4.2 + (n3.toNat * 1))).bind fun w5 =>
 (AV.asI .i64 w5).bind fun n6 =>
 (bif ((n6 : Int) == n1) then
 ((some ((.b true), r2.2) : Option (AV × AH O)).map fun r => Sum.inr (Sum.inr r))
 else some (Sum.inl ([(.i .i64 (IntKind.i64.wrap (n3 + 1)))], r2.2)))
 else none)
 else some (Sum.inr (Sum.inl ([], r2.2)))))
noncomputable def haymowref15_Has_c {O : Type} : Sm O := fun xs σ =>
 bif Nat.beq xs.length 2 then
 (AV.asSl (xs.getD 0 .u)).bind fun l0 =>
 (AV.asI .i64 (xs.getD 1 .u)).bind fun n1 =>
 bindS (S := List AV × AH O) (R := (AV × AH O)) (loopF (S := List AV × AH O) (T := (List AV × AH O) ⊕ (AV × AH O)) (haymowref15_Has_L1 l0 n1) ([(.i .i64 0)], σ)) fun r7 =>
 some ((.b false), r7.2)
 else none
noncomputable def haymowref15_Has {O : Type} : Sm O := haymowref15_Has_c
theorem haymowref15_Has_ent : Entered Try.prog 33 := Try.call33
theorem haymowref15_Has_run {O : Type} : run (O := O) Try.prog [] Try.f33 (.n .z (.n (.n .z (.n (.lp true 0 [(5, .one (.i .i64))] [] (.n (.n .z .z) (.n (.n (.n .z (.n .z .z)) .z) .z))) .z)) .z)) = haymowref15_Has_c  := by kernel_rfl
theorem haymowref15_Has_sound {O : Type} {RO : O → Loc → (Nat → Option Obj) → Prop} : FSound RO Try.prog 33 (haymowref15_Has) :=
   have h : FSound RO Try.prog 33 (haymowref15_Has_c) := (haymowref15_Has_run) ▸ run_sound (gnil) mixed Try.func33 (by kernel_rfl) _
   h

/-- haymow/haymowlaw15.total -/
noncomputable def law15_total_L1 {O : Type} (l0 : SA × Nat) : List AV × AH O → Option ((List AV × AH O) ⊕ (List AV × AH O)) := (fun r1 =>
 (AV.asI .i64 (r1.1.getD 0 .u)).bind fun n2 =>
 (AV.asI .i64 (r1.1.getD 1 .u)).bind fun n3 =>
 (bif (decide (n3 < (l0.2 : Int))) then
 (bif ((decide ((0 : Int) ≤ n3)) && (decide (n3 < (l0.2 : Int)))) then
 (SA.ref l0.1).bind fun q4 =>
 (r1.2.ld q4.1 (q4.2 + (n3.toNat * 1))).bind fun w5 =>
 (AV.asI .u8 w5).bind fun n6 =>
 let v7 : Int := (IntKind.i64.wrap ((IntKind.i64.wrap (n2 + 1)) + (IntKind.i64.wrap n6)))
 some (Sum.inl ([(.i .i64 v7), (.i .i64 (IntKind.i64.wrap (n3 + 1)))], r1.2))
 else none)
 else some (Sum.inr ([(.i .i64 n2)], r1.2))))
noncomputable def law15_total_c {O : Type} : Sm O := fun xs σ =>
 bif Nat.beq xs.length 1 then
 (AV.asSl (xs.getD 0 .u)).bind fun l0 =>
 (loopF (S := List AV × AH O) (T := List AV × AH O) (law15_total_L1 l0) ([(.i .i64 0), (.i .i64 0)], σ)).bind fun r8 =>
 (AV.asI .i64 (r8.1.getD 0 .u)).bind fun n9 =>
 some ((.i .i64 n9), r8.2)
 else none
noncomputable def law15_total {O : Type} : Sm O := law15_total_c
theorem law15_total_ent : Entered Try.prog 36 := Try.call36
theorem law15_total_run {O : Type} : run (O := O) Try.prog [] Try.f36 (.n .z (.n .z (.n (.n .z (.n (.lp false 0 [(3, .one (.i .i64)), (4, .one (.i .i64))] [(3, .one (.i .i64))] (.n (.n .z .z) (.n .z .z))) .z)) .z))) = law15_total_c  := by kernel_rfl
theorem law15_total_sound {O : Type} {RO : O → Loc → (Nat → Option Obj) → Prop} : FSound RO Try.prog 36 (law15_total) :=
   have h : FSound RO Try.prog 36 (law15_total_c) := (law15_total_run) ▸ run_sound (gnil) mixed Try.func36 (by kernel_rfl) _
   h

/-- (*haymow/large.Large).Read -/
noncomputable def large_Large__Read_c {O : Type} (k79 k92 : Sm O) : Sm O := fun xs σ =>
 bif Nat.beq xs.length 3 then
 (AV.asP (xs.getD 0 .u)).bind fun p0 =>
 (AV.asI .i64 (xs.getD 1 .u)).bind fun n1 =>
 (AV.asI .i64 (xs.getD 2 .u)).bind fun n2 =>
 Option.bind p0 fun q3 =>
 (σ.ld q3.1 (q3.2 + 1)).bind fun w4 =>
 (AV.asP w4).bind fun p5 =>
 (k79 [(.p p5), (.i .i64 n1), (.i .i64 0)] σ).bind fun r6 =>
 (AV.asTup 2 r6.1).bind fun c7 =>
 (AV.asI .u64 (c7.getD 0 .u)).bind fun n8 =>
 (AV.asI .i64 (c7.getD 1 .u)).bind fun n9 =>
 (bif ((n9 : Int) != 0) then
 some ((.tup [(.i .u64 0), (.i .i64 n9)]), r6.2)
 else Option.bind p0 fun q10 =>
 (r6.2.ld q10.1 q10.2).bind fun w11 =>
 (AV.asP w11).bind fun p12 =>
 (k92 [(.p p12), (.i .i64 (IntKind.i64.wrap n8)), (.i .i64 n2)] r6.2).bind fun r13 =>
 (AV.asTup 2 r13.1).bind fun c14 =>
 (AV.asI .u64 (c14.getD 0 .u)).bind fun n15 =>
 (AV.asI .i64 (c14.getD 1 .u)).bind fun n16 =>
 some ((.tup [(.i .u64 n15), (.i .i64 n16)]), r13.2))
 else none
noncomputable def large_Large__Read {O : Type} : Sm O := large_Large__Read_c pool_Pool__Get mem_Mem__Read
theorem large_Large__Read_ent : Entered Try.prog 37 := Try.call37
theorem large_Large__Read_run {O : Type} (k79 k92 : Sm O) : run (O := O) Try.prog [(79, k79), (92, k92)] Try.f37 (.n .z (.n .z (.n (.n .z (.n .z .z)) .z))) = large_Large__Read_c k79 k92 := by kernel_rfl
theorem large_Large__Read_sound {O : Type} {RO : O → Loc → (Nat → Option Obj) → Prop} : FSound RO Try.prog 37 (large_Large__Read) :=
   have h : FSound RO Try.prog 37 (large_Large__Read_c pool_Pool__Get mem_Mem__Read) := (large_Large__Read_run pool_Pool__Get mem_Mem__Read) ▸ run_sound (gcons pool_Pool__Get_ent (pool_Pool__Get_sound) <| gcons mem_Mem__Read_ent (mem_Mem__Read_sound) <| gnil) mixed Try.func37 (by kernel_rfl) _
   h

/-- haymow/haymowlaw15.LargeSweeps -/
noncomputable def law15_LargeSweeps_L3 {O : Type} (l75 : SA × Nat) (l0 : SA × Nat) (k37 : Sm O) (p10 : Option (Bid × Nat)) (n2 : Int) : List AV × AH O → Option ((List AV × AH O) ⊕ ((List AV × AH O) ⊕ (AV × AH O))) := (fun r108 =>
 (AV.asI .i64 (r108.1.getD 0 .u)).bind fun n109 =>
 (bif (decide (n109 < (l75.2 : Int))) then
 (bif ((decide ((0 : Int) ≤ n109)) && (decide (n109 < (l75.2 : Int)))) then
 (SA.ref l75.1).bind fun q110 =>
 (r108.2.ld q110.1 (q110.2 + (n109.toNat * 1))).bind fun w111 =>
 (AV.asI .i64 w111).bind fun n112 =>
 (bif ((decide ((0 : Int) ≤ (IntKind.i64.wrap (n112 - 1)))) && (decide ((IntKind.i64.wrap (n112 - 1)) < (l0.2 : Int)))) then
 (SA.ref l0.1).bind fun q113 =>
 (r108.2.ld q113.1 (q113.2 + ((IntKind.i64.wrap (n112 - 1)).toNat * 1))).bind fun w114 =>
 (AV.asI .u8 w114).bind fun n115 =>
 (bif ((decide ((0 : Int) ≤ n109)) && (decide (n109 < (l75.2 : Int)))) then
 (SA.ref l75.1).bind fun q116 =>
 (r108.2.ld q116.1 (q116.2 + (n109.toNat * 1))).bind fun w117 =>
 (AV.asI .i64 w117).bind fun n118 =>
 (k37 [(.p p10), (.i .i64 n118), (.i .i64 (IntKind.i64.wrap n115))] r108.2).bind fun r119 =>
 (AV.asTup 2 r119.1).bind fun c120 =>
 (AV.asI .u64 (c120.getD 0 .u)).bind fun n121 =>
 (AV.asI .i64 (c120.getD 1 .u)).bind fun n122 =>
 (bif ((decide ((0 : Int) ≤ n109)) && (decide (n109 < (l75.2 : Int)))) then
 (SA.ref l75.1).bind fun q123 =>
 (r119.2.ld q123.1 (q123.2 + (n109.toNat * 1))).bind fun w124 =>
 (AV.asI .i64 w124).bind fun n125 =>
 let v126 : Int := (IntKind.u64.wrap (n2 + (IntKind.u64.wrap (IntKind.i64.wrap (n125 - 1)))))
 ((bif (((n121 : Int) != v126) == false) then
 some ([(.b ((n122 : Int) != 0))], r119.2)
 else some ([(.b true)], r119.2)) : Option (List AV × AH O)).bind fun r127 =>
 (AV.asB (r127.1.getD 0 .u)).bind fun b128 =>
 (bif b128 then
 ((some ((.b false), r127.2) : Option (AV × AH O)).map fun r => Sum.inr (Sum.inr r))
 else some (Sum.inl ([(.i .i64 (IntKind.i64.wrap (n109 + 1)))], r127.2)))
 else none)
 else none)
 else none)
 else none)
 else some (Sum.inr (Sum.inl ([], r108.2)))))
noncomputable def law15_LargeSweeps_L2 {O : Type} (l1 : SA × Nat) (k29 : Sm O) (p10 : Option (Bid × Nat)) (l0 : SA × Nat) (k33 : Sm O) : List AV × AH O → Option ((List AV × AH O) ⊕ ((List AV × AH O) ⊕ (AV × AH O))) := (fun r40 =>
 (AV.asSl (r40.1.getD 0 .u)).bind fun l41 =>
 (AV.asI .i64 (r40.1.getD 1 .u)).bind fun n42 =>
 (AV.asI .i64 (r40.1.getD 2 .u)).bind fun n43 =>
 (bif (decide (n43 < (l1.2 : Int))) then
 bindS (S := List AV × AH O) (R := ((List AV × AH O) ⊕ ((List AV × AH O) ⊕ (AV × AH O)))) ((bif ((decide ((0 : Int) ≤ n43)) && (decide (n43 < (l1.2 : Int)))) then
 (SA.ref l1.1).bind fun q44 =>
 (r40.2.ld q44.1 (q44.2 + (n43.toNat * 1))).bind fun w45 =>
 (AV.asI .u8 w45).bind fun n46 =>
 (k29 [(.p p10), (.i .i64 (IntKind.i64.wrap n46))] r40.2).bind fun r47 =>
 (AV.asTup 2 r47.1).bind fun c48 =>
 (AV.asB (c48.getD 0 .u)).bind fun b49 =>
 (AV.asI .i64 (c48.getD 1 .u)).bind fun n50 =>
 ((bif ((decide ((IntKind.i64.wrap n46) < 1)) == false) then
 some ([(.b (decide ((IntKind.i64.wrap n46) > (l0.2 : Int))))], r47.2)
 else some ([(.b true)], r47.2)) : Option (List AV × AH O)).bind fun r51 =>
 (AV.asB (r51.1.getD 0 .u)).bind fun b52 =>
 (bif b52 then
 ((bif (b49 == false) then
 some ([(.b ((n50 : Int) != 4))], r51.2)
 else some ([(.b true)], r51.2)) : Option (List AV × AH O)).bind fun r53 =>
 (AV.asB (r53.1.getD 0 .u)).bind fun b54 =>
 (bif b54 then
 ((((some ((.b false), r53.2) : Option (AV × AH O)).map fun r => Sum.inr (Sum.inr r)) : Option ((List AV × AH O) ⊕ ((List AV × AH O) ⊕ (AV × AH O)))).map Sum.inr)
 else some (Sum.inl ([(.sl l41.1 l41.2), (.i .i64 n42)], r53.2)))
 else (k33 [(.sl l41.1 l41.2), (.i .i64 (IntKind.i64.wrap n46))] r51.2).bind fun r55 =>
 (AV.asB r55.1).bind fun b56 =>
 ((bif ((b49 == b56) == false) then
 some ([(.b ((n50 : Int) != 0))], r55.2)
 else some ([(.b true)], r55.2)) : Option (List AV × AH O)).bind fun r57 =>
 (AV.asB (r57.1.getD 0 .u)).bind fun b58 =>
 (bif b58 then
 ((((some ((.b false), r57.2) : Option (AV × AH O)).map fun r => Sum.inr (Sum.inr r)) : Option ((List AV × AH O) ⊕ ((List AV × AH O) ⊕ (AV × AH O)))).map Sum.inr)
 else ((bif b49 then
 let σ59 := r57.2.bump 2
 let σ60 := σ59.put r57.2.next (.cells true 3 [(.i .i64 (IntKind.i64.wrap n46))])
 (σ60.rdSl (.loc (.n r57.2.next) 0 1) 1 1).bind fun new61 =>
 (bif (Nat.ble ((l41.2 + 1) * 9) 35184372088832) then
 (σ60.appSl (r57.2.next + 1) 3 1 l41.1 l41.2 1 new61).bind fun r62 =>
 (AV.asSl r62.1).bind fun l63 =>
 (bif ((decide ((0 : Int) ≤ (IntKind.i64.wrap ((IntKind.i64.wrap n46) - 1)))) && (decide ((IntKind.i64.wrap ((IntKind.i64.wrap n46) - 1)) < (l0.2 : Int)))) then
 (SA.ref l0.1).bind fun q64 =>
 (r62.2.ld q64.1 (q64.2 + ((IntKind.i64.wrap ((IntKind.i64.wrap n46) - 1)).toNat * 1))).bind fun w65 =>
 (AV.asI .u8 w65).bind fun n66 =>
 let v67 : Int := (IntKind.i64.wrap ((IntKind.i64.wrap (n42 + 1)) + (IntKind.i64.wrap n66)))
 some ([(.sl l63.1 l63.2), (.i .i64 v67)], r62.2)
 else none)
 else none)
 else some ([(.sl l41.1 l41.2), (.i .i64 n42)], r57.2)) : Option (List AV × AH O)).bind fun r68 =>
 (AV.asSl (r68.1.getD 0 .u)).bind fun l69 =>
 (AV.asI .i64 (r68.1.getD 1 .u)).bind fun n70 =>
 some (Sum.inl ([(.sl l69.1 l69.2), (.i .i64 n70)], r68.2))))
 else none)) fun r71 =>
 (AV.asSl (r71.1.getD 0 .u)).bind fun l72 =>
 (AV.asI .i64 (r71.1.getD 1 .u)).bind fun n73 =>
 some (Sum.inl ([(.sl l72.1 l72.2), (.i .i64 n73), (.i .i64 (IntKind.i64.wrap (n43 + 1)))], r71.2))
 else some (Sum.inr (Sum.inl ([(.sl l41.1 l41.2), (.i .i64 n42)], r40.2)))))
noncomputable def law15_LargeSweeps_L1 {O : Type} (l0 : SA × Nat) (k27 : Sm O) (p10 : Option (Bid × Nat)) (k31 : Sm O) (n2 : Int) : List AV × AH O → Option ((List AV × AH O) ⊕ ((List AV × AH O) ⊕ (AV × AH O))) := (fun r12 =>
 (AV.asI .i64 (r12.1.getD 0 .u)).bind fun n13 =>
 (bif (decide (n13 < (l0.2 : Int))) then
 (bif ((decide ((0 : Int) ≤ n13)) && (decide (n13 < (l0.2 : Int)))) then
 (SA.ref l0.1).bind fun q14 =>
 (r12.2.ld q14.1 (q14.2 + (n13.toNat * 1))).bind fun w15 =>
 (AV.asI .u8 w15).bind fun n16 =>
 (k27 [(.p p10), (.i .i64 (IntKind.i64.wrap (1 + (IntKind.i64.wrap n16))))] r12.2).bind fun r17 =>
 (AV.asTup 2 r17.1).bind fun c18 =>
 (AV.asI .i64 (c18.getD 0 .u)).bind fun n19 =>
 (AV.asI .i64 (c18.getD 1 .u)).bind fun n20 =>
 ((bif (((n19 : Int) != (IntKind.i64.wrap (n13 + 1))) == false) then
 some ([(.b ((n20 : Int) != 0))], r17.2)
 else some ([(.b true)], r17.2)) : Option (List AV × AH O)).bind fun r21 =>
 (AV.asB (r21.1.getD 0 .u)).bind fun b22 =>
 ((bif (b22 == false) then
 (bif ((decide ((0 : Int) ≤ n13)) && (decide (n13 < (l0.2 : Int)))) then
 (SA.ref l0.1).bind fun q23 =>
 (r21.2.ld q23.1 (q23.2 + (n13.toNat * 1))).bind fun w24 =>
 (AV.asI .u8 w24).bind fun n25 =>
 (k31 [(.p p10), (.i .i64 n19), (.i .i64 (IntKind.i64.wrap n25)), (.i .u64 (IntKind.u64.wrap (n2 + (IntKind.u64.wrap n13))))] r21.2).bind fun r26 =>
 (AV.asI .i64 r26.1).bind fun n27 =>
 some ([(.b ((n27 : Int) != 0))], r26.2)
 else none)
 else some ([(.b true)], r21.2)) : Option (List AV × AH O)).bind fun r28 =>
 (AV.asB (r28.1.getD 0 .u)).bind fun b29 =>
 (bif b29 then
 ((some ((.b false), r28.2) : Option (AV × AH O)).map fun r => Sum.inr (Sum.inr r))
 else some (Sum.inl ([(.i .i64 (IntKind.i64.wrap (n13 + 1)))], r28.2)))
 else none)
 else some (Sum.inr (Sum.inl ([], r12.2)))))
noncomputable def law15_LargeSweeps_c {O : Type} (k24 k26 k27 k31 k19 k32 k28 k29 k33 k34 k35 k23 k36 k37 : Sm O) : Sm O := fun xs σ =>
 bif Nat.beq xs.length 3 then
 (AV.asSl (xs.getD 0 .u)).bind fun l0 =>
 (AV.asSl (xs.getD 1 .u)).bind fun l1 =>
 (AV.asI .u64 (xs.getD 2 .u)).bind fun n2 =>
 (k24 [] σ).bind fun r3 =>
 (AV.asB r3.1).bind fun b4 =>
 (bif (!b4) then
 some ((.b false), r3.2)
 else ((bif ((decide ((l0.2 : Int) > 40)) == false) then
 some ([(.b (decide ((l1.2 : Int) > 40)))], r3.2)
 else some ([(.b true)], r3.2)) : Option (List AV × AH O)).bind fun r5 =>
 (AV.asB (r5.1.getD 0 .u)).bind fun b6 =>
 (bif b6 then
 some ((.b true), r5.2)
 else (k26 [] r5.2).bind fun r7 =>
 (AV.asTup 3 r7.1).bind fun c8 =>
 (AV.asP (c8.getD 0 .u)).bind fun p9 =>
 (AV.asP (c8.getD 1 .u)).bind fun p10 =>
 (AV.asB (c8.getD 2 .u)).bind fun b11 =>
 (bif (!b11) then
 some ((.b false), r7.2)
 else bindS (S := List AV × AH O) (R := (AV × AH O)) (loopF (S := List AV × AH O) (T := (List AV × AH O) ⊕ (AV × AH O)) (law15_LargeSweeps_L1 l0 k27 p10 k31 n2) ([(.i .i64 0)], r7.2)) fun r30 =>
 Option.bind p9 fun q31 =>
 (r30.2.ld q31.1 q31.2).bind fun w32 =>
 (AV.asP w32).bind fun p33 =>
 (k19 [(.p p33)] r30.2).bind fun r34 =>
 (AV.asI .i64 r34.1).bind fun n35 =>
 (k32 [(.p p10)] r34.2).bind fun r36 =>
 (AV.asI .i64 r36.1).bind fun n37 =>
 (k28 [(.p p10)] r36.2).bind fun r38 =>
 (AV.asTup 0 r38.1).bind fun c39 =>
 bindS (S := List AV × AH O) (R := (AV × AH O)) (loopF (S := List AV × AH O) (T := (List AV × AH O) ⊕ (AV × AH O)) (law15_LargeSweeps_L2 l1 k29 p10 l0 k33) ([(.sl .nil 0), (.i .i64 0), (.i .i64 0)], r38.2)) fun r74 =>
 (AV.asSl (r74.1.getD 0 .u)).bind fun l75 =>
 (AV.asI .i64 (r74.1.getD 1 .u)).bind fun n76 =>
 (k34 [(.p p10)] r74.2).bind fun r77 =>
 (AV.asTup 2 r77.1).bind fun c78 =>
 (AV.asI .i64 (c78.getD 0 .u)).bind fun n79 =>
 (AV.asI .i64 (c78.getD 1 .u)).bind fun n80 =>
 (k35 [(.p p10)] r77.2).bind fun r81 =>
 (AV.asTup 2 r81.1).bind fun c82 =>
 (AV.asSl (c82.getD 0 .u)).bind fun l83 =>
 (AV.asB (c82.getD 1 .u)).bind fun b84 =>
 let v85 : Int := (IntKind.i64.wrap ((l0.2 : Int) - (l75.2 : Int)))
 ((bif (((n79 : Int) != v85) == false) then
 some ([(.b (!b84))], r81.2)
 else some ([(.b true)], r81.2)) : Option (List AV × AH O)).bind fun r86 =>
 (AV.asB (r86.1.getD 0 .u)).bind fun b87 =>
 ((bif (b87 == false) then
 (k23 [(.sl l83.1 l83.2), (.sl l75.1 l75.2)] r86.2).bind fun r88 =>
 (AV.asB r88.1).bind fun b89 =>
 some ([(.b (!b89))], r88.2)
 else some ([(.b true)], r86.2)) : Option (List AV × AH O)).bind fun r90 =>
 (AV.asB (r90.1.getD 0 .u)).bind fun b91 =>
 ((bif (b91 == false) then
 (k32 [(.p p10)] r90.2).bind fun r92 =>
 (AV.asI .i64 r92.1).bind fun n93 =>
 some ([(.b ((n93 : Int) != n76))], r92.2)
 else some ([(.b true)], r90.2)) : Option (List AV × AH O)).bind fun r94 =>
 (AV.asB (r94.1.getD 0 .u)).bind fun b95 =>
 ((bif (b95 == false) then
 Option.bind p9 fun q96 =>
 (r94.2.ld q96.1 q96.2).bind fun w97 =>
 (AV.asP w97).bind fun p98 =>
 (k19 [(.p p98)] r94.2).bind fun r99 =>
 (AV.asI .i64 r99.1).bind fun n100 =>
 let v101 : Int := (IntKind.i64.wrap ((IntKind.i64.wrap (n35 - n37)) + n76))
 some ([(.b ((n100 : Int) != v101))], r99.2)
 else some ([(.b true)], r94.2)) : Option (List AV × AH O)).bind fun r102 =>
 (AV.asB (r102.1.getD 0 .u)).bind fun b103 =>
 ((bif (b103 == false) then
 (k36 [(.sl l0.1 l0.2)] r102.2).bind fun r104 =>
 (AV.asI .i64 r104.1).bind fun n105 =>
 some ([(.b (((IntKind.i64.wrap (n80 + n76)) : Int) != n105))], r104.2)
 else some ([(.b true)], r102.2)) : Option (List AV × AH O)).bind fun r106 =>
 (AV.asB (r106.1.getD 0 .u)).bind fun b107 =>
 (bif b107 then
 some ((.b false), r106.2)
 else bindS (S := List AV × AH O) (R := (AV × AH O)) (loopF (S := List AV × AH O) (T := (List AV × AH O) ⊕ (AV × AH O)) (law15_LargeSweeps_L3 l75 l0 k37 p10 n2) ([(.i .i64 0)], r106.2)) fun r129 =>
 some ((.b true), r129.2)))))
 else none
noncomputable def law15_LargeSweeps {O : Type} : Sm O := law15_LargeSweeps_c law15_awake law15_made large_Large__Add large_Large__Write meter_Meter__Held large_Large__Words large_Large__Begin large_Large__Mark haymowref15_Has large_Large__Sweep law15_told haymowref02_Same law15_total large_Large__Read
theorem law15_LargeSweeps_ent : Entered Try.prog 5 := Try.call5
theorem law15_LargeSweeps_run {O : Type} (k24 k26 k27 k31 k19 k32 k28 k29 k33 k34 k35 k23 k36 k37 : Sm O) : run (O := O) Try.prog [(24, k24), (26, k26), (27, k27), (31, k31), (19, k19), (32, k32), (28, k28), (29, k29), (33, k33), (34, k34), (35, k35), (23, k23), (36, k36), (37, k37)] Try.f5 (.n .z (.n (.n .z (.n .z .z)) (.n (.n (.g [(3, 3, [(37, .one .b)])]) (.n .z .z)) (.n .z (.n (.n .z (.n .z .z)) (.n (.n .z (.n (.lp true 0 [(10, .one (.i .i64))] [] (.n (.n .z .z) (.n (.n (.n .z (.n (.g [(4, 2, [(69, .one .b)]), (8, 13, [(84, .one .b)])]) (.n .z .z))) .z) .z))) .z)) (.n .z (.n .z (.n .z (.n .z (.n (.n .z (.n (.lp true 2 [(14, .one .sl), (15, .one (.i .i64)), (16, .one (.i .i64))] [(14, .one .sl), (15, .one (.i .i64))] (.n (.n .z .z) (.n (.j true [(14, .one .sl), (15, .one (.i .i64))] (.n .z (.n .z (.n (.n (.g [(2, 4, [(119, .one .b)])]) (.n (.n (.n (.g [(1, 2, [(124, .one .b)])]) (.n .z .z)) .z) .z)) (.n (.n (.g [(5, 2, [(133, .one .b)])]) (.n .z .z)) (.n .z (.j false [(14, .one .sl), (15, .one (.i .i64))] .z .z)))))) .z) .z))) .z)) (.n .z (.n .z (.n (.n (.g [(7, 2, [(168, .one .b)]), (11, 4, [(174, .one .b)]), (17, 4, [(180, .one .b)]), (23, 9, [(191, .one .b)]), (34, 6, [(199, .one .b)])]) (.n .z .z)) (.n (.n .z (.n (.lp true 4 [(24, .one (.i .i64))] [] (.n (.n .z .z) (.n (.n (.n .z (.n .z (.n (.g [(10, 2, [(238, .one .b)])]) (.n .z .z)))) .z) .z))) .z)) .z))))))))))))))) = law15_LargeSweeps_c k24 k26 k27 k31 k19 k32 k28 k29 k33 k34 k35 k23 k36 k37 := by kernel_rfl
theorem law15_LargeSweeps_sound {O : Type} {RO : O → Loc → (Nat → Option Obj) → Prop} : FSound RO Try.prog 5 (law15_LargeSweeps) :=
   have h : FSound RO Try.prog 5 (law15_LargeSweeps_c law15_awake law15_made large_Large__Add large_Large__Write meter_Meter__Held large_Large__Words large_Large__Begin large_Large__Mark haymowref15_Has large_Large__Sweep law15_told haymowref02_Same law15_total large_Large__Read) := (law15_LargeSweeps_run law15_awake law15_made large_Large__Add large_Large__Write meter_Meter__Held large_Large__Words large_Large__Begin large_Large__Mark haymowref15_Has large_Large__Sweep law15_told haymowref02_Same law15_total large_Large__Read) ▸ run_sound (gcons law15_awake_ent (law15_awake_sound) <| gcons law15_made_ent (law15_made_sound) <| gcons large_Large__Add_ent (large_Large__Add_sound) <| gcons large_Large__Write_ent (large_Large__Write_sound) <| gcons meter_Meter__Held_ent (meter_Meter__Held_sound) <| gcons large_Large__Words_ent (large_Large__Words_sound) <| gcons large_Large__Begin_ent (large_Large__Begin_sound) <| gcons large_Large__Mark_ent (large_Large__Mark_sound) <| gcons haymowref15_Has_ent (haymowref15_Has_sound) <| gcons large_Large__Sweep_ent (large_Large__Sweep_sound) <| gcons law15_told_ent (law15_told_sound) <| gcons haymowref02_Same_ent (haymowref02_Same_sound) <| gcons law15_total_ent (law15_total_sound) <| gcons large_Large__Read_ent (large_Large__Read_sound) <| gnil) mixed Try.func5 (by kernel_rfl) _
   h

end Go.Abs.Try
