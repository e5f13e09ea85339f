/-
  What functions of the program do. No conditions.
-/
import Derived.Test.YtgmffmgbaelohaaAbsExtern
import Derived.Test.YtgmffmgbaelohaaProg
import Derived.KernelRfl
set_option linter.unusedVariables false
set_option linter.unusedSimpArgs false
set_option linter.constructorNameAsVariable false
set_option maxRecDepth 100000
namespace Go.Abs.Try
open Go Go.Abs Go.Proofs

theorem mixed : Try.prog.follows .mixedOrders = true := by kernel_rfl
abbrev T_int64 : Nat := 2
abbrev T_int : Nat := 3
abbrev T_bool : Nat := 4
abbrev T_uint8 : Nat := 5
abbrev T_abi_BoundsErrorCode : Nat := 6
abbrev T_runtime_boundsError : Nat := 8
abbrev T_string : Nat := 9
abbrev T_runtime_errorString : Nat := 10
abbrev T_runtime_plainError : Nat := 11
abbrev T_uintptr : Nat := 12
abbrev T_runtime_errorAddressString : Nat := 14
abbrev T_maps_unhashableTypeError : Nat := 19
abbrev T_int32 : Nat := 21
abbrev T_haymowref10_State : Nat := 31
abbrev T_haymowref18_State : Nat := 34
abbrev T_uint64 : Nat := 36
abbrev T_api_Wide : Nat := 38
abbrev T_mem_Mem : Nat := 43
abbrev T_law18_Op : Nat := 45
abbrev T_api_Errno : Nat := 46
abbrev T_ref_Ref : Nat := 49
abbrev T_haymowref18_Handle : Nat := 61
abbrev T_haymowref15_State : Nat := 91
abbrev T_law15_Op : Nat := 96
abbrev T_api_Shape : Nat := 106
abbrev T_api_Header : Nat := 115
abbrev T_meter_Kind : Nat := 127
abbrev T_chain_Chain : Nat := 130
abbrev T_handles_Handles : Nat := 132
abbrev T_chain_Table : Nat := 136
abbrev T_haymowref10_Entry : Nat := 144
abbrev T_haymowref01_Four : Nat := 155
abbrev T_meter_words : Nat := 159
abbrev T_meter_Meter : Nat := 161
abbrev T_iter_Seq_int_ : Nat := 163
abbrev T_large_Large : Nat := 168
abbrev T_store_parts : Nat := 188
abbrev T_store_Store : Nat := 190
abbrev T_ref_Kind : Nat := 195
abbrev T_pool_Pool : Nat := 204
abbrev T_uint : Nat := 210
abbrev T_mem_space : Nat := 219
abbrev T_semi_side : Nat := 228
abbrev T_semi_Semi : Nat := 230
abbrev T_field_Field : Nat := 238
abbrev T_runtime_TypeAssertionError : Nat := 252
abbrev T_runtime_PanicNilError : Nat := 255
abbrev T_uint32 : Nat := 256
abbrev T_abi_TFlag : Nat := 257
abbrev T_abi_Kind : Nat := 258
abbrev T_abi_NameOff : Nat := 261
abbrev T_abi_TypeOff : Nat := 262
abbrev T_abi_Type : Nat := 264
theorem bits_Add64_ext {O : Type} : ExternOK Try.prog 120 (bits_Add64 (O := O)) := add64_ext Try.func120 (by kernel_rfl) (by kernel_rfl) (by kernel_rfl) rfl

theorem bits_Sub64_ext {O : Type} : ExternOK Try.prog 134 (bits_Sub64 (O := O)) := sub64_ext Try.func134 (by kernel_rfl) (by kernel_rfl) (by kernel_rfl) rfl

/-- haymow/meter.New -/
noncomputable def meter_New_c {O : Type} : Sm O := fun xs σ =>
 bif Nat.beq xs.length 0 then
 let σ0 := σ.bump 1
 let σ1 := σ0.put σ.next (.cells true 161 [(.i .u64 0), (.i .u64 0), (.i .u64 0), (.i .u64 0), (.i .i64 0), (.i .i64 0)])
 some ((.p (some ((.n σ.next), 0))), σ1)
 else none
noncomputable def meter_New {O : Type} : Sm O := meter_New_c
theorem meter_New_ent : Entered Try.prog 119 := Try.call119
theorem meter_New_run {O : Type} : run (O := O) Try.prog [] Try.f119 (.n .z .z) = meter_New_c  := by kernel_rfl
theorem meter_New_sound {O : Type} {RO : O → Loc → (Nat → Option Obj) → Prop} : FSound RO Try.prog 119 (meter_New) :=
   have h : FSound RO Try.prog 119 (meter_New_c) := (meter_New_run) ▸ run_sound (gnil) mixed Try.func119 (by kernel_rfl) _
   h

/-- haymow/mem.New -/
noncomputable def mem_New_c {O : Type} (k119 : Sm O) : Sm O := fun xs σ =>
 bif Nat.beq xs.length 0 then
 let σ0 := σ.bump 1
 (k119 [] σ0).bind fun r1 =>
 (AV.asP r1.1).bind fun p2 =>
 let σ3 := r1.2.put σ.next (.cells true 43 [(.p p2), (.sl .nil 0), (.i .i64 0), (.i .i64 0)])
 some ((.p (some ((.n σ.next), 0))), σ3)
 else none
noncomputable def mem_New {O : Type} : Sm O := mem_New_c meter_New
theorem mem_New_ent : Entered Try.prog 56 := Try.call56
theorem mem_New_run {O : Type} (k119 : Sm O) : run (O := O) Try.prog [(119, k119)] Try.f56 (.n .z .z) = mem_New_c k119 := by kernel_rfl
theorem mem_New_sound {O : Type} {RO : O → Loc → (Nat → Option Obj) → Prop} : FSound RO Try.prog 56 (mem_New) :=
   have h : FSound RO Try.prog 56 (mem_New_c meter_New) := (mem_New_run meter_New) ▸ run_sound (gcons meter_New_ent (meter_New_sound) <| gnil) mixed Try.func56 (by kernel_rfl) _
   h

/-- (*haymow/meter.words).open -/
noncomputable def meter_words__open_c {O : Type} : Sm O := fun xs σ =>
 bif Nat.beq xs.length 2 then
 (AV.asP (xs.getD 0 .u)).bind fun p0 =>
 (AV.asI .i64 (xs.getD 1 .u)).bind fun n1 =>
 Option.bind p0 fun q2 =>
 (σ.ld q2.1 q2.2).bind fun w3 =>
 (AV.asI .i64 w3).bind fun n4 =>
 Option.bind p0 fun q5 =>
 (σ.st q5.1 q5.2 [(.i .i64 (IntKind.i64.wrap (n4 + n1)))]).bind fun σ6 =>
 Option.bind p0 fun q7 =>
 (σ6.ld q7.1 (q7.2 + 1)).bind fun w8 =>
 (AV.asI .i64 w8).bind fun n9 =>
 Option.bind p0 fun q10 =>
 (σ6.ld q10.1 q10.2).bind fun w11 =>
 (AV.asI .i64 w11).bind fun n12 =>
 Option.bind p0 fun q13 =>
 (σ6.st q13.1 (q13.2 + 1) [(.i .i64 (if n12 > n9 then n12 else n9))]).bind fun σ14 =>
 some ((.tup []), σ14)
 else none
noncomputable def meter_words__open {O : Type} : Sm O := meter_words__open_c
theorem meter_words__open_ent : Entered Try.prog 160 := Try.call160
theorem meter_words__open_run {O : Type} : run (O := O) Try.prog [] Try.f160 (.n .z (.d [] [0, 1, 2, 3, 4, 5, 6, 7, 8, 9, 10, 11, 12] [0, 0, 2, 6, 14, 0, 32, 96, 224, 510, 1023, 2047, 4095])) = meter_words__open_c  := by kernel_rfl
theorem meter_words__open_sound {O : Type} {RO : O → Loc → (Nat → Option Obj) → Prop} : FSound RO Try.prog 160 (meter_words__open) :=
   have h : FSound RO Try.prog 160 (meter_words__open_c) := (meter_words__open_run) ▸ run_sound (gnil) mixed Try.func160 (by kernel_rfl) _
   h

/-- (*haymow/meter.Meter).Hold -/
noncomputable def meter_Meter__Hold_c {O : Type} (k160 : Sm O) : Sm O := fun xs σ =>
 bif Nat.beq xs.length 2 then
 (AV.asP (xs.getD 0 .u)).bind fun p0 =>
 (AV.asI .i64 (xs.getD 1 .u)).bind fun n1 =>
 ((bif ((Option.isNone p0) == false) then
 some ([(.b (decide (n1 < 0)))], σ)
 else some ([(.b true)], σ)) : Option (List AV × AH O)).bind fun r2 =>
 (AV.asB (r2.1.getD 0 .u)).bind fun b3 =>
 (bif b3 then
 some ((.i .i64 1), r2.2)
 else Option.bind p0 fun q4 =>
 (r2.2.ld q4.1 (q4.2 + 4)).bind fun w5 =>
 (AV.asI .i64 w5).bind fun n6 =>
 let c7 : Bool := (decide (n1 > (IntKind.i64.wrap (281474976710656 - n6))))
 (bif c7 then
 some ((.i .i64 3), r2.2)
 else Option.bind p0 fun q8 =>
 (k160 [(.p (some (q8.1, (q8.2 + 4)))), (.i .i64 n1)] r2.2).bind fun r9 =>
 (AV.asTup 0 r9.1).bind fun c10 =>
 some ((.i .i64 0), r9.2)))
 else none
noncomputable def meter_Meter__Hold {O : Type} : Sm O := meter_Meter__Hold_c meter_words__open
theorem meter_Meter__Hold_ent : Entered Try.prog 137 := Try.call137
theorem meter_Meter__Hold_run {O : Type} (k160 : Sm O) : run (O := O) Try.prog [(160, k160)] Try.f137 (.n .z (.n (.n (.n (.g [(2, 2, [(11, .one .b)])]) (.n .z (.n .z (.n .z .z)))) .z) (.n .z .z))) = meter_Meter__Hold_c k160 := by kernel_rfl
theorem meter_Meter__Hold_sound {O : Type} {RO : O → Loc → (Nat → Option Obj) → Prop} : FSound RO Try.prog 137 (meter_Meter__Hold) :=
   have h : FSound RO Try.prog 137 (meter_Meter__Hold_c meter_words__open) := (meter_Meter__Hold_run meter_words__open) ▸ run_sound (gcons meter_words__open_ent (meter_words__open_sound) <| gnil) mixed Try.func137 (by kernel_rfl) _
   h

/-- (*haymow/mem.Mem).Open -/
noncomputable def mem_Mem__Open_L1 {O : Type} (p0 : Option (Bid × Nat)) : List AV × AH O → Option ((List AV × AH O) ⊕ (List AV × AH O)) := (fun r8 =>
 (AV.asI .i64 (r8.1.getD 0 .u)).bind fun n9 =>
 Option.bind p0 fun q10 =>
 (r8.2.ld q10.1 (q10.2 + 1)).bind fun w11 =>
 (AV.asSl w11).bind fun l12 =>
 ((bif ((decide (n9 < (l12.2 : Int))) == true) then
 Option.bind p0 fun q13 =>
 (r8.2.ld q13.1 (q13.2 + 1)).bind fun w14 =>
 (AV.asSl w14).bind fun l15 =>
 (bif ((decide ((0 : Int) ≤ n9)) && (decide (n9 < (l15.2 : Int)))) then
 (SA.ref l15.1).bind fun q16 =>
 (r8.2.ld q16.1 ((q16.2 + (n9.toNat * 2)) + 1)).bind fun w17 =>
 (AV.asB w17).bind fun b18 =>
 some ([(.b b18)], r8.2)
 else none)
 else some ([(.b false)], r8.2)) : Option (List AV × AH O)).bind fun r19 =>
 (AV.asB (r19.1.getD 0 .u)).bind fun b20 =>
 (bif b20 then
 some (Sum.inl ([(.i .i64 (IntKind.i64.wrap (n9 + 1)))], r19.2))
 else some (Sum.inr ([(.i .i64 n9)], r19.2))))
noncomputable def mem_Mem__Open_c {O : Type} (k137 : Sm O) : Sm O := fun xs σ =>
 bif Nat.beq xs.length 2 then
 (AV.asP (xs.getD 0 .u)).bind fun p0 =>
 (AV.asI .i64 (xs.getD 1 .u)).bind fun n1 =>
 (bif (decide (n1 < 0)) then
 some ((.tup [(.i .i64 0), (.i .i64 1)]), σ)
 else (bif (decide (n1 > 4194304)) then
 some ((.tup [(.i .i64 0), (.i .i64 7)]), σ)
 else Option.bind p0 fun q2 =>
 (σ.ld q2.1 (q2.2 + 3)).bind fun w3 =>
 (AV.asI .i64 w3).bind fun n4 =>
 (bif (decide (n4 ≥ 262144)) then
 some ((.tup [(.i .i64 0), (.i .i64 3)]), σ)
 else Option.bind p0 fun q5 =>
 (σ.ld q5.1 (q5.2 + 2)).bind fun w6 =>
 (AV.asI .i64 w6).bind fun n7 =>
 (loopF (S := List AV × AH O) (T := List AV × AH O) (mem_Mem__Open_L1 p0) ([(.i .i64 n7)], σ)).bind fun r21 =>
 (AV.asI .i64 (r21.1.getD 0 .u)).bind fun n22 =>
 Option.bind p0 fun q23 =>
 (r21.2.ld q23.1 (q23.2 + 1)).bind fun w24 =>
 (AV.asSl w24).bind fun l25 =>
 ((bif ((n22 : Int) == (l25.2 : Int)) then
 let σ26 := r21.2.bump 2
 Option.bind p0 fun q27 =>
 (σ26.ld q27.1 (q27.2 + 1)).bind fun w28 =>
 (AV.asSl w28).bind fun l29 =>
 let σ30 := σ26.put r21.2.next (.cells true 219 [(.sl .nil 0), (.b false)])
 (σ30.rdSl (.loc (.n r21.2.next) 0 2) 1 2).bind fun new31 =>
 (bif (Nat.ble ((l29.2 + 1) * 33) 35184372088832) then
 (σ30.appSl (r21.2.next + 1) 219 2 l29.1 l29.2 1 new31).bind fun r32 =>
 (AV.asSl r32.1).bind fun l33 =>
 Option.bind p0 fun q34 =>
 (r32.2.st q34.1 (q34.2 + 1) [(.sl l33.1 l33.2)]).bind fun σ35 =>
 some ([], σ35)
 else none)
 else some ([], r21.2)) : Option (List AV × AH O)).bind fun r36 =>
 let σ37 := r36.2.bump 1
 Option.bind p0 fun q38 =>
 (σ37.ld q38.1 (q38.2 + 1)).bind fun w39 =>
 (AV.asSl w39).bind fun l40 =>
 (bif ((((decide ((0 : Int) ≤ n1)) && (decide (n1 ≤ n1))) && (decide ((n1 * 8) ≤ 140737488355328))) && (decide (n1 ≤ 140737488355328))) then
 let σ41 := σ37.put r36.2.next (.cells true 36 ((List.replicate n1.toNat [(.i .u64 0)]).flatten))
 (bif ((decide ((0 : Int) ≤ n22)) && (decide (n22 < (l40.2 : Int)))) then
 (SA.ref l40.1).bind fun q42 =>
 (σ41.st q42.1 (q42.2 + (n22.toNat * 2)) [(.sl (.loc (.n r36.2.next) 0 1) n1.toNat), (.b true)]).bind fun σ43 =>
 Option.bind p0 fun q44 =>
 (σ43.ld q44.1 (q44.2 + 3)).bind fun w45 =>
 (AV.asI .i64 w45).bind fun n46 =>
 Option.bind p0 fun q47 =>
 (σ43.st q47.1 (q47.2 + 2) [(.i .i64 (IntKind.i64.wrap (n22 + 1)))]).bind fun σ48 =>
 Option.bind p0 fun q49 =>
 (σ48.st q49.1 (q49.2 + 3) [(.i .i64 (IntKind.i64.wrap (n46 + 1)))]).bind fun σ50 =>
 Option.bind p0 fun q51 =>
 (σ50.ld q51.1 q51.2).bind fun w52 =>
 (AV.asP w52).bind fun p53 =>
 (k137 [(.p p53), (.i .i64 n1)] σ50).bind fun r54 =>
 (AV.asI .i64 r54.1).bind fun n55 =>
 some ((.tup [(.i .i64 n22), (.i .i64 0)]), r54.2)
 else none)
 else none))))
 else none
noncomputable def mem_Mem__Open {O : Type} : Sm O := mem_Mem__Open_c meter_Meter__Hold
theorem mem_Mem__Open_ent : Entered Try.prog 82 := Try.call82
theorem mem_Mem__Open_run {O : Type} (k137 : Sm O) : run (O := O) Try.prog [(137, k137)] Try.f82 (.n .z (.n (.n (.n .z (.n .z (.n .z (.n .z (.n .z (.n .z .z)))))) .z) (.n .z (.n (.n (.lp false 1 [(6, .one (.i .i64))] [(6, .one (.i .i64))] (.n (.n (.g [(7, 8, [(39, .one .b)])]) .z) .z)) .z) (.n (.n .z (.j false [] .z .z)) (.n (.d [] [0, 1, 2, 3, 4, 5, 6, 7, 8, 9] [0, 1, 3, 7, 0, 0, 32, 96, 255, 511]) (.n .z (.n .z .z)))))))) = mem_Mem__Open_c k137 := by kernel_rfl
theorem mem_Mem__Open_sound {O : Type} {RO : O → Loc → (Nat → Option Obj) → Prop} : FSound RO Try.prog 82 (mem_Mem__Open) :=
   have h : FSound RO Try.prog 82 (mem_Mem__Open_c meter_Meter__Hold) := (mem_Mem__Open_run meter_Meter__Hold) ▸ run_sound (gcons meter_Meter__Hold_ent (meter_Meter__Hold_sound) <| gnil) mixed Try.func82 (by kernel_rfl) _
   h

/-- haymow/pool.New -/
noncomputable def pool_New_c {O : Type} (k82 : Sm O) : Sm O := fun xs σ =>
 bif Nat.beq xs.length 2 then
 (AV.asP (xs.getD 0 .u)).bind fun p0 =>
 (AV.asI .i64 (xs.getD 1 .u)).bind fun n1 =>
 ((bif ((Option.isNone p0) == false) then
 some ([(.b (decide (n1 < 1)))], σ)
 else some ([(.b true)], σ)) : Option (List AV × AH O)).bind fun r2 =>
 (AV.asB (r2.1.getD 0 .u)).bind fun b3 =>
 ((bif (b3 == false) then
 some ([(.b (decide (n1 > 60)))], r2.2)
 else some ([(.b true)], r2.2)) : Option (List AV × AH O)).bind fun r4 =>
 (AV.asB (r4.1.getD 0 .u)).bind fun b5 =>
 (bif b5 then
 some ((.tup [(.p none), (.i .i64 1)]), r4.2)
 else (k82 [(.p p0), (.i .i64 0)] r4.2).bind fun r6 =>
 (AV.asTup 2 r6.1).bind fun c7 =>
 (AV.asI .i64 (c7.getD 0 .u)).bind fun n8 =>
 (AV.asI .i64 (c7.getD 1 .u)).bind fun n9 =>
 (bif ((n9 : Int) != 0) then
 some ((.tup [(.p none), (.i .i64 n9)]), r6.2)
 else let σ10 := r6.2.bump 1
 let σ11 := σ10.put r6.2.next (.cells true 204 [(.p p0), (.i .i64 n8), (.i .i64 n1), (.i .i64 0), (.i .i64 0), (.i .i64 0), (.i .i64 0)])
 some ((.tup [(.p (some ((.n r6.2.next), 0))), (.i .i64 0)]), σ11)))
 else none
noncomputable def pool_New {O : Type} : Sm O := pool_New_c mem_Mem__Open
theorem pool_New_ent : Entered Try.prog 81 := Try.call81
theorem pool_New_run {O : Type} (k82 : Sm O) : run (O := O) Try.prog [(82, k82)] Try.f81 (.n .z (.n (.n (.g [(2, 2, [(13, .one .b)]), (6, 2, [(17, .one .b)])]) (.n .z .z)) (.n .z (.n (.n .z (.n .z .z)) .z)))) = pool_New_c k82 := by kernel_rfl
theorem pool_New_sound {O : Type} {RO : O → Loc → (Nat → Option Obj) → Prop} : FSound RO Try.prog 81 (pool_New) :=
   have h : FSound RO Try.prog 81 (pool_New_c mem_Mem__Open) := (pool_New_run mem_Mem__Open) ▸ run_sound (gcons mem_Mem__Open_ent (mem_Mem__Open_sound) <| gnil) mixed Try.func81 (by kernel_rfl) _
   h

/-- haymow/handles.New -/
noncomputable def handles_New_c {O : Type} (k81 : Sm O) : Sm O := fun xs σ =>
 bif Nat.beq xs.length 1 then
 (AV.asP (xs.getD 0 .u)).bind fun p0 =>
 (k81 [(.p p0), (.i .i64 3)] σ).bind fun r1 =>
 (AV.asTup 2 r1.1).bind fun c2 =>
 (AV.asP (c2.getD 0 .u)).bind fun p3 =>
 (AV.asI .i64 (c2.getD 1 .u)).bind fun n4 =>
 (bif ((n4 : Int) != 0) then
 some ((.tup [(.p none), (.i .i64 n4)]), r1.2)
 else let σ5 := r1.2.bump 1
 let σ6 := σ5.put r1.2.next (.cells true 132 [(.p p3), (.i .i64 0), (.i .i64 0), (.i .i64 0)])
 some ((.tup [(.p (some ((.n r1.2.next), 0))), (.i .i64 0)]), σ6))
 else none
noncomputable def handles_New {O : Type} : Sm O := handles_New_c pool_New
theorem handles_New_ent : Entered Try.prog 57 := Try.call57
theorem handles_New_run {O : Type} (k81 : Sm O) : run (O := O) Try.prog [(81, k81)] Try.f57 (.n .z (.n .z (.n (.n .z (.n .z .z)) .z))) = handles_New_c k81 := by kernel_rfl
theorem handles_New_sound {O : Type} {RO : O → Loc → (Nat → Option Obj) → Prop} : FSound RO Try.prog 57 (handles_New) :=
   have h : FSound RO Try.prog 57 (handles_New_c pool_New) := (handles_New_run pool_New) ▸ run_sound (gcons pool_New_ent (pool_New_sound) <| gnil) mixed Try.func57 (by kernel_rfl) _
   h

/-- haymow/haymowlaw18.made -/
noncomputable def law18_made_c {O : Type} (k56 k57 : Sm O) : Sm O := fun xs σ =>
 bif Nat.beq xs.length 0 then
 (k56 [] σ).bind fun r0 =>
 (AV.asP r0.1).bind fun p1 =>
 (bif (Option.isNone p1) then
 some ((.tup [(.p none), (.p none), (.b false)]), r0.2)
 else (k57 [(.p p1)] r0.2).bind fun r2 =>
 (AV.asTup 2 r2.1).bind fun c3 =>
 (AV.asP (c3.getD 0 .u)).bind fun p4 =>
 (AV.asI .i64 (c3.getD 1 .u)).bind fun n5 =>
 ((bif ((!(Option.isNone p4)) == true) then
 some ([(.b ((n5 : Int) == 0))], r2.2)
 else some ([(.b false)], r2.2)) : Option (List AV × AH O)).bind fun r6 =>
 (AV.asB (r6.1.getD 0 .u)).bind fun b7 =>
 some ((.tup [(.p p1), (.p p4), (.b b7)]), r6.2))
 else none
noncomputable def law18_made {O : Type} : Sm O := law18_made_c mem_New handles_New
theorem law18_made_ent : Entered Try.prog 10 := Try.call10
theorem law18_made_run {O : Type} (k56 k57 : Sm O) : run (O := O) Try.prog [(56, k56), (57, k57)] Try.f10 (.n .z (.n .z (.n (.n .z (.n .z .z)) (.n .z (.n (.g [(4, 2, [(21, .one .b)])]) .z))))) = law18_made_c k56 k57 := by kernel_rfl
theorem law18_made_sound {O : Type} {RO : O → Loc → (Nat → Option Obj) → Prop} : FSound RO Try.prog 10 (law18_made) :=
   have h : FSound RO Try.prog 10 (law18_made_c mem_New handles_New) := (law18_made_run mem_New handles_New) ▸ run_sound (gcons mem_New_ent (mem_New_sound) <| gcons handles_New_ent (handles_New_sound) <| gnil) mixed Try.func10 (by kernel_rfl) _
   h

/-- (*haymow/pool.Pool).width -/
noncomputable def pool_Pool__width_c {O : Type} : Sm O := fun xs σ =>
 bif Nat.beq xs.length 1 then
 (AV.asP (xs.getD 0 .u)).bind fun p0 =>
 Option.bind p0 fun q1 =>
 (σ.ld q1.1 (q1.2 + 2)).bind fun w2 =>
 (AV.asI .i64 w2).bind fun n3 =>
 some ((.i .i64 (IntKind.i64.wrap (n3 + 1))), σ)
 else none
noncomputable def pool_Pool__width {O : Type} : Sm O := pool_Pool__width_c
theorem pool_Pool__width_ent : Entered Try.prog 155 := Try.call155
theorem pool_Pool__width_run {O : Type} : run (O := O) Try.prog [] Try.f155 (.n .z .z) = pool_Pool__width_c  := by kernel_rfl
theorem pool_Pool__width_sound {O : Type} {RO : O → Loc → (Nat → Option Obj) → Prop} : FSound RO Try.prog 155 (pool_Pool__width) :=
   have h : FSound RO Try.prog 155 (pool_Pool__width_c) := (pool_Pool__width_run) ▸ run_sound (gnil) mixed Try.func155 (by kernel_rfl) _
   h

/-- (*haymow/mem.Mem).at -/
noncomputable def mem_Mem__at_c {O : Type} : Sm O := fun xs σ =>
 bif Nat.beq xs.length 2 then
 (AV.asP (xs.getD 0 .u)).bind fun p0 =>
 (AV.asI .i64 (xs.getD 1 .u)).bind fun n1 =>
 ((bif ((decide (n1 < 0)) == false) then
 Option.bind p0 fun q2 =>
 (σ.ld q2.1 (q2.2 + 1)).bind fun w3 =>
 (AV.asSl w3).bind fun l4 =>
 some ([(.b (decide (n1 ≥ (l4.2 : Int))))], σ)
 else some ([(.b true)], σ)) : Option (List AV × AH O)).bind fun r5 =>
 (AV.asB (r5.1.getD 0 .u)).bind fun b6 =>
 ((bif (b6 == false) then
 Option.bind p0 fun q7 =>
 (r5.2.ld q7.1 (q7.2 + 1)).bind fun w8 =>
 (AV.asSl w8).bind fun l9 =>
 (bif ((decide ((0 : Int) ≤ n1)) && (decide (n1 < (l9.2 : Int)))) then
 (SA.ref l9.1).bind fun q10 =>
 (r5.2.ld q10.1 ((q10.2 + (n1.toNat * 2)) + 1)).bind fun w11 =>
 (AV.asB w11).bind fun b12 =>
 some ([(.b (!b12))], r5.2)
 else none)
 else some ([(.b true)], r5.2)) : Option (List AV × AH O)).bind fun r13 =>
 (AV.asB (r13.1.getD 0 .u)).bind fun b14 =>
 (bif b14 then
 some ((.p none), r13.2)
 else Option.bind p0 fun q15 =>
 (r13.2.ld q15.1 (q15.2 + 1)).bind fun w16 =>
 (AV.asSl w16).bind fun l17 =>
 (bif ((decide ((0 : Int) ≤ n1)) && (decide (n1 < (l17.2 : Int)))) then
 (SA.ref l17.1).bind fun q18 =>
 some ((.p (some (q18.1, (q18.2 + (n1.toNat * 2))))), r13.2)
 else none))
 else none
noncomputable def mem_Mem__at {O : Type} : Sm O := mem_Mem__at_c
theorem mem_Mem__at_ent : Entered Try.prog 138 := Try.call138
theorem mem_Mem__at_run {O : Type} : run (O := O) Try.prog [] Try.f138 (.n .z (.n (.n (.g [(2, 7, [(15, .one .b)]), (11, 9, [(26, .one .b)])]) (.n .z .z)) .z)) = mem_Mem__at_c  := by kernel_rfl
theorem mem_Mem__at_sound {O : Type} {RO : O → Loc → (Nat → Option Obj) → Prop} : FSound RO Try.prog 138 (mem_Mem__at) :=
   have h : FSound RO Try.prog 138 (mem_Mem__at_c) := (mem_Mem__at_run) ▸ run_sound (gnil) mixed Try.func138 (by kernel_rfl) _
   h

/-- (*haymow/mem.Mem).Grow -/
noncomputable def mem_Mem__Grow_c {O : Type} (k138 k137 : Sm O) : Sm O := fun xs σ =>
 bif Nat.beq xs.length 3 then
 (AV.asP (xs.getD 0 .u)).bind fun p0 =>
 (AV.asI .i64 (xs.getD 1 .u)).bind fun n1 =>
 (AV.asI .i64 (xs.getD 2 .u)).bind fun n2 =>
 (k138 [(.p p0), (.i .i64 n1)] σ).bind fun r3 =>
 (AV.asP r3.1).bind fun p4 =>
 (bif (Option.isNone p4) then
 some ((.i .i64 10), r3.2)
 else Option.bind p4 fun q5 =>
 (r3.2.ld q5.1 q5.2).bind fun w6 =>
 (AV.asSl w6).bind fun l7 =>
 (bif (decide (n2 < (l7.2 : Int))) then
 some ((.i .i64 1), r3.2)
 else (bif (decide (n2 > 4194304)) then
 some ((.i .i64 7), r3.2)
 else Option.bind p0 fun q8 =>
 (r3.2.ld q8.1 q8.2).bind fun w9 =>
 (AV.asP w9).bind fun p10 =>
 Option.bind p4 fun q11 =>
 (r3.2.ld q11.1 q11.2).bind fun w12 =>
 (AV.asSl w12).bind fun l13 =>
 (k137 [(.p p10), (.i .i64 (IntKind.i64.wrap (n2 - (l13.2 : Int))))] r3.2).bind fun r14 =>
 (AV.asI .i64 r14.1).bind fun n15 =>
 let σ16 := r14.2.bump 1
 (bif ((((decide ((0 : Int) ≤ n2)) && (decide (n2 ≤ n2))) && (decide ((n2 * 8) ≤ 140737488355328))) && (decide (n2 ≤ 140737488355328))) then
 let σ17 := σ16.put r14.2.next (.cells true 36 ((List.replicate n2.toNat [(.i .u64 0)]).flatten))
 Option.bind p4 fun q18 =>
 (σ17.ld q18.1 q18.2).bind fun w19 =>
 (AV.asSl w19).bind fun l20 =>
 (bif Nat.beq (min l20.2 n2.toNat) 0 then
 Option.bind p4 fun q24 =>
 (σ17.st q24.1 q24.2 [(.sl (.loc (.n r14.2.next) 0 1) n2.toNat)]).bind fun σ25 =>
 some ((.i .i64 0), σ25)
 else
 (σ17.rdSl l20.1 (min l20.2 n2.toNat) 1).bind fun c22 =>
 (σ17.wrSl (.loc (.n r14.2.next) 0 1) c22).bind fun σ23 =>
 Option.bind p4 fun q26 =>
 (σ23.st q26.1 q26.2 [(.sl (.loc (.n r14.2.next) 0 1) n2.toNat)]).bind fun σ27 =>
 some ((.i .i64 0), σ27))
 else none))))
 else none
noncomputable def mem_Mem__Grow {O : Type} : Sm O := mem_Mem__Grow_c mem_Mem__at meter_Meter__Hold
theorem mem_Mem__Grow_ent : Entered Try.prog 154 := Try.call154
theorem mem_Mem__Grow_run {O : Type} (k138 k137 : Sm O) : run (O := O) Try.prog [(138, k138), (137, k137)] Try.f154 (.n .z (.n .z (.n (.n (.n .z (.n .z (.n .z (.n .z (.n .z (.n .z .z)))))) .z) (.n (.d [] [0, 1, 2, 3, 4, 5, 6, 7, 8, 9, 10, 11] [0, 1, 3, 7, 0, 0, 32, 96, 224, 480, 1008, 2047]) (.n .z (.n .z (.n .z .z))))))) = mem_Mem__Grow_c k138 k137 := by kernel_rfl
theorem mem_Mem__Grow_sound {O : Type} {RO : O → Loc → (Nat → Option Obj) → Prop} : FSound RO Try.prog 154 (mem_Mem__Grow) :=
   have h : FSound RO Try.prog 154 (mem_Mem__Grow_c mem_Mem__at meter_Meter__Hold) := (mem_Mem__Grow_run mem_Mem__at meter_Meter__Hold) ▸ run_sound (gcons mem_Mem__at_ent (mem_Mem__at_sound) <| gcons meter_Meter__Hold_ent (meter_Meter__Hold_sound) <| gnil) mixed Try.func154 (by kernel_rfl) _
   h

/-- (*haymow/pool.Pool).grow -/
noncomputable def pool_Pool__grow_c {O : Type} (k155 k154 : Sm O) : Sm O := fun xs σ =>
 bif Nat.beq xs.length 1 then
 (AV.asP (xs.getD 0 .u)).bind fun p0 =>
 Option.bind p0 fun q1 =>
 (σ.ld q1.1 (q1.2 + 3)).bind fun w2 =>
 (AV.asI .i64 w2).bind fun n3 =>
 (bif (decide (n3 ≥ 1048576)) then
 some ((.i .i64 3), σ)
 else Option.bind p0 fun q4 =>
 (σ.ld q4.1 (q4.2 + 3)).bind fun w5 =>
 (AV.asI .i64 w5).bind fun n6 =>
 Option.bind p0 fun q7 =>
 (σ.ld q7.1 (q7.2 + 4)).bind fun w8 =>
 (AV.asI .i64 w8).bind fun n9 =>
 (bif (decide (n6 < n9)) then
 some ((.i .i64 0), σ)
 else Option.bind p0 fun q10 =>
 (σ.ld q10.1 (q10.2 + 4)).bind fun w11 =>
 (AV.asI .i64 w11).bind fun n12 =>
 let v13 : Int := (if (IntKind.i64.wrap (2 * n12)) > 8 then (IntKind.i64.wrap (2 * n12)) else 8)
 Option.bind p0 fun q14 =>
 (σ.ld q14.1 q14.2).bind fun w15 =>
 (AV.asP w15).bind fun p16 =>
 Option.bind p0 fun q17 =>
 (σ.ld q17.1 (q17.2 + 1)).bind fun w18 =>
 (AV.asI .i64 w18).bind fun n19 =>
 (k155 [(.p p0)] σ).bind fun r20 =>
 (AV.asI .i64 r20.1).bind fun n21 =>
 (chkE (r20.2.ld q14.1 q14.2) (some (.p p16))).bind fun _ =>
 (chkE (r20.2.ld q17.1 (q17.2 + 1)) (some (.i .i64 n19))).bind fun _ =>
 (k154 [(.p p16), (.i .i64 n19), (.i .i64 (IntKind.i64.wrap (v13 * n21)))] r20.2).bind fun r22 =>
 (AV.asI .i64 r22.1).bind fun n23 =>
 (bif ((n23 : Int) != 0) then
 some ((.i .i64 3), r22.2)
 else Option.bind p0 fun q24 =>
 (r22.2.st q24.1 (q24.2 + 4) [(.i .i64 v13)]).bind fun σ25 =>
 some ((.i .i64 0), σ25))))
 else none
noncomputable def pool_Pool__grow {O : Type} : Sm O := pool_Pool__grow_c pool_Pool__width mem_Mem__Grow
theorem pool_Pool__grow_ent : Entered Try.prog 122 := Try.call122
theorem pool_Pool__grow_run {O : Type} (k155 k154 : Sm O) : run (O := O) Try.prog [(155, k155), (154, k154)] Try.f122 (.n .z (.n (.n (.n .z (.n .z (.n (.d [] [0, 1, 2, 3, 4, 5, 6, 7, 8, 9] [0, 1, 3, 7, 0, 16, 48, 112, 255, 511]) (.n .z .z)))) .z) (.n .z (.n (.n (.d [] [0, 1, 2, 3, 4, 5, 6, 7, 8, 9, 10, 11, 12, 13] [0, 1, 3, 7, 0, 16, 48, 112, 0, 0, 512, 1792, 4095, 8191]) (.n .z (.n .z .z))) (.n .z .z))))) = pool_Pool__grow_c k155 k154 := by kernel_rfl
theorem pool_Pool__grow_sound {O : Type} {RO : O → Loc → (Nat → Option Obj) → Prop} : FSound RO Try.prog 122 (pool_Pool__grow) :=
   have h : FSound RO Try.prog 122 (pool_Pool__grow_c pool_Pool__width mem_Mem__Grow) := (pool_Pool__grow_run pool_Pool__width mem_Mem__Grow) ▸ run_sound (gcons pool_Pool__width_ent (pool_Pool__width_sound) <| gcons mem_Mem__Grow_ent (mem_Mem__Grow_sound) <| gnil) mixed Try.func122 (by kernel_rfl) _
   h

/-- (*haymow/pool.Pool).at -/
noncomputable def pool_Pool__at_c {O : Type} (k155 : Sm O) : Sm O := fun xs σ =>
 bif Nat.beq xs.length 3 then
 (AV.asP (xs.getD 0 .u)).bind fun p0 =>
 (AV.asI .i64 (xs.getD 1 .u)).bind fun n1 =>
 (AV.asI .i64 (xs.getD 2 .u)).bind fun n2 =>
 (k155 [(.p p0)] σ).bind fun r3 =>
 (AV.asI .i64 r3.1).bind fun n4 =>
 let v5 : Int := (IntKind.i64.wrap ((IntKind.i64.wrap (n1 - 1)) * n4))
 let v6 : Int := (IntKind.i64.wrap ((IntKind.i64.wrap (v5 + 1)) + n2))
 some ((.i .i64 v6), r3.2)
 else none
noncomputable def pool_Pool__at {O : Type} : Sm O := pool_Pool__at_c pool_Pool__width
theorem pool_Pool__at_ent : Entered Try.prog 123 := Try.call123
theorem pool_Pool__at_run {O : Type} (k155 : Sm O) : run (O := O) Try.prog [(155, k155)] Try.f123 (.n .z .z) = pool_Pool__at_c k155 := by kernel_rfl
theorem pool_Pool__at_sound {O : Type} {RO : O → Loc → (Nat → Option Obj) → Prop} : FSound RO Try.prog 123 (pool_Pool__at) :=
   have h : FSound RO Try.prog 123 (pool_Pool__at_c pool_Pool__width) := (pool_Pool__at_run pool_Pool__width) ▸ run_sound (gcons pool_Pool__width_ent (pool_Pool__width_sound) <| gnil) mixed Try.func123 (by kernel_rfl) _
   h

/-- (*haymow/mem.Mem).within -/
noncomputable def mem_Mem__within_c {O : Type} (k138 : Sm O) : Sm O := fun xs σ =>
 bif Nat.beq xs.length 4 then
 (AV.asP (xs.getD 0 .u)).bind fun p0 =>
 (AV.asI .i64 (xs.getD 1 .u)).bind fun n1 =>
 (AV.asI .i64 (xs.getD 2 .u)).bind fun n2 =>
 (AV.asI .i64 (xs.getD 3 .u)).bind fun n3 =>
 (k138 [(.p p0), (.i .i64 n1)] σ).bind fun r4 =>
 (AV.asP r4.1).bind fun p5 =>
 (bif (Option.isNone p5) then
 some ((.tup [(.sl .nil 0), (.i .i64 10)]), r4.2)
 else ((bif ((decide (n3 < 0)) == false) then
 some ([(.b (decide (n2 < 0)))], r4.2)
 else some ([(.b true)], r4.2)) : Option (List AV × AH O)).bind fun r6 =>
 (AV.asB (r6.1.getD 0 .u)).bind fun b7 =>
 ((bif (b7 == false) then
 Option.bind p5 fun q8 =>
 (r6.2.ld q8.1 q8.2).bind fun w9 =>
 (AV.asSl w9).bind fun l10 =>
 some ([(.b (decide (n2 > (l10.2 : Int))))], r6.2)
 else some ([(.b true)], r6.2)) : Option (List AV × AH O)).bind fun r11 =>
 (AV.asB (r11.1.getD 0 .u)).bind fun b12 =>
 ((bif (b12 == false) then
 Option.bind p5 fun q13 =>
 (r11.2.ld q13.1 q13.2).bind fun w14 =>
 (AV.asSl w14).bind fun l15 =>
 let c16 : Bool := (decide (n3 > (IntKind.i64.wrap ((l15.2 : Int) - n2))))
 some ([(.b c16)], r11.2)
 else some ([(.b true)], r11.2)) : Option (List AV × AH O)).bind fun r17 =>
 (AV.asB (r17.1.getD 0 .u)).bind fun b18 =>
 (bif b18 then
 some ((.tup [(.sl .nil 0), (.i .i64 11)]), r17.2)
 else Option.bind p5 fun q19 =>
 (r17.2.ld q19.1 q19.2).bind fun w20 =>
 (AV.asSl w20).bind fun l21 =>
 (bif (((decide ((0 : Int) ≤ n2)) && (decide (n2 ≤ (IntKind.i64.wrap (n2 + n3))))) && (decide ((IntKind.i64.wrap (n2 + n3)) ≤ (l21.2 : Int)))) then
 (SA.adv l21.1 n2.toNat 1).bind fun a22 =>
 some ((.tup [(.sl a22 ((IntKind.i64.wrap (n2 + n3)).toNat - n2.toNat)), (.i .i64 0)]), r17.2)
 else none)))
 else none
noncomputable def mem_Mem__within {O : Type} : Sm O := mem_Mem__within_c mem_Mem__at
theorem mem_Mem__within_ent : Entered Try.prog 142 := Try.call142
theorem mem_Mem__within_run {O : Type} (k138 : Sm O) : run (O := O) Try.prog [(138, k138)] Try.f142 (.n .z (.n .z (.n (.n (.n .z (.n .z (.n (.g [(2, 2, [(23, .one .b)]), (6, 7, [(32, .one .b)]), (15, 9, [(43, .one .b)])]) (.n .z .z)))) .z) .z))) = mem_Mem__within_c k138 := by kernel_rfl
theorem mem_Mem__within_sound {O : Type} {RO : O → Loc → (Nat → Option Obj) → Prop} : FSound RO Try.prog 142 (mem_Mem__within) :=
   have h : FSound RO Try.prog 142 (mem_Mem__within_c mem_Mem__at) := (mem_Mem__within_run mem_Mem__at) ▸ run_sound (gcons mem_Mem__at_ent (mem_Mem__at_sound) <| gnil) mixed Try.func142 (by kernel_rfl) _
   h

/-- haymow/wide.Of -/
noncomputable def wide_Of_c {O : Type} : Sm O := fun xs σ =>
 bif Nat.beq xs.length 1 then
 (AV.asI .u64 (xs.getD 0 .u)).bind fun n0 =>
 let σ1 := σ.bump 1
 let σ2 := σ1.put σ.next (.cells true 38 [(.i .u64 0), (.i .u64 0)])
 (σ2.st (.n σ.next) 0 [(.i .u64 0), (.i .u64 n0)]).bind fun σ3 =>
 (σ3.ld (.n σ.next) 0).bind fun w4 =>
 (AV.asI .u64 w4).bind fun n5 =>
 (σ3.ld (.n σ.next) 1).bind fun w6 =>
 (AV.asI .u64 w6).bind fun n7 =>
 some ((.agg [(.i .u64 n5), (.i .u64 n7)]), σ3)
 else none
noncomputable def wide_Of {O : Type} : Sm O := wide_Of_c
theorem wide_Of_ent : Entered Try.prog 162 := Try.call162
theorem wide_Of_run {O : Type} : run (O := O) Try.prog [] Try.f162 (.n .z .z) = wide_Of_c  := by kernel_rfl
theorem wide_Of_sound {O : Type} {RO : O → Loc → (Nat → Option Obj) → Prop} : FSound RO Try.prog 162 (wide_Of) :=
   have h : FSound RO Try.prog 162 (wide_Of_c) := (wide_Of_run) ▸ run_sound (gnil) mixed Try.func162 (by kernel_rfl) _
   h

/-- haymow/wide.Most -/
noncomputable def wide_Most_c {O : Type} : Sm O := fun xs σ =>
 bif Nat.beq xs.length 0 then
 let σ0 := σ.bump 1
 let σ1 := σ0.put σ.next (.cells true 38 [(.i .u64 0), (.i .u64 0)])
 (σ1.st (.n σ.next) 0 [(.i .u64 18446744073709551615), (.i .u64 18446744073709551615)]).bind fun σ2 =>
 (σ2.ld (.n σ.next) 0).bind fun w3 =>
 (AV.asI .u64 w3).bind fun n4 =>
 (σ2.ld (.n σ.next) 1).bind fun w5 =>
 (AV.asI .u64 w5).bind fun n6 =>
 some ((.agg [(.i .u64 n4), (.i .u64 n6)]), σ2)
 else none
noncomputable def wide_Most {O : Type} : Sm O := wide_Most_c
theorem wide_Most_ent : Entered Try.prog 121 := Try.call121
theorem wide_Most_run {O : Type} : run (O := O) Try.prog [] Try.f121 (.n .z .z) = wide_Most_c  := by kernel_rfl
theorem wide_Most_sound {O : Type} {RO : O → Loc → (Nat → Option Obj) → Prop} : FSound RO Try.prog 121 (wide_Most) :=
   have h : FSound RO Try.prog 121 (wide_Most_c) := (wide_Most_run) ▸ run_sound (gnil) mixed Try.func121 (by kernel_rfl) _
   h

/-- haymow/wide.Add -/
noncomputable def wide_Add_c {O : Type} (k120 k121 : Sm O) : Sm O := fun xs σ =>
 bif Nat.beq xs.length 2 then
 (AV.asAgg 2 (xs.getD 0 .u)).bind fun c0 =>
 (AV.asI .u64 (c0.getD 0 .u)).bind fun n1 =>
 (AV.asI .u64 (c0.getD 1 .u)).bind fun n2 =>
 (AV.asAgg 2 (xs.getD 1 .u)).bind fun c3 =>
 (AV.asI .u64 (c3.getD 0 .u)).bind fun n4 =>
 (AV.asI .u64 (c3.getD 1 .u)).bind fun n5 =>
 let σ6 := σ.bump 3
 let σ7 := σ6.put σ.next (.cells true 38 [(.i .u64 n1), (.i .u64 n2)])
 let σ8 := σ7.put (σ.next + 1) (.cells true 38 [(.i .u64 n4), (.i .u64 n5)])
 let σ9 := σ8.put ((σ.next + 1) + 1) (.cells true 38 [(.i .u64 0), (.i .u64 0)])
 (σ9.ld (.n σ.next) 1).bind fun w10 =>
 (AV.asI .u64 w10).bind fun n11 =>
 (σ9.ld (.n (σ.next + 1)) 1).bind fun w12 =>
 (AV.asI .u64 w12).bind fun n13 =>
 (k120 [(.i .u64 n11), (.i .u64 n13), (.i .u64 0)] σ9).bind fun r14 =>
 (AV.asTup 2 r14.1).bind fun c15 =>
 (AV.asI .u64 (c15.getD 0 .u)).bind fun n16 =>
 (AV.asI .u64 (c15.getD 1 .u)).bind fun n17 =>
 (r14.2.ld (.n σ.next) 0).bind fun w18 =>
 (AV.asI .u64 w18).bind fun n19 =>
 (r14.2.ld (.n (σ.next + 1)) 0).bind fun w20 =>
 (AV.asI .u64 w20).bind fun n21 =>
 (k120 [(.i .u64 n19), (.i .u64 n21), (.i .u64 n17)] r14.2).bind fun r22 =>
 (AV.asTup 2 r22.1).bind fun c23 =>
 (AV.asI .u64 (c23.getD 0 .u)).bind fun n24 =>
 (AV.asI .u64 (c23.getD 1 .u)).bind fun n25 =>
 (bif ((n25 : Int) != 0) then
 (k121 [] r22.2).bind fun r26 =>
 (AV.asAgg 2 r26.1).bind fun c27 =>
 (AV.asI .u64 (c27.getD 0 .u)).bind fun n28 =>
 (AV.asI .u64 (c27.getD 1 .u)).bind fun n29 =>
 (r26.2.st (.n ((σ.next + 1) + 1)) 0 [(.i .u64 n28), (.i .u64 n29)]).bind fun σ30 =>
 (σ30.ld (.n ((σ.next + 1) + 1)) 0).bind fun w31 =>
 (AV.asI .u64 w31).bind fun n32 =>
 (σ30.ld (.n ((σ.next + 1) + 1)) 1).bind fun w33 =>
 (AV.asI .u64 w33).bind fun n34 =>
 some ((.tup [(.agg [(.i .u64 n32), (.i .u64 n34)]), (.b false)]), σ30)
 else (r22.2.st (.n ((σ.next + 1) + 1)) 0 [(.i .u64 n24), (.i .u64 n16)]).bind fun σ35 =>
 (σ35.ld (.n ((σ.next + 1) + 1)) 0).bind fun w36 =>
 (AV.asI .u64 w36).bind fun n37 =>
 (σ35.ld (.n ((σ.next + 1) + 1)) 1).bind fun w38 =>
 (AV.asI .u64 w38).bind fun n39 =>
 some ((.tup [(.agg [(.i .u64 n37), (.i .u64 n39)]), (.b true)]), σ35))
 else none
noncomputable def wide_Add {O : Type} : Sm O := wide_Add_c bits_Add64 wide_Most
theorem wide_Add_ent : Entered Try.prog 58 := Try.call58
theorem wide_Add_run {O : Type} (k120 k121 : Sm O) : run (O := O) Try.prog [(120, k120), (121, k121)] Try.f58 (.n .z (.n .z (.n .z (.n (.n .z (.n .z .z)) .z)))) = wide_Add_c k120 k121 := by kernel_rfl
theorem wide_Add_sound {O : Type} {RO : O → Loc → (Nat → Option Obj) → Prop} : FSound RO Try.prog 58 (wide_Add) :=
   have h : FSound RO Try.prog 58 (wide_Add_c bits_Add64 wide_Most) := (wide_Add_run bits_Add64 wide_Most) ▸ run_sound (gext bits_Add64_ext <| gcons wide_Most_ent (wide_Most_sound) <| gnil) mixed Try.func58 (by kernel_rfl) _
   h

/-- (*haymow/meter.Meter).Step -/
noncomputable def meter_Meter__Step_c {O : Type} (k162 k58 : Sm O) : Sm O := fun xs σ =>
 bif Nat.beq xs.length 3 then
 (AV.asP (xs.getD 0 .u)).bind fun p0 =>
 (AV.asI .i64 (xs.getD 1 .u)).bind fun n1 =>
 (AV.asI .i64 (xs.getD 2 .u)).bind fun n2 =>
 ((bif ((Option.isNone p0) == false) then
 some ([(.b (decide (n1 < 0)))], σ)
 else some ([(.b true)], σ)) : Option (List AV × AH O)).bind fun r3 =>
 (AV.asB (r3.1.getD 0 .u)).bind fun b4 =>
 ((bif (b4 == false) then
 some ([(.b (decide (n1 ≥ 2)))], r3.2)
 else some ([(.b true)], r3.2)) : Option (List AV × AH O)).bind fun r5 =>
 (AV.asB (r5.1.getD 0 .u)).bind fun b6 =>
 ((bif (b6 == false) then
 some ([(.b (decide (n2 < 1)))], r5.2)
 else some ([(.b true)], r5.2)) : Option (List AV × AH O)).bind fun r7 =>
 (AV.asB (r7.1.getD 0 .u)).bind fun b8 =>
 (bif b8 then
 some ((.tup []), r7.2)
 else Option.bind p0 fun q9 =>
 (bif ((decide ((0 : Int) ≤ n1)) && (decide (n1 < 2))) then
 (r7.2.ld q9.1 (q9.2 + (n1.toNat * 2))).bind fun w10 =>
 (AV.asI .u64 w10).bind fun n11 =>
 (r7.2.ld q9.1 ((q9.2 + (n1.toNat * 2)) + 1)).bind fun w12 =>
 (AV.asI .u64 w12).bind fun n13 =>
 Option.bind p0 fun q14 =>
 (k162 [(.i .u64 (IntKind.u64.wrap n2))] r7.2).bind fun r15 =>
 (AV.asAgg 2 r15.1).bind fun c16 =>
 (AV.asI .u64 (c16.getD 0 .u)).bind fun n17 =>
 (AV.asI .u64 (c16.getD 1 .u)).bind fun n18 =>
 (chkE (r15.2.ld q9.1 (q9.2 + (n1.toNat * 2))) (some (.i .u64 n11))).bind fun _ =>
 (chkE (r15.2.ld q9.1 ((q9.2 + (n1.toNat * 2)) + 1)) (some (.i .u64 n13))).bind fun _ =>
 (k58 [(.agg [(.i .u64 n11), (.i .u64 n13)]), (.agg [(.i .u64 n17), (.i .u64 n18)])] r15.2).bind fun r19 =>
 (AV.asTup 2 r19.1).bind fun c20 =>
 (AV.asAgg 2 (c20.getD 0 .u)).bind fun c21 =>
 (AV.asI .u64 (c21.getD 0 .u)).bind fun n22 =>
 (AV.asI .u64 (c21.getD 1 .u)).bind fun n23 =>
 (AV.asB (c20.getD 1 .u)).bind fun b24 =>
 (bif ((decide ((0 : Int) ≤ n1)) && (decide (n1 < 2))) then
 (r19.2.st q14.1 (q14.2 + (n1.toNat * 2)) [(.i .u64 n22), (.i .u64 n23)]).bind fun σ25 =>
 some ((.tup []), σ25)
 else none)
 else none))
 else none
noncomputable def meter_Meter__Step {O : Type} : Sm O := meter_Meter__Step_c wide_Of wide_Add
theorem meter_Meter__Step_ent : Entered Try.prog 143 := Try.call143
theorem meter_Meter__Step_run {O : Type} (k162 k58 : Sm O) : run (O := O) Try.prog [(162, k162), (58, k58)] Try.f143 (.n (.n (.g [(2, 2, [(11, .one .b)]), (6, 2, [(15, .one .b)]), (10, 2, [(19, .one .b)])]) .z) (.d [] [0, 1, 2, 3, 4, 5, 6, 7, 8, 9, 15, 16, 10, 11, 12, 13, 14, 17, 18] [0, 0, 0, 0, 4, 20, 60, 124, 0, 256, 768, 2044, 4092, 8188, 8188, 1, 32769, 114687, 245759])) = meter_Meter__Step_c k162 k58 := by kernel_rfl
theorem meter_Meter__Step_sound {O : Type} {RO : O → Loc → (Nat → Option Obj) → Prop} : FSound RO Try.prog 143 (meter_Meter__Step) :=
   have h : FSound RO Try.prog 143 (meter_Meter__Step_c wide_Of wide_Add) := (meter_Meter__Step_run wide_Of wide_Add) ▸ run_sound (gcons wide_Of_ent (wide_Of_sound) <| gcons wide_Add_ent (wide_Add_sound) <| gnil) mixed Try.func143 (by kernel_rfl) _
   h

/-- (*haymow/mem.Mem).Write -/
noncomputable def mem_Mem__Write_c {O : Type} (k142 k143 : Sm O) : Sm O := fun xs σ =>
 bif Nat.beq xs.length 4 then
 (AV.asP (xs.getD 0 .u)).bind fun p0 =>
 (AV.asI .i64 (xs.getD 1 .u)).bind fun n1 =>
 (AV.asI .i64 (xs.getD 2 .u)).bind fun n2 =>
 (AV.asI .u64 (xs.getD 3 .u)).bind fun n3 =>
 (k142 [(.p p0), (.i .i64 n1), (.i .i64 n2), (.i .i64 1)] σ).bind fun r4 =>
 (AV.asTup 2 r4.1).bind fun c5 =>
 (AV.asSl (c5.getD 0 .u)).bind fun l6 =>
 (AV.asI .i64 (c5.getD 1 .u)).bind fun n7 =>
 (bif ((n7 : Int) != 0) then
 some ((.i .i64 n7), r4.2)
 else Option.bind p0 fun q8 =>
 (r4.2.ld q8.1 q8.2).bind fun w9 =>
 (AV.asP w9).bind fun p10 =>
 (k143 [(.p p10), (.i .i64 1), (.i .i64 1)] r4.2).bind fun r11 =>
 (AV.asTup 0 r11.1).bind fun c12 =>
 (bif (decide ((0 : Int) < (l6.2 : Int))) then
 (SA.ref l6.1).bind fun q13 =>
 (r11.2.st q13.1 q13.2 [(.i .u64 n3)]).bind fun σ14 =>
 some ((.i .i64 0), σ14)
 else none))
 else none
noncomputable def mem_Mem__Write {O : Type} : Sm O := mem_Mem__Write_c mem_Mem__within meter_Meter__Step
theorem mem_Mem__Write_ent : Entered Try.prog 89 := Try.call89
theorem mem_Mem__Write_run {O : Type} (k142 k143 : Sm O) : run (O := O) Try.prog [(142, k142), (143, k143)] Try.f89 (.n .z (.n .z (.n (.n .z (.n .z .z)) (.n .z (.n .z .z))))) = mem_Mem__Write_c k142 k143 := by kernel_rfl
theorem mem_Mem__Write_sound {O : Type} {RO : O → Loc → (Nat → Option Obj) → Prop} : FSound RO Try.prog 89 (mem_Mem__Write) :=
   have h : FSound RO Try.prog 89 (mem_Mem__Write_c mem_Mem__within meter_Meter__Step) := (mem_Mem__Write_run mem_Mem__within meter_Meter__Step) ▸ run_sound (gcons mem_Mem__within_ent (mem_Mem__within_sound) <| gcons meter_Meter__Step_ent (meter_Meter__Step_sound) <| gnil) mixed Try.func89 (by kernel_rfl) _
   h

/-- (*haymow/mem.Mem).Read -/
noncomputable def mem_Mem__Read_c {O : Type} (k142 k143 : Sm O) : Sm O := fun xs σ =>
 bif Nat.beq xs.length 3 then
 (AV.asP (xs.getD 0 .u)).bind fun p0 =>
 (AV.asI .i64 (xs.getD 1 .u)).bind fun n1 =>
 (AV.asI .i64 (xs.getD 2 .u)).bind fun n2 =>
 (k142 [(.p p0), (.i .i64 n1), (.i .i64 n2), (.i .i64 1)] σ).bind fun r3 =>
 (AV.asTup 2 r3.1).bind fun c4 =>
 (AV.asSl (c4.getD 0 .u)).bind fun l5 =>
 (AV.asI .i64 (c4.getD 1 .u)).bind fun n6 =>
 (bif ((n6 : Int) != 0) then
 some ((.tup [(.i .u64 0), (.i .i64 n6)]), r3.2)
 else Option.bind p0 fun q7 =>
 (r3.2.ld q7.1 q7.2).bind fun w8 =>
 (AV.asP w8).bind fun p9 =>
 (k143 [(.p p9), (.i .i64 0), (.i .i64 1)] r3.2).bind fun r10 =>
 (AV.asTup 0 r10.1).bind fun c11 =>
 (bif (decide ((0 : Int) < (l5.2 : Int))) then
 (SA.ref l5.1).bind fun q12 =>
 (r10.2.ld q12.1 q12.2).bind fun w13 =>
 (AV.asI .u64 w13).bind fun n14 =>
 some ((.tup [(.i .u64 n14), (.i .i64 0)]), r10.2)
 else none))
 else none
noncomputable def mem_Mem__Read {O : Type} : Sm O := mem_Mem__Read_c mem_Mem__within meter_Meter__Step
theorem mem_Mem__Read_ent : Entered Try.prog 92 := Try.call92
theorem mem_Mem__Read_run {O : Type} (k142 k143 : Sm O) : run (O := O) Try.prog [(142, k142), (143, k143)] Try.f92 (.n .z (.n .z (.n (.n .z (.n .z .z)) (.n .z .z)))) = mem_Mem__Read_c k142 k143 := by kernel_rfl
theorem mem_Mem__Read_sound {O : Type} {RO : O → Loc → (Nat → Option Obj) → Prop} : FSound RO Try.prog 92 (mem_Mem__Read) :=
   have h : FSound RO Try.prog 92 (mem_Mem__Read_c mem_Mem__within meter_Meter__Step) := (mem_Mem__Read_run mem_Mem__within meter_Meter__Step) ▸ run_sound (gcons mem_Mem__within_ent (mem_Mem__within_sound) <| gcons meter_Meter__Step_ent (meter_Meter__Step_sound) <| gnil) mixed Try.func92 (by kernel_rfl) _
   h

/-- (*haymow/mem.Mem).Zero -/
noncomputable def mem_Mem__Zero_c {O : Type} (k142 k143 : Sm O) : Sm O := fun xs σ =>
 bif Nat.beq xs.length 4 then
 (AV.asP (xs.getD 0 .u)).bind fun p0 =>
 (AV.asI .i64 (xs.getD 1 .u)).bind fun n1 =>
 (AV.asI .i64 (xs.getD 2 .u)).bind fun n2 =>
 (AV.asI .i64 (xs.getD 3 .u)).bind fun n3 =>
 (k142 [(.p p0), (.i .i64 n1), (.i .i64 n2), (.i .i64 n3)] σ).bind fun r4 =>
 (AV.asTup 2 r4.1).bind fun c5 =>
 (AV.asSl (c5.getD 0 .u)).bind fun l6 =>
 (AV.asI .i64 (c5.getD 1 .u)).bind fun n7 =>
 (bif ((n7 : Int) != 0) then
 some ((.i .i64 n7), r4.2)
 else Option.bind p0 fun q8 =>
 (r4.2.ld q8.1 q8.2).bind fun w9 =>
 (AV.asP w9).bind fun p10 =>
 (k143 [(.p p10), (.i .i64 1), (.i .i64 n3)] r4.2).bind fun r11 =>
 (AV.asTup 0 r11.1).bind fun c12 =>
 (bif Nat.beq l6.2 0 then
 some ((.i .i64 0), r11.2)
 else
 (r11.2.wrSl l6.1 ((List.replicate l6.2 [(.i .u64 0)]).flatten)).bind fun σ13 =>
 some ((.i .i64 0), σ13)))
 else none
noncomputable def mem_Mem__Zero {O : Type} : Sm O := mem_Mem__Zero_c mem_Mem__within meter_Meter__Step
theorem mem_Mem__Zero_ent : Entered Try.prog 124 := Try.call124
theorem mem_Mem__Zero_run {O : Type} (k142 k143 : Sm O) : run (O := O) Try.prog [(142, k142), (143, k143)] Try.f124 (.n .z (.n .z (.n (.n .z (.n .z .z)) (.n .z (.n .z .z))))) = mem_Mem__Zero_c k142 k143 := by kernel_rfl
theorem mem_Mem__Zero_sound {O : Type} {RO : O → Loc → (Nat → Option Obj) → Prop} : FSound RO Try.prog 124 (mem_Mem__Zero) :=
   have h : FSound RO Try.prog 124 (mem_Mem__Zero_c mem_Mem__within meter_Meter__Step) := (mem_Mem__Zero_run mem_Mem__within meter_Meter__Step) ▸ run_sound (gcons mem_Mem__within_ent (mem_Mem__within_sound) <| gcons meter_Meter__Step_ent (meter_Meter__Step_sound) <| gnil) mixed Try.func124 (by kernel_rfl) _
   h

/-- (*haymow/pool.Pool).Take -/
noncomputable def pool_Pool__Take_c {O : Type} (k122 k123 k89 k92 k124 : Sm O) : Sm O := fun xs σ =>
 bif Nat.beq xs.length 1 then
 (AV.asP (xs.getD 0 .u)).bind fun p0 =>
 Option.bind p0 fun q1 =>
 (σ.ld q1.1 (q1.2 + 5)).bind fun w2 =>
 (AV.asI .i64 w2).bind fun n3 =>
 (bif ((n3 : Int) == 0) then
 (k122 [(.p p0)] σ).bind fun r4 =>
 (AV.asI .i64 r4.1).bind fun n5 =>
 (bif ((n5 : Int) != 0) then
 some ((.tup [(.i .i64 0), (.i .i64 n5)]), r4.2)
 else Option.bind p0 fun q6 =>
 (r4.2.ld q6.1 (q6.2 + 3)).bind fun w7 =>
 (AV.asI .i64 w7).bind fun n8 =>
 Option.bind p0 fun q9 =>
 (r4.2.st q9.1 (q9.2 + 3) [(.i .i64 (IntKind.i64.wrap (n8 + 1)))]).bind fun σ10 =>
 Option.bind p0 fun q11 =>
 (σ10.ld q11.1 (q11.2 + 3)).bind fun w12 =>
 (AV.asI .i64 w12).bind fun n13 =>
 Option.bind p0 fun q14 =>
 (σ10.ld q14.1 q14.2).bind fun w15 =>
 (AV.asP w15).bind fun p16 =>
 Option.bind p0 fun q17 =>
 (σ10.ld q17.1 (q17.2 + 1)).bind fun w18 =>
 (AV.asI .i64 w18).bind fun n19 =>
 (k123 [(.p p0), (.i .i64 n13), (.i .i64 (-1))] σ10).bind fun r20 =>
 (AV.asI .i64 r20.1).bind fun n21 =>
 (chkE (r20.2.ld q14.1 q14.2) (some (.p p16))).bind fun _ =>
 (chkE (r20.2.ld q17.1 (q17.2 + 1)) (some (.i .i64 n19))).bind fun _ =>
 (k89 [(.p p16), (.i .i64 n19), (.i .i64 n21), (.i .u64 1)] r20.2).bind fun r22 =>
 (AV.asI .i64 r22.1).bind fun n23 =>
 Option.bind p0 fun q24 =>
 (r22.2.ld q24.1 (q24.2 + 6)).bind fun w25 =>
 (AV.asI .i64 w25).bind fun n26 =>
 Option.bind p0 fun q27 =>
 (r22.2.st q27.1 (q27.2 + 6) [(.i .i64 (IntKind.i64.wrap (n26 + 1)))]).bind fun σ28 =>
 some ((.tup [(.i .i64 n13), (.i .i64 0)]), σ28))
 else Option.bind p0 fun q29 =>
 (σ.ld q29.1 q29.2).bind fun w30 =>
 (AV.asP w30).bind fun p31 =>
 Option.bind p0 fun q32 =>
 (σ.ld q32.1 (q32.2 + 1)).bind fun w33 =>
 (AV.asI .i64 w33).bind fun n34 =>
 (k123 [(.p p0), (.i .i64 n3), (.i .i64 0)] σ).bind fun r35 =>
 (AV.asI .i64 r35.1).bind fun n36 =>
 (chkE (r35.2.ld q29.1 q29.2) (some (.p p31))).bind fun _ =>
 (chkE (r35.2.ld q32.1 (q32.2 + 1)) (some (.i .i64 n34))).bind fun _ =>
 (k92 [(.p p31), (.i .i64 n34), (.i .i64 n36)] r35.2).bind fun r37 =>
 (AV.asTup 2 r37.1).bind fun c38 =>
 (AV.asI .u64 (c38.getD 0 .u)).bind fun n39 =>
 (AV.asI .i64 (c38.getD 1 .u)).bind fun n40 =>
 Option.bind p0 fun q41 =>
 (r37.2.ld q41.1 q41.2).bind fun w42 =>
 (AV.asP w42).bind fun p43 =>
 Option.bind p0 fun q44 =>
 (r37.2.ld q44.1 (q44.2 + 1)).bind fun w45 =>
 (AV.asI .i64 w45).bind fun n46 =>
 (k123 [(.p p0), (.i .i64 n3), (.i .i64 (-1))] r37.2).bind fun r47 =>
 (AV.asI .i64 r47.1).bind fun n48 =>
 (chkE (r47.2.ld q41.1 q41.2) (some (.p p43))).bind fun _ =>
 (chkE (r47.2.ld q44.1 (q44.2 + 1)) (some (.i .i64 n46))).bind fun _ =>
 (k92 [(.p p43), (.i .i64 n46), (.i .i64 n48)] r47.2).bind fun r49 =>
 (AV.asTup 2 r49.1).bind fun c50 =>
 (AV.asI .u64 (c50.getD 0 .u)).bind fun n51 =>
 (AV.asI .i64 (c50.getD 1 .u)).bind fun n52 =>
 Option.bind p0 fun q53 =>
 (r49.2.ld q53.1 q53.2).bind fun w54 =>
 (AV.asP w54).bind fun p55 =>
 Option.bind p0 fun q56 =>
 (r49.2.ld q56.1 (q56.2 + 1)).bind fun w57 =>
 (AV.asI .i64 w57).bind fun n58 =>
 (k123 [(.p p0), (.i .i64 n3), (.i .i64 (-1))] r49.2).bind fun r59 =>
 (AV.asI .i64 r59.1).bind fun n60 =>
 (chkE (r59.2.ld q53.1 q53.2) (some (.p p55))).bind fun _ =>
 (chkE (r59.2.ld q56.1 (q56.2 + 1)) (some (.i .i64 n58))).bind fun _ =>
 (k89 [(.p p55), (.i .i64 n58), (.i .i64 n60), (.i .u64 (ibits .or .u64 n51 1))] r59.2).bind fun r61 =>
 (AV.asI .i64 r61.1).bind fun n62 =>
 Option.bind p0 fun q63 =>
 (r61.2.ld q63.1 q63.2).bind fun w64 =>
 (AV.asP w64).bind fun p65 =>
 Option.bind p0 fun q66 =>
 (r61.2.ld q66.1 (q66.2 + 1)).bind fun w67 =>
 (AV.asI .i64 w67).bind fun n68 =>
 Option.bind p0 fun q69 =>
 (r61.2.ld q69.1 (q69.2 + 2)).bind fun w70 =>
 (AV.asI .i64 w70).bind fun n71 =>
 (k123 [(.p p0), (.i .i64 n3), (.i .i64 0)] r61.2).bind fun r72 =>
 (AV.asI .i64 r72.1).bind fun n73 =>
 (chkE (r72.2.ld q63.1 q63.2) (some (.p p65))).bind fun _ =>
 (chkE (r72.2.ld q66.1 (q66.2 + 1)) (some (.i .i64 n68))).bind fun _ =>
 (chkE (r72.2.ld q69.1 (q69.2 + 2)) (some (.i .i64 n71))).bind fun _ =>
 (k124 [(.p p65), (.i .i64 n68), (.i .i64 n73), (.i .i64 n71)] r72.2).bind fun r74 =>
 (AV.asI .i64 r74.1).bind fun n75 =>
 Option.bind p0 fun q76 =>
 (r74.2.st q76.1 (q76.2 + 5) [(.i .i64 (IntKind.i64.wrap n39))]).bind fun σ77 =>
 Option.bind p0 fun q78 =>
 (σ77.ld q78.1 (q78.2 + 6)).bind fun w79 =>
 (AV.asI .i64 w79).bind fun n80 =>
 Option.bind p0 fun q81 =>
 (σ77.st q81.1 (q81.2 + 6) [(.i .i64 (IntKind.i64.wrap (n80 + 1)))]).bind fun σ82 =>
 some ((.tup [(.i .i64 n3), (.i .i64 0)]), σ82))
 else none
noncomputable def pool_Pool__Take {O : Type} : Sm O := pool_Pool__Take_c pool_Pool__grow pool_Pool__at mem_Mem__Write mem_Mem__Read mem_Mem__Zero
theorem pool_Pool__Take_ent : Entered Try.prog 60 := Try.call60
theorem pool_Pool__Take_run {O : Type} (k122 k123 k89 k92 k124 : Sm O) : run (O := O) Try.prog [(122, k122), (123, k123), (89, k89), (92, k92), (124, k124)] Try.f60 (.n .z (.n .z (.n (.n .z (.n (.n (.n .z (.n .z (.n .z .z))) (.n .z (.n .z (.n (.d [] [0, 1, 2, 3, 4, 5, 6, 7, 8, 9, 10, 11] [0, 1, 3, 7, 0, 16, 48, 112, 0, 0, 768, 2047]) (.n .z .z))))) .z)) (.n (.d [] [0, 1, 2, 3, 4, 5, 6, 7, 8, 9, 10, 11, 12, 13, 14, 15, 16] [0, 1, 3, 7, 0, 16, 48, 112, 0, 0, 768, 2047, 4095, 8191, 8191, 16383, 65535]) (.n (.d [] [0, 1, 2, 3, 4, 5, 6, 7, 8, 9, 10, 11, 12, 13, 14, 15, 16] [0, 1, 3, 7, 0, 16, 48, 112, 0, 0, 768, 2047, 4095, 8191, 8191, 16383, 65535]) (.n (.d [] [0, 1, 2, 3, 4, 5, 6, 7, 8, 9, 11, 12, 10, 13] [0, 1, 3, 7, 0, 16, 48, 112, 0, 0, 768, 0, 2048, 8191]) (.n (.d [] [0, 1, 2, 3, 4, 5, 6, 7, 8, 9, 11, 12, 13, 14, 10, 15] [0, 1, 3, 7, 0, 16, 48, 112, 0, 0, 768, 0, 2048, 6144, 14336, 32767]) (.n .z (.n .z .z))))))))) = pool_Pool__Take_c k122 k123 k89 k92 k124 := by kernel_rfl
theorem pool_Pool__Take_sound {O : Type} {RO : O → Loc → (Nat → Option Obj) → Prop} : FSound RO Try.prog 60 (pool_Pool__Take) :=
   have h : FSound RO Try.prog 60 (pool_Pool__Take_c pool_Pool__grow pool_Pool__at mem_Mem__Write mem_Mem__Read mem_Mem__Zero) := (pool_Pool__Take_run pool_Pool__grow pool_Pool__at mem_Mem__Write mem_Mem__Read mem_Mem__Zero) ▸ run_sound (gcons pool_Pool__grow_ent (pool_Pool__grow_sound) <| gcons pool_Pool__at_ent (pool_Pool__at_sound) <| gcons mem_Mem__Write_ent (mem_Mem__Write_sound) <| gcons mem_Mem__Read_ent (mem_Mem__Read_sound) <| gcons mem_Mem__Zero_ent (mem_Mem__Zero_sound) <| gnil) mixed Try.func60 (by kernel_rfl) _
   h

/-- (*haymow/pool.Pool).look -/
noncomputable def pool_Pool__look_c {O : Type} (k123 k92 : Sm O) : Sm O := fun xs σ =>
 bif Nat.beq xs.length 2 then
 (AV.asP (xs.getD 0 .u)).bind fun p0 =>
 (AV.asI .i64 (xs.getD 1 .u)).bind fun n1 =>
 ((bif ((decide (n1 < 1)) == false) then
 Option.bind p0 fun q2 =>
 (σ.ld q2.1 (q2.2 + 3)).bind fun w3 =>
 (AV.asI .i64 w3).bind fun n4 =>
 some ([(.b (decide (n1 > n4)))], σ)
 else some ([(.b true)], σ)) : Option (List AV × AH O)).bind fun r5 =>
 (AV.asB (r5.1.getD 0 .u)).bind fun b6 =>
 (bif b6 then
 some ((.tup [(.i .u64 0), (.b false)]), r5.2)
 else Option.bind p0 fun q7 =>
 (r5.2.ld q7.1 q7.2).bind fun w8 =>
 (AV.asP w8).bind fun p9 =>
 Option.bind p0 fun q10 =>
 (r5.2.ld q10.1 (q10.2 + 1)).bind fun w11 =>
 (AV.asI .i64 w11).bind fun n12 =>
 (k123 [(.p p0), (.i .i64 n1), (.i .i64 (-1))] r5.2).bind fun r13 =>
 (AV.asI .i64 r13.1).bind fun n14 =>
 (chkE (r13.2.ld q7.1 q7.2) (some (.p p9))).bind fun _ =>
 (chkE (r13.2.ld q10.1 (q10.2 + 1)) (some (.i .i64 n12))).bind fun _ =>
 (k92 [(.p p9), (.i .i64 n12), (.i .i64 n14)] r13.2).bind fun r15 =>
 (AV.asTup 2 r15.1).bind fun c16 =>
 (AV.asI .u64 (c16.getD 0 .u)).bind fun n17 =>
 (AV.asI .i64 (c16.getD 1 .u)).bind fun n18 =>
 some ((.tup [(.i .u64 n17), (.b true)]), r15.2))
 else none
noncomputable def pool_Pool__look {O : Type} : Sm O := pool_Pool__look_c pool_Pool__at mem_Mem__Read
theorem pool_Pool__look_ent : Entered Try.prog 129 := Try.call129
theorem pool_Pool__look_run {O : Type} (k123 k92 : Sm O) : run (O := O) Try.prog [(123, k123), (92, k92)] Try.f129 (.n .z (.n (.n (.g [(2, 6, [(17, .one .b)])]) (.n .z .z)) (.n (.d [] [0, 1, 2, 3, 4, 5, 6, 7, 8, 9, 10, 11, 12, 13, 14, 15, 16] [0, 1, 3, 7, 0, 16, 48, 112, 0, 0, 768, 2047, 4095, 8191, 8191, 16383, 65535]) .z))) = pool_Pool__look_c k123 k92 := by kernel_rfl
theorem pool_Pool__look_sound {O : Type} {RO : O → Loc → (Nat → Option Obj) → Prop} : FSound RO Try.prog 129 (pool_Pool__look) :=
   have h : FSound RO Try.prog 129 (pool_Pool__look_c pool_Pool__at mem_Mem__Read) := (pool_Pool__look_run pool_Pool__at mem_Mem__Read) ▸ run_sound (gcons pool_Pool__at_ent (pool_Pool__at_sound) <| gcons mem_Mem__Read_ent (mem_Mem__Read_sound) <| gnil) mixed Try.func129 (by kernel_rfl) _
   h

/-- (*haymow/pool.Pool).Taken -/
noncomputable def pool_Pool__Taken_c {O : Type} (k129 : Sm O) : Sm O := fun xs σ =>
 bif Nat.beq xs.length 2 then
 (AV.asP (xs.getD 0 .u)).bind fun p0 =>
 (AV.asI .i64 (xs.getD 1 .u)).bind fun n1 =>
 (k129 [(.p p0), (.i .i64 n1)] σ).bind fun r2 =>
 (AV.asTup 2 r2.1).bind fun c3 =>
 (AV.asI .u64 (c3.getD 0 .u)).bind fun n4 =>
 (AV.asB (c3.getD 1 .u)).bind fun b5 =>
 ((bif (b5 == true) then
 some ([(.b (((ibits .and .u64 n4 1) : Int) == 1))], r2.2)
 else some ([(.b false)], r2.2)) : Option (List AV × AH O)).bind fun r6 =>
 (AV.asB (r6.1.getD 0 .u)).bind fun b7 =>
 some ((.b b7), r6.2)
 else none
noncomputable def pool_Pool__Taken {O : Type} : Sm O := pool_Pool__Taken_c pool_Pool__look
theorem pool_Pool__Taken_ent : Entered Try.prog 135 := Try.call135
theorem pool_Pool__Taken_run {O : Type} (k129 : Sm O) : run (O := O) Try.prog [(129, k129)] Try.f135 (.n .z (.n .z (.n (.g [(1, 3, [(18, .one .b)])]) .z))) = pool_Pool__Taken_c k129 := by kernel_rfl
theorem pool_Pool__Taken_sound {O : Type} {RO : O → Loc → (Nat → Option Obj) → Prop} : FSound RO Try.prog 135 (pool_Pool__Taken) :=
   have h : FSound RO Try.prog 135 (pool_Pool__Taken_c pool_Pool__look) := (pool_Pool__Taken_run pool_Pool__look) ▸ run_sound (gcons pool_Pool__look_ent (pool_Pool__look_sound) <| gnil) mixed Try.func135 (by kernel_rfl) _
   h

/-- (*haymow/pool.Pool).check -/
noncomputable def pool_Pool__check_c {O : Type} (k135 : Sm O) : Sm O := fun xs σ =>
 bif Nat.beq xs.length 3 then
 (AV.asP (xs.getD 0 .u)).bind fun p0 =>
 (AV.asI .i64 (xs.getD 1 .u)).bind fun n1 =>
 (AV.asI .i64 (xs.getD 2 .u)).bind fun n2 =>
 (k135 [(.p p0), (.i .i64 n1)] σ).bind fun r3 =>
 (AV.asB r3.1).bind fun b4 =>
 (bif (!b4) then
 some ((.i .i64 4), r3.2)
 else ((bif ((decide (n2 < 0)) == false) then
 Option.bind p0 fun q5 =>
 (r3.2.ld q5.1 (q5.2 + 2)).bind fun w6 =>
 (AV.asI .i64 w6).bind fun n7 =>
 some ([(.b (decide (n2 ≥ n7)))], r3.2)
 else some ([(.b true)], r3.2)) : Option (List AV × AH O)).bind fun r8 =>
 (AV.asB (r8.1.getD 0 .u)).bind fun b9 =>
 (bif b9 then
 some ((.i .i64 32), r8.2)
 else some ((.i .i64 0), r8.2)))
 else none
noncomputable def pool_Pool__check {O : Type} : Sm O := pool_Pool__check_c pool_Pool__Taken
theorem pool_Pool__check_ent : Entered Try.prog 125 := Try.call125
theorem pool_Pool__check_run {O : Type} (k135 : Sm O) : run (O := O) Try.prog [(135, k135)] Try.f125 (.n .z (.n (.n (.n .z (.n .z (.n (.g [(2, 6, [(22, .one .b)])]) (.n .z .z)))) .z) .z)) = pool_Pool__check_c k135 := by kernel_rfl
theorem pool_Pool__check_sound {O : Type} {RO : O → Loc → (Nat → Option Obj) → Prop} : FSound RO Try.prog 125 (pool_Pool__check) :=
   have h : FSound RO Try.prog 125 (pool_Pool__check_c pool_Pool__Taken) := (pool_Pool__check_run pool_Pool__Taken) ▸ run_sound (gcons pool_Pool__Taken_ent (pool_Pool__Taken_sound) <| gnil) mixed Try.func125 (by kernel_rfl) _
   h

/-- (*haymow/pool.Pool).Set -/
noncomputable def pool_Pool__Set_c {O : Type} (k125 k123 k89 : Sm O) : Sm O := fun xs σ =>
 bif Nat.beq xs.length 4 then
 (AV.asP (xs.getD 0 .u)).bind fun p0 =>
 (AV.asI .i64 (xs.getD 1 .u)).bind fun n1 =>
 (AV.asI .i64 (xs.getD 2 .u)).bind fun n2 =>
 (AV.asI .u64 (xs.getD 3 .u)).bind fun n3 =>
 (k125 [(.p p0), (.i .i64 n1), (.i .i64 n2)] σ).bind fun r4 =>
 (AV.asI .i64 r4.1).bind fun n5 =>
 (bif ((n5 : Int) != 0) then
 some ((.i .i64 n5), r4.2)
 else Option.bind p0 fun q6 =>
 (r4.2.ld q6.1 q6.2).bind fun w7 =>
 (AV.asP w7).bind fun p8 =>
 Option.bind p0 fun q9 =>
 (r4.2.ld q9.1 (q9.2 + 1)).bind fun w10 =>
 (AV.asI .i64 w10).bind fun n11 =>
 (k123 [(.p p0), (.i .i64 n1), (.i .i64 n2)] r4.2).bind fun r12 =>
 (AV.asI .i64 r12.1).bind fun n13 =>
 (chkE (r12.2.ld q6.1 q6.2) (some (.p p8))).bind fun _ =>
 (chkE (r12.2.ld q9.1 (q9.2 + 1)) (some (.i .i64 n11))).bind fun _ =>
 (k89 [(.p p8), (.i .i64 n11), (.i .i64 n13), (.i .u64 n3)] r12.2).bind fun r14 =>
 (AV.asI .i64 r14.1).bind fun n15 =>
 some ((.i .i64 n15), r14.2))
 else none
noncomputable def pool_Pool__Set {O : Type} : Sm O := pool_Pool__Set_c pool_Pool__check pool_Pool__at mem_Mem__Write
theorem pool_Pool__Set_ent : Entered Try.prog 61 := Try.call61
theorem pool_Pool__Set_run {O : Type} (k125 k123 k89 : Sm O) : run (O := O) Try.prog [(125, k125), (123, k123), (89, k89)] Try.f61 (.n .z (.n (.n .z (.n .z (.n .z .z))) (.n (.d [] [0, 1, 2, 3, 4, 5, 6, 7, 8, 9, 10, 12, 11, 13, 14] [0, 1, 3, 7, 0, 16, 48, 112, 0, 0, 0, 1792, 0, 8191, 16383]) .z))) = pool_Pool__Set_c k125 k123 k89 := by kernel_rfl
theorem pool_Pool__Set_sound {O : Type} {RO : O → Loc → (Nat → Option Obj) → Prop} : FSound RO Try.prog 61 (pool_Pool__Set) :=
   have h : FSound RO Try.prog 61 (pool_Pool__Set_c pool_Pool__check pool_Pool__at mem_Mem__Write) := (pool_Pool__Set_run pool_Pool__check pool_Pool__at mem_Mem__Write) ▸ run_sound (gcons pool_Pool__check_ent (pool_Pool__check_sound) <| gcons pool_Pool__at_ent (pool_Pool__at_sound) <| gcons mem_Mem__Write_ent (mem_Mem__Write_sound) <| gnil) mixed Try.func61 (by kernel_rfl) _
   h

/-- (*haymow/pool.Pool).Table -/
noncomputable def pool_Pool__Table_c {O : Type} (k155 : Sm O) : Sm O := fun xs σ =>
 bif Nat.beq xs.length 3 then
 (AV.asP (xs.getD 0 .u)).bind fun p0 =>
 (AV.asI .i64 (xs.getD 1 .u)).bind fun n1 =>
 (AV.asI .i64 (xs.getD 2 .u)).bind fun n2 =>
 let σ3 := σ.bump 1
 let σ4 := σ3.put σ.next (.cells true 136 [(.p none), (.i .i64 0), (.i .i64 0), (.i .i64 0), (.i .i64 0)])
 Option.bind p0 fun q5 =>
 (σ4.ld q5.1 q5.2).bind fun w6 =>
 (AV.asP w6).bind fun p7 =>
 Option.bind p0 fun q8 =>
 (σ4.ld q8.1 (q8.2 + 1)).bind fun w9 =>
 (AV.asI .i64 w9).bind fun n10 =>
 (k155 [(.p p0)] σ4).bind fun r11 =>
 (AV.asI .i64 r11.1).bind fun n12 =>
 (chkE (r11.2.ld q5.1 q5.2) (some (.p p7))).bind fun _ =>
 (chkE (r11.2.ld q8.1 (q8.2 + 1)) (some (.i .i64 n10))).bind fun _ =>
 (r11.2.st (.n σ.next) 0 [(.p p7), (.i .i64 n10), (.i .i64 n12), (.i .i64 (IntKind.i64.wrap (n1 + 1))), (.i .i64 (IntKind.i64.wrap (n2 + 1)))]).bind fun σ13 =>
 (σ13.ld (.n σ.next) 0).bind fun w14 =>
 (AV.asP w14).bind fun p15 =>
 (σ13.ld (.n σ.next) 1).bind fun w16 =>
 (AV.asI .i64 w16).bind fun n17 =>
 (σ13.ld (.n σ.next) 2).bind fun w18 =>
 (AV.asI .i64 w18).bind fun n19 =>
 (σ13.ld (.n σ.next) 3).bind fun w20 =>
 (AV.asI .i64 w20).bind fun n21 =>
 (σ13.ld (.n σ.next) 4).bind fun w22 =>
 (AV.asI .i64 w22).bind fun n23 =>
 some ((.agg [(.p p15), (.i .i64 n17), (.i .i64 n19), (.i .i64 n21), (.i .i64 n23)]), σ13)
 else none
noncomputable def pool_Pool__Table {O : Type} : Sm O := pool_Pool__Table_c pool_Pool__width
theorem pool_Pool__Table_ent : Entered Try.prog 126 := Try.call126
theorem pool_Pool__Table_run {O : Type} (k155 : Sm O) : run (O := O) Try.prog [(155, k155)] Try.f126 (.n .z (.n (.d [] [0, 1, 2, 3, 4, 5, 6, 7, 8, 10, 11, 12, 13, 9, 14, 15] [0, 1, 3, 7, 0, 16, 48, 112, 0, 256, 0, 1024, 0, 4096, 16383, 32767]) .z)) = pool_Pool__Table_c k155 := by kernel_rfl
theorem pool_Pool__Table_sound {O : Type} {RO : O → Loc → (Nat → Option Obj) → Prop} : FSound RO Try.prog 126 (pool_Pool__Table) :=
   have h : FSound RO Try.prog 126 (pool_Pool__Table_c pool_Pool__width) := (pool_Pool__Table_run pool_Pool__width) ▸ run_sound (gcons pool_Pool__width_ent (pool_Pool__width_sound) <| gnil) mixed Try.func126 (by kernel_rfl) _
   h

/-- (*haymow/handles.Handles).table -/
noncomputable def handles_Handles__table_c {O : Type} (k126 : Sm O) : Sm O := fun xs σ =>
 bif Nat.beq xs.length 1 then
 (AV.asP (xs.getD 0 .u)).bind fun p0 =>
 let σ1 := σ.bump 1
 let σ2 := σ1.put σ.next (.cells true 136 [(.p none), (.i .i64 0), (.i .i64 0), (.i .i64 0), (.i .i64 0)])
 Option.bind p0 fun q3 =>
 (σ2.ld q3.1 q3.2).bind fun w4 =>
 (AV.asP w4).bind fun p5 =>
 (k126 [(.p p5), (.i .i64 1), (.i .i64 2)] σ2).bind fun r6 =>
 (AV.asAgg 5 r6.1).bind fun c7 =>
 (AV.asP (c7.getD 0 .u)).bind fun p8 =>
 (AV.asI .i64 (c7.getD 1 .u)).bind fun n9 =>
 (AV.asI .i64 (c7.getD 2 .u)).bind fun n10 =>
 (AV.asI .i64 (c7.getD 3 .u)).bind fun n11 =>
 (AV.asI .i64 (c7.getD 4 .u)).bind fun n12 =>
 (r6.2.st (.n σ.next) 0 [(.p p8), (.i .i64 n9), (.i .i64 n10), (.i .i64 n11), (.i .i64 n12)]).bind fun σ13 =>
 (σ13.ld (.n σ.next) 0).bind fun w14 =>
 (AV.asP w14).bind fun p15 =>
 (σ13.ld (.n σ.next) 1).bind fun w16 =>
 (AV.asI .i64 w16).bind fun n17 =>
 (σ13.ld (.n σ.next) 2).bind fun w18 =>
 (AV.asI .i64 w18).bind fun n19 =>
 (σ13.ld (.n σ.next) 3).bind fun w20 =>
 (AV.asI .i64 w20).bind fun n21 =>
 (σ13.ld (.n σ.next) 4).bind fun w22 =>
 (AV.asI .i64 w22).bind fun n23 =>
 some ((.agg [(.p p15), (.i .i64 n17), (.i .i64 n19), (.i .i64 n21), (.i .i64 n23)]), σ13)
 else none
noncomputable def handles_Handles__table {O : Type} : Sm O := handles_Handles__table_c pool_Pool__Table
theorem handles_Handles__table_ent : Entered Try.prog 62 := Try.call62
theorem handles_Handles__table_run {O : Type} (k126 : Sm O) : run (O := O) Try.prog [(126, k126)] Try.f62 (.n .z .z) = handles_Handles__table_c k126 := by kernel_rfl
theorem handles_Handles__table_sound {O : Type} {RO : O → Loc → (Nat → Option Obj) → Prop} : FSound RO Try.prog 62 (handles_Handles__table) :=
   have h : FSound RO Try.prog 62 (handles_Handles__table_c pool_Pool__Table) := (handles_Handles__table_run pool_Pool__Table) ▸ run_sound (gcons pool_Pool__Table_ent (pool_Pool__Table_sound) <| gnil) mixed Try.func62 (by kernel_rfl) _
   h

/-- (haymow/chain.Table).Right$1 -/
noncomputable def chain_Table__Right_1_c {O : Type} : Sm O := fun xs σ =>
 bif Nat.beq xs.length 2 then
 (AV.asI .i64 (xs.getD 0 .u)).bind fun n0 =>
 ((bif ((decide (n0 ≥ 0)) == true) then
 (AV.asPS (xs.getD 1 .u)).bind fun q1 =>
 (σ.ld q1.1 (q1.2 + 2)).bind fun w2 =>
 (AV.asI .i64 w2).bind fun n3 =>
 some ([(.b (decide (n0 < n3)))], σ)
 else some ([(.b false)], σ)) : Option (List AV × AH O)).bind fun r4 =>
 (AV.asB (r4.1.getD 0 .u)).bind fun b5 =>
 some ((.b b5), r4.2)
 else none
noncomputable def chain_Table__Right_1 {O : Type} : Sm O := chain_Table__Right_1_c
theorem chain_Table__Right_1_ent : Entered Try.prog 161 := Try.call161
theorem chain_Table__Right_1_run {O : Type} : run (O := O) Try.prog [] Try.f161 (.n .z (.n (.g [(2, 4, [(11, .one .b)])]) .z)) = chain_Table__Right_1_c  := by kernel_rfl
theorem chain_Table__Right_1_sound {O : Type} {RO : O → Loc → (Nat → Option Obj) → Prop} : FSound RO Try.prog 161 (chain_Table__Right_1) :=
   have h : FSound RO Try.prog 161 (chain_Table__Right_1_c) := (chain_Table__Right_1_run) ▸ run_sound (gnil) mixed Try.func161 (by kernel_rfl) _
   h

/-- (haymow/chain.Table).Right -/
noncomputable def chain_Table__Right_c {O : Type} (k161 : Sm O) : Sm O := fun xs σ =>
 bif Nat.beq xs.length 1 then
 (AV.asAgg 5 (xs.getD 0 .u)).bind fun c0 =>
 (AV.asP (c0.getD 0 .u)).bind fun p1 =>
 (AV.asI .i64 (c0.getD 1 .u)).bind fun n2 =>
 (AV.asI .i64 (c0.getD 2 .u)).bind fun n3 =>
 (AV.asI .i64 (c0.getD 3 .u)).bind fun n4 =>
 (AV.asI .i64 (c0.getD 4 .u)).bind fun n5 =>
 let σ6 := σ.bump 1
 let σ7 := σ6.put σ.next (.cells true 136 [(.p p1), (.i .i64 n2), (.i .i64 n3), (.i .i64 n4), (.i .i64 n5)])
 (σ7.ld (.n σ.next) 0).bind fun w8 =>
 (AV.asP w8).bind fun p9 =>
 ((bif ((!(Option.isNone p9)) == true) then
 (σ7.ld (.n σ.next) 2).bind fun w10 =>
 (AV.asI .i64 w10).bind fun n11 =>
 some ([(.b (decide (n11 ≥ 2)))], σ7)
 else some ([(.b false)], σ7)) : Option (List AV × AH O)).bind fun r12 =>
 (AV.asB (r12.1.getD 0 .u)).bind fun b13 =>
 ((bif (b13 == true) then
 (r12.2.ld (.n σ.next) 2).bind fun w14 =>
 (AV.asI .i64 w14).bind fun n15 =>
 some ([(.b (decide (n15 ≤ 64)))], r12.2)
 else some ([(.b false)], r12.2)) : Option (List AV × AH O)).bind fun r16 =>
 (AV.asB (r16.1.getD 0 .u)).bind fun b17 =>
 ((bif (b17 == true) then
 (r16.2.ld (.n σ.next) 3).bind fun w18 =>
 (AV.asI .i64 w18).bind fun n19 =>
 (k161 [(.i .i64 n19), (.p (some ((.n σ.next), 0)))] r16.2).bind fun r20 =>
 (AV.asB r20.1).bind fun b21 =>
 some ([(.b b21)], r20.2)
 else some ([(.b false)], r16.2)) : Option (List AV × AH O)).bind fun r22 =>
 (AV.asB (r22.1.getD 0 .u)).bind fun b23 =>
 ((bif (b23 == true) then
 (r22.2.ld (.n σ.next) 4).bind fun w24 =>
 (AV.asI .i64 w24).bind fun n25 =>
 (k161 [(.i .i64 n25), (.p (some ((.n σ.next), 0)))] r22.2).bind fun r26 =>
 (AV.asB r26.1).bind fun b27 =>
 some ([(.b b27)], r26.2)
 else some ([(.b false)], r22.2)) : Option (List AV × AH O)).bind fun r28 =>
 (AV.asB (r28.1.getD 0 .u)).bind fun b29 =>
 ((bif (b29 == true) then
 (r28.2.ld (.n σ.next) 3).bind fun w30 =>
 (AV.asI .i64 w30).bind fun n31 =>
 (r28.2.ld (.n σ.next) 4).bind fun w32 =>
 (AV.asI .i64 w32).bind fun n33 =>
 some ([(.b ((n31 : Int) != n33))], r28.2)
 else some ([(.b false)], r28.2)) : Option (List AV × AH O)).bind fun r34 =>
 (AV.asB (r34.1.getD 0 .u)).bind fun b35 =>
 some ((.b b35), r34.2)
 else none
noncomputable def chain_Table__Right {O : Type} : Sm O := chain_Table__Right_c chain_Table__Right_1
theorem chain_Table__Right_ent : Entered Try.prog 140 := Try.call140
theorem chain_Table__Right_run {O : Type} (k161 : Sm O) : run (O := O) Try.prog [(161, k161)] Try.f140 (.n .z (.n .z (.n (.g [(3, 3, [(12, .one .b)]), (8, 3, [(17, .one .b)]), (13, 4, [(23, .one .b)]), (19, 4, [(29, .one .b)]), (25, 5, [(36, .one .b)])]) .z))) = chain_Table__Right_c k161 := by kernel_rfl
theorem chain_Table__Right_sound {O : Type} {RO : O → Loc → (Nat → Option Obj) → Prop} : FSound RO Try.prog 140 (chain_Table__Right) :=
   have h : FSound RO Try.prog 140 (chain_Table__Right_c chain_Table__Right_1) := (chain_Table__Right_run chain_Table__Right_1) ▸ run_sound (gcons chain_Table__Right_1_ent (chain_Table__Right_1_sound) <| gnil) mixed Try.func140 (by kernel_rfl) _
   h

/-- (*haymow/mem.Mem).Size -/
noncomputable def mem_Mem__Size_c {O : Type} (k138 : Sm O) : Sm O := fun xs σ =>
 bif Nat.beq xs.length 2 then
 (AV.asP (xs.getD 0 .u)).bind fun p0 =>
 (AV.asI .i64 (xs.getD 1 .u)).bind fun n1 =>
 (k138 [(.p p0), (.i .i64 n1)] σ).bind fun r2 =>
 (AV.asP r2.1).bind fun p3 =>
 (bif (Option.isNone p3) then
 some ((.tup [(.i .i64 0), (.i .i64 10)]), r2.2)
 else Option.bind p3 fun q4 =>
 (r2.2.ld q4.1 q4.2).bind fun w5 =>
 (AV.asSl w5).bind fun l6 =>
 some ((.tup [(.i .i64 (l6.2 : Int)), (.i .i64 0)]), r2.2))
 else none
noncomputable def mem_Mem__Size {O : Type} : Sm O := mem_Mem__Size_c mem_Mem__at
theorem mem_Mem__Size_ent : Entered Try.prog 169 := Try.call169
theorem mem_Mem__Size_run {O : Type} (k138 : Sm O) : run (O := O) Try.prog [(138, k138)] Try.f169 (.n .z (.n .z (.n (.n .z (.n .z .z)) .z))) = mem_Mem__Size_c k138 := by kernel_rfl
theorem mem_Mem__Size_sound {O : Type} {RO : O → Loc → (Nat → Option Obj) → Prop} : FSound RO Try.prog 169 (mem_Mem__Size) :=
   have h : FSound RO Try.prog 169 (mem_Mem__Size_c mem_Mem__at) := (mem_Mem__Size_run mem_Mem__at) ▸ run_sound (gcons mem_Mem__at_ent (mem_Mem__at_sound) <| gnil) mixed Try.func169 (by kernel_rfl) _
   h

/-- (haymow/chain.Table).Entries -/
noncomputable def chain_Table__Entries_c {O : Type} (k140 k169 : Sm O) : Sm O := fun xs σ =>
 bif Nat.beq xs.length 1 then
 (AV.asAgg 5 (xs.getD 0 .u)).bind fun c0 =>
 (AV.asP (c0.getD 0 .u)).bind fun p1 =>
 (AV.asI .i64 (c0.getD 1 .u)).bind fun n2 =>
 (AV.asI .i64 (c0.getD 2 .u)).bind fun n3 =>
 (AV.asI .i64 (c0.getD 3 .u)).bind fun n4 =>
 (AV.asI .i64 (c0.getD 4 .u)).bind fun n5 =>
 let σ6 := σ.bump 1
 let σ7 := σ6.put σ.next (.cells true 136 [(.p p1), (.i .i64 n2), (.i .i64 n3), (.i .i64 n4), (.i .i64 n5)])
 (σ7.ld (.n σ.next) 0).bind fun w8 =>
 (AV.asP w8).bind fun p9 =>
 (σ7.ld (.n σ.next) 1).bind fun w10 =>
 (AV.asI .i64 w10).bind fun n11 =>
 (σ7.ld (.n σ.next) 2).bind fun w12 =>
 (AV.asI .i64 w12).bind fun n13 =>
 (σ7.ld (.n σ.next) 3).bind fun w14 =>
 (AV.asI .i64 w14).bind fun n15 =>
 (σ7.ld (.n σ.next) 4).bind fun w16 =>
 (AV.asI .i64 w16).bind fun n17 =>
 (k140 [(.agg [(.p p9), (.i .i64 n11), (.i .i64 n13), (.i .i64 n15), (.i .i64 n17)])] σ7).bind fun r18 =>
 (AV.asB r18.1).bind fun b19 =>
 (bif (!b19) then
 some ((.i .i64 0), r18.2)
 else (r18.2.ld (.n σ.next) 0).bind fun w20 =>
 (AV.asP w20).bind fun p21 =>
 (r18.2.ld (.n σ.next) 1).bind fun w22 =>
 (AV.asI .i64 w22).bind fun n23 =>
 (k169 [(.p p21), (.i .i64 n23)] r18.2).bind fun r24 =>
 (AV.asTup 2 r24.1).bind fun c25 =>
 (AV.asI .i64 (c25.getD 0 .u)).bind fun n26 =>
 (AV.asI .i64 (c25.getD 1 .u)).bind fun n27 =>
 (r24.2.ld (.n σ.next) 2).bind fun w28 =>
 (AV.asI .i64 w28).bind fun n29 =>
 (bif (n29 == 0) then
 none
 else some ((.i .i64 (IntKind.i64.wrap (Int.tdiv n26 n29))), r24.2)))
 else none
noncomputable def chain_Table__Entries {O : Type} : Sm O := chain_Table__Entries_c chain_Table__Right mem_Mem__Size
theorem chain_Table__Entries_ent : Entered Try.prog 156 := Try.call156
theorem chain_Table__Entries_run {O : Type} (k140 k169 : Sm O) : run (O := O) Try.prog [(140, k140), (169, k169)] Try.f156 (.n .z (.n (.n .z (.n .z .z)) (.n .z .z))) = chain_Table__Entries_c k140 k169 := by kernel_rfl
theorem chain_Table__Entries_sound {O : Type} {RO : O → Loc → (Nat → Option Obj) → Prop} : FSound RO Try.prog 156 (chain_Table__Entries) :=
   have h : FSound RO Try.prog 156 (chain_Table__Entries_c chain_Table__Right mem_Mem__Size) := (chain_Table__Entries_run chain_Table__Right mem_Mem__Size) ▸ run_sound (gcons chain_Table__Right_ent (chain_Table__Right_sound) <| gcons mem_Mem__Size_ent (mem_Mem__Size_sound) <| gnil) mixed Try.func156 (by kernel_rfl) _
   h

/-- (haymow/chain.Table).check -/
noncomputable def chain_Table__check_c {O : Type} (k140 k156 : Sm O) : Sm O := fun xs σ =>
 bif Nat.beq xs.length 2 then
 (AV.asAgg 5 (xs.getD 0 .u)).bind fun c0 =>
 (AV.asP (c0.getD 0 .u)).bind fun p1 =>
 (AV.asI .i64 (c0.getD 1 .u)).bind fun n2 =>
 (AV.asI .i64 (c0.getD 2 .u)).bind fun n3 =>
 (AV.asI .i64 (c0.getD 3 .u)).bind fun n4 =>
 (AV.asI .i64 (c0.getD 4 .u)).bind fun n5 =>
 (AV.asI .i64 (xs.getD 1 .u)).bind fun n6 =>
 let σ7 := σ.bump 1
 let σ8 := σ7.put σ.next (.cells true 136 [(.p p1), (.i .i64 n2), (.i .i64 n3), (.i .i64 n4), (.i .i64 n5)])
 (σ8.ld (.n σ.next) 0).bind fun w9 =>
 (AV.asP w9).bind fun p10 =>
 (σ8.ld (.n σ.next) 1).bind fun w11 =>
 (AV.asI .i64 w11).bind fun n12 =>
 (σ8.ld (.n σ.next) 2).bind fun w13 =>
 (AV.asI .i64 w13).bind fun n14 =>
 (σ8.ld (.n σ.next) 3).bind fun w15 =>
 (AV.asI .i64 w15).bind fun n16 =>
 (σ8.ld (.n σ.next) 4).bind fun w17 =>
 (AV.asI .i64 w17).bind fun n18 =>
 (k140 [(.agg [(.p p10), (.i .i64 n12), (.i .i64 n14), (.i .i64 n16), (.i .i64 n18)])] σ8).bind fun r19 =>
 (AV.asB r19.1).bind fun b20 =>
 (bif (!b20) then
 some ((.i .i64 1), r19.2)
 else ((bif ((decide (n6 < 1)) == false) then
 (r19.2.ld (.n σ.next) 0).bind fun w21 =>
 (AV.asP w21).bind fun p22 =>
 (r19.2.ld (.n σ.next) 1).bind fun w23 =>
 (AV.asI .i64 w23).bind fun n24 =>
 (r19.2.ld (.n σ.next) 2).bind fun w25 =>
 (AV.asI .i64 w25).bind fun n26 =>
 (r19.2.ld (.n σ.next) 3).bind fun w27 =>
 (AV.asI .i64 w27).bind fun n28 =>
 (r19.2.ld (.n σ.next) 4).bind fun w29 =>
 (AV.asI .i64 w29).bind fun n30 =>
 (k156 [(.agg [(.p p22), (.i .i64 n24), (.i .i64 n26), (.i .i64 n28), (.i .i64 n30)])] r19.2).bind fun r31 =>
 (AV.asI .i64 r31.1).bind fun n32 =>
 some ([(.b (decide (n6 > n32)))], r31.2)
 else some ([(.b true)], r19.2)) : Option (List AV × AH O)).bind fun r33 =>
 (AV.asB (r33.1.getD 0 .u)).bind fun b34 =>
 (bif b34 then
 some ((.i .i64 2), r33.2)
 else some ((.i .i64 0), r33.2)))
 else none
noncomputable def chain_Table__check {O : Type} : Sm O := chain_Table__check_c chain_Table__Right chain_Table__Entries
theorem chain_Table__check_ent : Entered Try.prog 127 := Try.call127
theorem chain_Table__check_run {O : Type} (k140 k156 : Sm O) : run (O := O) Try.prog [(140, k140), (156, k156)] Try.f127 (.n .z (.n (.n (.n .z (.n .z (.n (.g [(2, 4, [(17, .one .b)])]) (.n .z .z)))) .z) .z)) = chain_Table__check_c k140 k156 := by kernel_rfl
theorem chain_Table__check_sound {O : Type} {RO : O → Loc → (Nat → Option Obj) → Prop} : FSound RO Try.prog 127 (chain_Table__check) :=
   have h : FSound RO Try.prog 127 (chain_Table__check_c chain_Table__Right chain_Table__Entries) := (chain_Table__check_run chain_Table__Right chain_Table__Entries) ▸ run_sound (gcons chain_Table__Right_ent (chain_Table__Right_sound) <| gcons chain_Table__Entries_ent (chain_Table__Entries_sound) <| gnil) mixed Try.func127 (by kernel_rfl) _
   h

/-- (haymow/chain.Table).at -/
noncomputable def chain_Table__at_c {O : Type} : Sm O := fun xs σ =>
 bif Nat.beq xs.length 3 then
 (AV.asAgg 5 (xs.getD 0 .u)).bind fun c0 =>
 (AV.asP (c0.getD 0 .u)).bind fun p1 =>
 (AV.asI .i64 (c0.getD 1 .u)).bind fun n2 =>
 (AV.asI .i64 (c0.getD 2 .u)).bind fun n3 =>
 (AV.asI .i64 (c0.getD 3 .u)).bind fun n4 =>
 (AV.asI .i64 (c0.getD 4 .u)).bind fun n5 =>
 (AV.asI .i64 (xs.getD 1 .u)).bind fun n6 =>
 (AV.asI .i64 (xs.getD 2 .u)).bind fun n7 =>
 let σ8 := σ.bump 1
 let σ9 := σ8.put σ.next (.cells true 136 [(.p p1), (.i .i64 n2), (.i .i64 n3), (.i .i64 n4), (.i .i64 n5)])
 (σ9.ld (.n σ.next) 2).bind fun w10 =>
 (AV.asI .i64 w10).bind fun n11 =>
 let v12 : Int := (IntKind.i64.wrap ((IntKind.i64.wrap (n6 - 1)) * n11))
 some ((.i .i64 (IntKind.i64.wrap (v12 + n7))), σ9)
 else none
noncomputable def chain_Table__at {O : Type} : Sm O := chain_Table__at_c
theorem chain_Table__at_ent : Entered Try.prog 157 := Try.call157
theorem chain_Table__at_run {O : Type} : run (O := O) Try.prog [] Try.f157 (.n .z .z) = chain_Table__at_c  := by kernel_rfl
theorem chain_Table__at_sound {O : Type} {RO : O → Loc → (Nat → Option Obj) → Prop} : FSound RO Try.prog 157 (chain_Table__at) :=
   have h : FSound RO Try.prog 157 (chain_Table__at_c) := (chain_Table__at_run) ▸ run_sound (gnil) mixed Try.func157 (by kernel_rfl) _
   h

/-- (haymow/chain.Table).set -/
noncomputable def chain_Table__set_c {O : Type} (k157 k89 : Sm O) : Sm O := fun xs σ =>
 bif Nat.beq xs.length 4 then
 (AV.asAgg 5 (xs.getD 0 .u)).bind fun c0 =>
 (AV.asP (c0.getD 0 .u)).bind fun p1 =>
 (AV.asI .i64 (c0.getD 1 .u)).bind fun n2 =>
 (AV.asI .i64 (c0.getD 2 .u)).bind fun n3 =>
 (AV.asI .i64 (c0.getD 3 .u)).bind fun n4 =>
 (AV.asI .i64 (c0.getD 4 .u)).bind fun n5 =>
 (AV.asI .i64 (xs.getD 1 .u)).bind fun n6 =>
 (AV.asI .i64 (xs.getD 2 .u)).bind fun n7 =>
 (AV.asI .i64 (xs.getD 3 .u)).bind fun n8 =>
 let σ9 := σ.bump 1
 let σ10 := σ9.put σ.next (.cells true 136 [(.p p1), (.i .i64 n2), (.i .i64 n3), (.i .i64 n4), (.i .i64 n5)])
 (σ10.ld (.n σ.next) 0).bind fun w11 =>
 (AV.asP w11).bind fun p12 =>
 (σ10.ld (.n σ.next) 1).bind fun w13 =>
 (AV.asI .i64 w13).bind fun n14 =>
 (σ10.ld (.n σ.next) 0).bind fun w15 =>
 (AV.asP w15).bind fun p16 =>
 (σ10.ld (.n σ.next) 1).bind fun w17 =>
 (AV.asI .i64 w17).bind fun n18 =>
 (σ10.ld (.n σ.next) 2).bind fun w19 =>
 (AV.asI .i64 w19).bind fun n20 =>
 (σ10.ld (.n σ.next) 3).bind fun w21 =>
 (AV.asI .i64 w21).bind fun n22 =>
 (σ10.ld (.n σ.next) 4).bind fun w23 =>
 (AV.asI .i64 w23).bind fun n24 =>
 (k157 [(.agg [(.p p16), (.i .i64 n18), (.i .i64 n20), (.i .i64 n22), (.i .i64 n24)]), (.i .i64 n6), (.i .i64 n7)] σ10).bind fun r25 =>
 (AV.asI .i64 r25.1).bind fun n26 =>
 (chkE (r25.2.ld (.n σ.next) 0) (some (.p p12))).bind fun _ =>
 (chkE (r25.2.ld (.n σ.next) 1) (some (.i .i64 n14))).bind fun _ =>
 (k89 [(.p p12), (.i .i64 n14), (.i .i64 n26), (.i .u64 (IntKind.u64.wrap n8))] r25.2).bind fun r27 =>
 (AV.asI .i64 r27.1).bind fun n28 =>
 some ((.tup []), r27.2)
 else none
noncomputable def chain_Table__set {O : Type} : Sm O := chain_Table__set_c chain_Table__at mem_Mem__Write
theorem chain_Table__set_ent : Entered Try.prog 128 := Try.call128
theorem chain_Table__set_run {O : Type} (k157 k89 : Sm O) : run (O := O) Try.prog [(157, k157), (89, k89)] Try.f128 (.n .z (.d [] [0, 1, 2, 3, 4, 5, 6, 8, 9, 7, 10] [0, 1, 0, 4, 0, 0, 0, 112, 0, 256, 1023])) = chain_Table__set_c k157 k89 := by kernel_rfl
theorem chain_Table__set_sound {O : Type} {RO : O → Loc → (Nat → Option Obj) → Prop} : FSound RO Try.prog 128 (chain_Table__set) :=
   have h : FSound RO Try.prog 128 (chain_Table__set_c chain_Table__at mem_Mem__Write) := (chain_Table__set_run chain_Table__at mem_Mem__Write) ▸ run_sound (gcons chain_Table__at_ent (chain_Table__at_sound) <| gcons mem_Mem__Write_ent (mem_Mem__Write_sound) <| gnil) mixed Try.func128 (by kernel_rfl) _
   h

/-- (haymow/chain.Table).Push -/
noncomputable def chain_Table__Push_c {O : Type} (k127 k128 : Sm O) : Sm O := fun xs σ =>
 bif Nat.beq xs.length 3 then
 (AV.asAgg 5 (xs.getD 0 .u)).bind fun c0 =>
 (AV.asP (c0.getD 0 .u)).bind fun p1 =>
 (AV.asI .i64 (c0.getD 1 .u)).bind fun n2 =>
 (AV.asI .i64 (c0.getD 2 .u)).bind fun n3 =>
 (AV.asI .i64 (c0.getD 3 .u)).bind fun n4 =>
 (AV.asI .i64 (c0.getD 4 .u)).bind fun n5 =>
 (AV.asAgg 3 (xs.getD 1 .u)).bind fun c6 =>
 (AV.asI .i64 (c6.getD 0 .u)).bind fun n7 =>
 (AV.asI .i64 (c6.getD 1 .u)).bind fun n8 =>
 (AV.asI .i64 (c6.getD 2 .u)).bind fun n9 =>
 (AV.asI .i64 (xs.getD 2 .u)).bind fun n10 =>
 let σ11 := σ.bump 3
 let σ12 := σ11.put σ.next (.cells true 136 [(.p p1), (.i .i64 n2), (.i .i64 n3), (.i .i64 n4), (.i .i64 n5)])
 let σ13 := σ12.put (σ.next + 1) (.cells true 130 [(.i .i64 n7), (.i .i64 n8), (.i .i64 n9)])
 let σ14 := σ13.put ((σ.next + 1) + 1) (.cells true 130 [(.i .i64 0), (.i .i64 0), (.i .i64 0)])
 (σ14.ld (.n σ.next) 0).bind fun w15 =>
 (AV.asP w15).bind fun p16 =>
 (σ14.ld (.n σ.next) 1).bind fun w17 =>
 (AV.asI .i64 w17).bind fun n18 =>
 (σ14.ld (.n σ.next) 2).bind fun w19 =>
 (AV.asI .i64 w19).bind fun n20 =>
 (σ14.ld (.n σ.next) 3).bind fun w21 =>
 (AV.asI .i64 w21).bind fun n22 =>
 (σ14.ld (.n σ.next) 4).bind fun w23 =>
 (AV.asI .i64 w23).bind fun n24 =>
 (k127 [(.agg [(.p p16), (.i .i64 n18), (.i .i64 n20), (.i .i64 n22), (.i .i64 n24)]), (.i .i64 n10)] σ14).bind fun r25 =>
 (AV.asI .i64 r25.1).bind fun n26 =>
 (bif ((n26 : Int) != 0) then
 (r25.2.ld (.n (σ.next + 1)) 0).bind fun w27 =>
 (AV.asI .i64 w27).bind fun n28 =>
 (r25.2.ld (.n (σ.next + 1)) 1).bind fun w29 =>
 (AV.asI .i64 w29).bind fun n30 =>
 (r25.2.ld (.n (σ.next + 1)) 2).bind fun w31 =>
 (AV.asI .i64 w31).bind fun n32 =>
 (r25.2.st (.n ((σ.next + 1) + 1)) 0 [(.i .i64 n28), (.i .i64 n30), (.i .i64 n32)]).bind fun σ33 =>
 (σ33.ld (.n ((σ.next + 1) + 1)) 0).bind fun w34 =>
 (AV.asI .i64 w34).bind fun n35 =>
 (σ33.ld (.n ((σ.next + 1) + 1)) 1).bind fun w36 =>
 (AV.asI .i64 w36).bind fun n37 =>
 (σ33.ld (.n ((σ.next + 1) + 1)) 2).bind fun w38 =>
 (AV.asI .i64 w38).bind fun n39 =>
 some ((.tup [(.agg [(.i .i64 n35), (.i .i64 n37), (.i .i64 n39)]), (.i .i64 n26)]), σ33)
 else (r25.2.ld (.n σ.next) 0).bind fun w40 =>
 (AV.asP w40).bind fun p41 =>
 (r25.2.ld (.n σ.next) 1).bind fun w42 =>
 (AV.asI .i64 w42).bind fun n43 =>
 (r25.2.ld (.n σ.next) 2).bind fun w44 =>
 (AV.asI .i64 w44).bind fun n45 =>
 (r25.2.ld (.n σ.next) 3).bind fun w46 =>
 (AV.asI .i64 w46).bind fun n47 =>
 (r25.2.ld (.n σ.next) 4).bind fun w48 =>
 (AV.asI .i64 w48).bind fun n49 =>
 (r25.2.ld (.n σ.next) 4).bind fun w50 =>
 (AV.asI .i64 w50).bind fun n51 =>
 (r25.2.ld (.n (σ.next + 1)) 1).bind fun w52 =>
 (AV.asI .i64 w52).bind fun n53 =>
 (k128 [(.agg [(.p p41), (.i .i64 n43), (.i .i64 n45), (.i .i64 n47), (.i .i64 n49)]), (.i .i64 n10), (.i .i64 n51), (.i .i64 n53)] r25.2).bind fun r54 =>
 (AV.asTup 0 r54.1).bind fun c55 =>
 (r54.2.ld (.n σ.next) 0).bind fun w56 =>
 (AV.asP w56).bind fun p57 =>
 (r54.2.ld (.n σ.next) 1).bind fun w58 =>
 (AV.asI .i64 w58).bind fun n59 =>
 (r54.2.ld (.n σ.next) 2).bind fun w60 =>
 (AV.asI .i64 w60).bind fun n61 =>
 (r54.2.ld (.n σ.next) 3).bind fun w62 =>
 (AV.asI .i64 w62).bind fun n63 =>
 (r54.2.ld (.n σ.next) 4).bind fun w64 =>
 (AV.asI .i64 w64).bind fun n65 =>
 (r54.2.ld (.n σ.next) 3).bind fun w66 =>
 (AV.asI .i64 w66).bind fun n67 =>
 (k128 [(.agg [(.p p57), (.i .i64 n59), (.i .i64 n61), (.i .i64 n63), (.i .i64 n65)]), (.i .i64 n10), (.i .i64 n67), (.i .i64 0)] r54.2).bind fun r68 =>
 (AV.asTup 0 r68.1).bind fun c69 =>
 (r68.2.ld (.n (σ.next + 1)) 2).bind fun w70 =>
 (AV.asI .i64 w70).bind fun n71 =>
 (bif ((n71 : Int) == 0) then
 (r68.2.st (.n ((σ.next + 1) + 1)) 0 [(.i .i64 n10), (.i .i64 n10), (.i .i64 1)]).bind fun σ72 =>
 (σ72.ld (.n ((σ.next + 1) + 1)) 0).bind fun w73 =>
 (AV.asI .i64 w73).bind fun n74 =>
 (σ72.ld (.n ((σ.next + 1) + 1)) 1).bind fun w75 =>
 (AV.asI .i64 w75).bind fun n76 =>
 (σ72.ld (.n ((σ.next + 1) + 1)) 2).bind fun w77 =>
 (AV.asI .i64 w77).bind fun n78 =>
 some ((.tup [(.agg [(.i .i64 n74), (.i .i64 n76), (.i .i64 n78)]), (.i .i64 0)]), σ72)
 else (r68.2.ld (.n σ.next) 0).bind fun w79 =>
 (AV.asP w79).bind fun p80 =>
 (r68.2.ld (.n σ.next) 1).bind fun w81 =>
 (AV.asI .i64 w81).bind fun n82 =>
 (r68.2.ld (.n σ.next) 2).bind fun w83 =>
 (AV.asI .i64 w83).bind fun n84 =>
 (r68.2.ld (.n σ.next) 3).bind fun w85 =>
 (AV.asI .i64 w85).bind fun n86 =>
 (r68.2.ld (.n σ.next) 4).bind fun w87 =>
 (AV.asI .i64 w87).bind fun n88 =>
 (r68.2.ld (.n (σ.next + 1)) 1).bind fun w89 =>
 (AV.asI .i64 w89).bind fun n90 =>
 (r68.2.ld (.n σ.next) 3).bind fun w91 =>
 (AV.asI .i64 w91).bind fun n92 =>
 (k128 [(.agg [(.p p80), (.i .i64 n82), (.i .i64 n84), (.i .i64 n86), (.i .i64 n88)]), (.i .i64 n90), (.i .i64 n92), (.i .i64 n10)] r68.2).bind fun r93 =>
 (AV.asTup 0 r93.1).bind fun c94 =>
 (r93.2.ld (.n (σ.next + 1)) 0).bind fun w95 =>
 (AV.asI .i64 w95).bind fun n96 =>
 (r93.2.ld (.n (σ.next + 1)) 2).bind fun w97 =>
 (AV.asI .i64 w97).bind fun n98 =>
 (r93.2.st (.n ((σ.next + 1) + 1)) 0 [(.i .i64 n96), (.i .i64 n10), (.i .i64 (IntKind.i64.wrap (n98 + 1)))]).bind fun σ99 =>
 (σ99.ld (.n ((σ.next + 1) + 1)) 0).bind fun w100 =>
 (AV.asI .i64 w100).bind fun n101 =>
 (σ99.ld (.n ((σ.next + 1) + 1)) 1).bind fun w102 =>
 (AV.asI .i64 w102).bind fun n103 =>
 (σ99.ld (.n ((σ.next + 1) + 1)) 2).bind fun w104 =>
 (AV.asI .i64 w104).bind fun n105 =>
 some ((.tup [(.agg [(.i .i64 n101), (.i .i64 n103), (.i .i64 n105)]), (.i .i64 0)]), σ99)))
 else none
noncomputable def chain_Table__Push {O : Type} : Sm O := chain_Table__Push_c chain_Table__check chain_Table__set
theorem chain_Table__Push_ent : Entered Try.prog 63 := Try.call63
theorem chain_Table__Push_run {O : Type} (k127 k128 : Sm O) : run (O := O) Try.prog [(127, k127), (128, k128)] Try.f63 (.n .z (.n (.n .z (.n .z (.n .z .z))) (.n .z (.n .z (.n (.n .z (.n .z .z)) (.n .z .z)))))) = chain_Table__Push_c k127 k128 := by kernel_rfl
theorem chain_Table__Push_sound {O : Type} {RO : O → Loc → (Nat → Option Obj) → Prop} : FSound RO Try.prog 63 (chain_Table__Push) :=
   have h : FSound RO Try.prog 63 (chain_Table__Push_c chain_Table__check chain_Table__set) := (chain_Table__Push_run chain_Table__check chain_Table__set) ▸ run_sound (gcons chain_Table__check_ent (chain_Table__check_sound) <| gcons chain_Table__set_ent (chain_Table__set_sound) <| gnil) mixed Try.func63 (by kernel_rfl) _
   h

/-- (*haymow/pool.Pool).Gen -/
noncomputable def pool_Pool__Gen_c {O : Type} (k129 : Sm O) : Sm O := fun xs σ =>
 bif Nat.beq xs.length 2 then
 (AV.asP (xs.getD 0 .u)).bind fun p0 =>
 (AV.asI .i64 (xs.getD 1 .u)).bind fun n1 =>
 (k129 [(.p p0), (.i .i64 n1)] σ).bind fun r2 =>
 (AV.asTup 2 r2.1).bind fun c3 =>
 (AV.asI .u64 (c3.getD 0 .u)).bind fun n4 =>
 (AV.asB (c3.getD 1 .u)).bind fun b5 =>
 some ((.i .i64 (IntKind.i64.wrap (Int.fdiv n4 (2 ^ 1)))), r2.2)
 else none
noncomputable def pool_Pool__Gen {O : Type} : Sm O := pool_Pool__Gen_c pool_Pool__look
theorem pool_Pool__Gen_ent : Entered Try.prog 65 := Try.call65
theorem pool_Pool__Gen_run {O : Type} (k129 : Sm O) : run (O := O) Try.prog [(129, k129)] Try.f65 (.n .z (.n .z .z)) = pool_Pool__Gen_c k129 := by kernel_rfl
theorem pool_Pool__Gen_sound {O : Type} {RO : O → Loc → (Nat → Option Obj) → Prop} : FSound RO Try.prog 65 (pool_Pool__Gen) :=
   have h : FSound RO Try.prog 65 (pool_Pool__Gen_c pool_Pool__look) := (pool_Pool__Gen_run pool_Pool__look) ▸ run_sound (gcons pool_Pool__look_ent (pool_Pool__look_sound) <| gnil) mixed Try.func65 (by kernel_rfl) _
   h

/-- haymow/handles.token -/
noncomputable def handles_token_c {O : Type} : Sm O := fun xs σ =>
 bif Nat.beq xs.length 2 then
 (AV.asI .i64 (xs.getD 0 .u)).bind fun n0 =>
 (AV.asI .i64 (xs.getD 1 .u)).bind fun n1 =>
 let v2 : Int := (ibits .or .i64 (IntKind.i64.wrap (n1 * 2 ^ 20)) (IntKind.i64.wrap (n0 - 1)))
 some ((.i .i64 v2), σ)
 else none
noncomputable def handles_token {O : Type} : Sm O := handles_token_c
theorem handles_token_ent : Entered Try.prog 64 := Try.call64
theorem handles_token_run {O : Type} : run (O := O) Try.prog [] Try.f64 (.n .z .z) = handles_token_c  := by kernel_rfl
theorem handles_token_sound {O : Type} {RO : O → Loc → (Nat → Option Obj) → Prop} : FSound RO Try.prog 64 (handles_token) :=
   have h : FSound RO Try.prog 64 (handles_token_c) := (handles_token_run) ▸ run_sound (gnil) mixed Try.func64 (by kernel_rfl) _
   h

/-- (*haymow/handles.Handles).Add -/
noncomputable def handles_Handles__Add_c {O : Type} (k60 k61 k62 k63 k65 k64 : Sm O) : Sm O := fun xs σ =>
 bif Nat.beq xs.length 2 then
 (AV.asP (xs.getD 0 .u)).bind fun p0 =>
 (AV.asI .u64 (xs.getD 1 .u)).bind fun n1 =>
 Option.bind p0 fun q2 =>
 (σ.ld q2.1 q2.2).bind fun w3 =>
 (AV.asP w3).bind fun p4 =>
 (k60 [(.p p4)] σ).bind fun r5 =>
 (AV.asTup 2 r5.1).bind fun c6 =>
 (AV.asI .i64 (c6.getD 0 .u)).bind fun n7 =>
 (AV.asI .i64 (c6.getD 1 .u)).bind fun n8 =>
 (bif ((n8 : Int) != 0) then
 some ((.tup [(.i .i64 0), (.i .i64 n8)]), r5.2)
 else Option.bind p0 fun q9 =>
 (r5.2.ld q9.1 q9.2).bind fun w10 =>
 (AV.asP w10).bind fun p11 =>
 (k61 [(.p p11), (.i .i64 n7), (.i .i64 0), (.i .u64 n1)] r5.2).bind fun r12 =>
 (AV.asI .i64 r12.1).bind fun n13 =>
 Option.bind p0 fun q14 =>
 (r12.2.ld q14.1 (q14.2 + 1)).bind fun w15 =>
 (AV.asI .i64 w15).bind fun n16 =>
 (r12.2.ld q14.1 ((q14.2 + 1) + 1)).bind fun w17 =>
 (AV.asI .i64 w17).bind fun n18 =>
 (r12.2.ld q14.1 (((q14.2 + 1) + 1) + 1)).bind fun w19 =>
 (AV.asI .i64 w19).bind fun n20 =>
 (k62 [(.p p0)] r12.2).bind fun r21 =>
 (AV.asAgg 5 r21.1).bind fun c22 =>
 (AV.asP (c22.getD 0 .u)).bind fun p23 =>
 (AV.asI .i64 (c22.getD 1 .u)).bind fun n24 =>
 (AV.asI .i64 (c22.getD 2 .u)).bind fun n25 =>
 (AV.asI .i64 (c22.getD 3 .u)).bind fun n26 =>
 (AV.asI .i64 (c22.getD 4 .u)).bind fun n27 =>
 (chkE (r21.2.ld q14.1 (q14.2 + 1)) (some (.i .i64 n16))).bind fun _ =>
 (chkE (r21.2.ld q14.1 ((q14.2 + 1) + 1)) (some (.i .i64 n18))).bind fun _ =>
 (chkE (r21.2.ld q14.1 (((q14.2 + 1) + 1) + 1)) (some (.i .i64 n20))).bind fun _ =>
 (k63 [(.agg [(.p p23), (.i .i64 n24), (.i .i64 n25), (.i .i64 n26), (.i .i64 n27)]), (.agg [(.i .i64 n16), (.i .i64 n18), (.i .i64 n20)]), (.i .i64 n7)] r21.2).bind fun r28 =>
 (AV.asTup 2 r28.1).bind fun c29 =>
 (AV.asAgg 3 (c29.getD 0 .u)).bind fun c30 =>
 (AV.asI .i64 (c30.getD 0 .u)).bind fun n31 =>
 (AV.asI .i64 (c30.getD 1 .u)).bind fun n32 =>
 (AV.asI .i64 (c30.getD 2 .u)).bind fun n33 =>
 (AV.asI .i64 (c29.getD 1 .u)).bind fun n34 =>
 Option.bind p0 fun q35 =>
 (r28.2.st q35.1 (q35.2 + 1) [(.i .i64 n31), (.i .i64 n32), (.i .i64 n33)]).bind fun σ36 =>
 Option.bind p0 fun q37 =>
 (σ36.ld q37.1 q37.2).bind fun w38 =>
 (AV.asP w38).bind fun p39 =>
 (k65 [(.p p39), (.i .i64 n7)] σ36).bind fun r40 =>
 (AV.asI .i64 r40.1).bind fun n41 =>
 (k64 [(.i .i64 n7), (.i .i64 n41)] r40.2).bind fun r42 =>
 (AV.asI .i64 r42.1).bind fun n43 =>
 some ((.tup [(.i .i64 n43), (.i .i64 0)]), r42.2))
 else none
noncomputable def handles_Handles__Add {O : Type} : Sm O := handles_Handles__Add_c pool_Pool__Take pool_Pool__Set handles_Handles__table chain_Table__Push pool_Pool__Gen handles_token
theorem handles_Handles__Add_ent : Entered Try.prog 13 := Try.call13
theorem handles_Handles__Add_run {O : Type} (k60 k61 k62 k63 k65 k64 : Sm O) : run (O := O) Try.prog [(60, k60), (61, k61), (62, k62), (63, k63), (65, k65), (64, k64)] Try.f13 (.n .z (.n .z (.n (.n .z (.n .z .z)) (.n .z (.n (.d [] [0, 1, 3, 4, 5, 6, 7, 2, 8, 9, 10, 11, 12, 13, 14] [0, 0, 2, 0, 8, 24, 56, 0, 254, 510, 1022, 1022, 2047, 6143, 14335]) .z))))) = handles_Handles__Add_c k60 k61 k62 k63 k65 k64 := by kernel_rfl
theorem handles_Handles__Add_sound {O : Type} {RO : O → Loc → (Nat → Option Obj) → Prop} : FSound RO Try.prog 13 (handles_Handles__Add) :=
   have h : FSound RO Try.prog 13 (handles_Handles__Add_c pool_Pool__Take pool_Pool__Set handles_Handles__table chain_Table__Push pool_Pool__Gen handles_token) := (handles_Handles__Add_run pool_Pool__Take pool_Pool__Set handles_Handles__table chain_Table__Push pool_Pool__Gen handles_token) ▸ run_sound (gcons pool_Pool__Take_ent (pool_Pool__Take_sound) <| gcons pool_Pool__Set_ent (pool_Pool__Set_sound) <| gcons handles_Handles__table_ent (handles_Handles__table_sound) <| gcons chain_Table__Push_ent (chain_Table__Push_sound) <| gcons pool_Pool__Gen_ent (pool_Pool__Gen_sound) <| gcons handles_token_ent (handles_token_sound) <| gnil) mixed Try.func13 (by kernel_rfl) _
   h

/-- (*haymow/handles.Handles).id -/
noncomputable def handles_Handles__id_c {O : Type} (k135 k65 : Sm O) : Sm O := fun xs σ =>
 bif Nat.beq xs.length 2 then
 (AV.asP (xs.getD 0 .u)).bind fun p0 =>
 (AV.asI .i64 (xs.getD 1 .u)).bind fun n1 =>
 let v2 : Int := (IntKind.i64.wrap ((ibits .and .i64 n1 1048575) + 1))
 ((bif ((decide (n1 < 0)) == false) then
 Option.bind p0 fun q3 =>
 (σ.ld q3.1 q3.2).bind fun w4 =>
 (AV.asP w4).bind fun p5 =>
 (k135 [(.p p5), (.i .i64 v2)] σ).bind fun r6 =>
 (AV.asB r6.1).bind fun b7 =>
 some ([(.b (!b7))], r6.2)
 else some ([(.b true)], σ)) : Option (List AV × AH O)).bind fun r8 =>
 (AV.asB (r8.1.getD 0 .u)).bind fun b9 =>
 ((bif (b9 == false) then
 Option.bind p0 fun q10 =>
 (r8.2.ld q10.1 q10.2).bind fun w11 =>
 (AV.asP w11).bind fun p12 =>
 (k65 [(.p p12), (.i .i64 v2)] r8.2).bind fun r13 =>
 (AV.asI .i64 r13.1).bind fun n14 =>
 some ([(.b ((n14 : Int) != (Int.fdiv n1 (2 ^ 20))))], r13.2)
 else some ([(.b true)], r8.2)) : Option (List AV × AH O)).bind fun r15 =>
 (AV.asB (r15.1.getD 0 .u)).bind fun b16 =>
 (bif b16 then
 some ((.tup [(.i .i64 0), (.i .i64 30)]), r15.2)
 else some ((.tup [(.i .i64 v2), (.i .i64 0)]), r15.2))
 else none
noncomputable def handles_Handles__id {O : Type} : Sm O := handles_Handles__id_c pool_Pool__Taken pool_Pool__Gen
theorem handles_Handles__id_ent : Entered Try.prog 78 := Try.call78
theorem handles_Handles__id_run {O : Type} (k135 k65 : Sm O) : run (O := O) Try.prog [(135, k135), (65, k65)] Try.f78 (.n .z (.n .z (.n (.n (.g [(2, 7, [(20, .one .b)]), (11, 9, [(31, .one .b)])]) (.n .z .z)) .z))) = handles_Handles__id_c k135 k65 := by kernel_rfl
theorem handles_Handles__id_sound {O : Type} {RO : O → Loc → (Nat → Option Obj) → Prop} : FSound RO Try.prog 78 (handles_Handles__id) :=
   have h : FSound RO Try.prog 78 (handles_Handles__id_c pool_Pool__Taken pool_Pool__Gen) := (handles_Handles__id_run pool_Pool__Taken pool_Pool__Gen) ▸ run_sound (gcons pool_Pool__Taken_ent (pool_Pool__Taken_sound) <| gcons pool_Pool__Gen_ent (pool_Pool__Gen_sound) <| gnil) mixed Try.func78 (by kernel_rfl) _
   h

/-- (haymow/chain.Table).get -/
noncomputable def chain_Table__get_c {O : Type} (k157 k92 : Sm O) : Sm O := fun xs σ =>
 bif Nat.beq xs.length 3 then
 (AV.asAgg 5 (xs.getD 0 .u)).bind fun c0 =>
 (AV.asP (c0.getD 0 .u)).bind fun p1 =>
 (AV.asI .i64 (c0.getD 1 .u)).bind fun n2 =>
 (AV.asI .i64 (c0.getD 2 .u)).bind fun n3 =>
 (AV.asI .i64 (c0.getD 3 .u)).bind fun n4 =>
 (AV.asI .i64 (c0.getD 4 .u)).bind fun n5 =>
 (AV.asI .i64 (xs.getD 1 .u)).bind fun n6 =>
 (AV.asI .i64 (xs.getD 2 .u)).bind fun n7 =>
 let σ8 := σ.bump 1
 let σ9 := σ8.put σ.next (.cells true 136 [(.p p1), (.i .i64 n2), (.i .i64 n3), (.i .i64 n4), (.i .i64 n5)])
 (σ9.ld (.n σ.next) 0).bind fun w10 =>
 (AV.asP w10).bind fun p11 =>
 (σ9.ld (.n σ.next) 1).bind fun w12 =>
 (AV.asI .i64 w12).bind fun n13 =>
 (σ9.ld (.n σ.next) 0).bind fun w14 =>
 (AV.asP w14).bind fun p15 =>
 (σ9.ld (.n σ.next) 1).bind fun w16 =>
 (AV.asI .i64 w16).bind fun n17 =>
 (σ9.ld (.n σ.next) 2).bind fun w18 =>
 (AV.asI .i64 w18).bind fun n19 =>
 (σ9.ld (.n σ.next) 3).bind fun w20 =>
 (AV.asI .i64 w20).bind fun n21 =>
 (σ9.ld (.n σ.next) 4).bind fun w22 =>
 (AV.asI .i64 w22).bind fun n23 =>
 (k157 [(.agg [(.p p15), (.i .i64 n17), (.i .i64 n19), (.i .i64 n21), (.i .i64 n23)]), (.i .i64 n6), (.i .i64 n7)] σ9).bind fun r24 =>
 (AV.asI .i64 r24.1).bind fun n25 =>
 (chkE (r24.2.ld (.n σ.next) 0) (some (.p p11))).bind fun _ =>
 (chkE (r24.2.ld (.n σ.next) 1) (some (.i .i64 n13))).bind fun _ =>
 (k92 [(.p p11), (.i .i64 n13), (.i .i64 n25)] r24.2).bind fun r26 =>
 (AV.asTup 2 r26.1).bind fun c27 =>
 (AV.asI .u64 (c27.getD 0 .u)).bind fun n28 =>
 (AV.asI .i64 (c27.getD 1 .u)).bind fun n29 =>
 some ((.i .i64 (IntKind.i64.wrap n28)), r26.2)
 else none
noncomputable def chain_Table__get {O : Type} : Sm O := chain_Table__get_c chain_Table__at mem_Mem__Read
theorem chain_Table__get_ent : Entered Try.prog 141 := Try.call141
theorem chain_Table__get_run {O : Type} (k157 k92 : Sm O) : run (O := O) Try.prog [(157, k157), (92, k92)] Try.f141 (.n .z (.n (.d [] [0, 1, 2, 3, 4, 5, 6, 7, 8, 9, 10, 11, 12, 13] [0, 1, 0, 4, 0, 0, 0, 112, 255, 511, 1023, 1023, 2047, 8191]) .z)) = chain_Table__get_c k157 k92 := by kernel_rfl
theorem chain_Table__get_sound {O : Type} {RO : O → Loc → (Nat → Option Obj) → Prop} : FSound RO Try.prog 141 (chain_Table__get) :=
   have h : FSound RO Try.prog 141 (chain_Table__get_c chain_Table__at mem_Mem__Read) := (chain_Table__get_run chain_Table__at mem_Mem__Read) ▸ run_sound (gcons chain_Table__at_ent (chain_Table__at_sound) <| gcons mem_Mem__Read_ent (mem_Mem__Read_sound) <| gnil) mixed Try.func141 (by kernel_rfl) _
   h

/-- (haymow/chain.Table).Drop -/
noncomputable def chain_Table__Drop_c {O : Type} (k127 k141 k128 : Sm O) : Sm O := fun xs σ =>
 bif Nat.beq xs.length 3 then
 (AV.asAgg 5 (xs.getD 0 .u)).bind fun c0 =>
 (AV.asP (c0.getD 0 .u)).bind fun p1 =>
 (AV.asI .i64 (c0.getD 1 .u)).bind fun n2 =>
 (AV.asI .i64 (c0.getD 2 .u)).bind fun n3 =>
 (AV.asI .i64 (c0.getD 3 .u)).bind fun n4 =>
 (AV.asI .i64 (c0.getD 4 .u)).bind fun n5 =>
 (AV.asAgg 3 (xs.getD 1 .u)).bind fun c6 =>
 (AV.asI .i64 (c6.getD 0 .u)).bind fun n7 =>
 (AV.asI .i64 (c6.getD 1 .u)).bind fun n8 =>
 (AV.asI .i64 (c6.getD 2 .u)).bind fun n9 =>
 (AV.asI .i64 (xs.getD 2 .u)).bind fun n10 =>
 let σ11 := σ.bump 3
 let σ12 := σ11.put σ.next (.cells true 136 [(.p p1), (.i .i64 n2), (.i .i64 n3), (.i .i64 n4), (.i .i64 n5)])
 let σ13 := σ12.put (σ.next + 1) (.cells true 130 [(.i .i64 n7), (.i .i64 n8), (.i .i64 n9)])
 let σ14 := σ13.put ((σ.next + 1) + 1) (.cells true 130 [(.i .i64 0), (.i .i64 0), (.i .i64 0)])
 (σ14.ld (.n σ.next) 0).bind fun w15 =>
 (AV.asP w15).bind fun p16 =>
 (σ14.ld (.n σ.next) 1).bind fun w17 =>
 (AV.asI .i64 w17).bind fun n18 =>
 (σ14.ld (.n σ.next) 2).bind fun w19 =>
 (AV.asI .i64 w19).bind fun n20 =>
 (σ14.ld (.n σ.next) 3).bind fun w21 =>
 (AV.asI .i64 w21).bind fun n22 =>
 (σ14.ld (.n σ.next) 4).bind fun w23 =>
 (AV.asI .i64 w23).bind fun n24 =>
 (k127 [(.agg [(.p p16), (.i .i64 n18), (.i .i64 n20), (.i .i64 n22), (.i .i64 n24)]), (.i .i64 n10)] σ14).bind fun r25 =>
 (AV.asI .i64 r25.1).bind fun n26 =>
 (bif ((n26 : Int) != 0) then
 (r25.2.ld (.n (σ.next + 1)) 0).bind fun w27 =>
 (AV.asI .i64 w27).bind fun n28 =>
 (r25.2.ld (.n (σ.next + 1)) 1).bind fun w29 =>
 (AV.asI .i64 w29).bind fun n30 =>
 (r25.2.ld (.n (σ.next + 1)) 2).bind fun w31 =>
 (AV.asI .i64 w31).bind fun n32 =>
 (r25.2.st (.n ((σ.next + 1) + 1)) 0 [(.i .i64 n28), (.i .i64 n30), (.i .i64 n32)]).bind fun σ33 =>
 (σ33.ld (.n ((σ.next + 1) + 1)) 0).bind fun w34 =>
 (AV.asI .i64 w34).bind fun n35 =>
 (σ33.ld (.n ((σ.next + 1) + 1)) 1).bind fun w36 =>
 (AV.asI .i64 w36).bind fun n37 =>
 (σ33.ld (.n ((σ.next + 1) + 1)) 2).bind fun w38 =>
 (AV.asI .i64 w38).bind fun n39 =>
 some ((.tup [(.agg [(.i .i64 n35), (.i .i64 n37), (.i .i64 n39)]), (.i .i64 n26)]), σ33)
 else (r25.2.ld (.n σ.next) 0).bind fun w40 =>
 (AV.asP w40).bind fun p41 =>
 (r25.2.ld (.n σ.next) 1).bind fun w42 =>
 (AV.asI .i64 w42).bind fun n43 =>
 (r25.2.ld (.n σ.next) 2).bind fun w44 =>
 (AV.asI .i64 w44).bind fun n45 =>
 (r25.2.ld (.n σ.next) 3).bind fun w46 =>
 (AV.asI .i64 w46).bind fun n47 =>
 (r25.2.ld (.n σ.next) 4).bind fun w48 =>
 (AV.asI .i64 w48).bind fun n49 =>
 (r25.2.ld (.n σ.next) 3).bind fun w50 =>
 (AV.asI .i64 w50).bind fun n51 =>
 (r25.2.ld (.n σ.next) 0).bind fun w52 =>
 (AV.asP w52).bind fun p53 =>
 (r25.2.ld (.n σ.next) 1).bind fun w54 =>
 (AV.asI .i64 w54).bind fun n55 =>
 (r25.2.ld (.n σ.next) 2).bind fun w56 =>
 (AV.asI .i64 w56).bind fun n57 =>
 (r25.2.ld (.n σ.next) 3).bind fun w58 =>
 (AV.asI .i64 w58).bind fun n59 =>
 (r25.2.ld (.n σ.next) 4).bind fun w60 =>
 (AV.asI .i64 w60).bind fun n61 =>
 (r25.2.ld (.n σ.next) 4).bind fun w62 =>
 (AV.asI .i64 w62).bind fun n63 =>
 (k141 [(.agg [(.p p41), (.i .i64 n43), (.i .i64 n45), (.i .i64 n47), (.i .i64 n49)]), (.i .i64 n10), (.i .i64 n51)] r25.2).bind fun r64 =>
 (AV.asI .i64 r64.1).bind fun n65 =>
 (chkE (r64.2.ld (.n σ.next) 0) (some (.p p53))).bind fun _ =>
 (chkE (r64.2.ld (.n σ.next) 1) (some (.i .i64 n55))).bind fun _ =>
 (chkE (r64.2.ld (.n σ.next) 2) (some (.i .i64 n57))).bind fun _ =>
 (chkE (r64.2.ld (.n σ.next) 3) (some (.i .i64 n59))).bind fun _ =>
 (chkE (r64.2.ld (.n σ.next) 4) (some (.i .i64 n61))).bind fun _ =>
 (chkE (r64.2.ld (.n σ.next) 4) (some (.i .i64 n63))).bind fun _ =>
 (k141 [(.agg [(.p p53), (.i .i64 n55), (.i .i64 n57), (.i .i64 n59), (.i .i64 n61)]), (.i .i64 n10), (.i .i64 n63)] r64.2).bind fun r66 =>
 (AV.asI .i64 r66.1).bind fun n67 =>
 ((bif ((n67 : Int) != 0) then
 (r66.2.ld (.n σ.next) 0).bind fun w68 =>
 (AV.asP w68).bind fun p69 =>
 (r66.2.ld (.n σ.next) 1).bind fun w70 =>
 (AV.asI .i64 w70).bind fun n71 =>
 (r66.2.ld (.n σ.next) 2).bind fun w72 =>
 (AV.asI .i64 w72).bind fun n73 =>
 (r66.2.ld (.n σ.next) 3).bind fun w74 =>
 (AV.asI .i64 w74).bind fun n75 =>
 (r66.2.ld (.n σ.next) 4).bind fun w76 =>
 (AV.asI .i64 w76).bind fun n77 =>
 (r66.2.ld (.n σ.next) 3).bind fun w78 =>
 (AV.asI .i64 w78).bind fun n79 =>
 (k128 [(.agg [(.p p69), (.i .i64 n71), (.i .i64 n73), (.i .i64 n75), (.i .i64 n77)]), (.i .i64 n67), (.i .i64 n79), (.i .i64 n65)] r66.2).bind fun r80 =>
 (AV.asTup 0 r80.1).bind fun c81 =>
 some ([], r80.2)
 else (r66.2.st (.n (σ.next + 1)) 0 [(.i .i64 n65)]).bind fun σ82 =>
 some ([], σ82)) : Option (List AV × AH O)).bind fun r83 =>
 ((bif ((n65 : Int) != 0) then
 (r83.2.ld (.n σ.next) 0).bind fun w84 =>
 (AV.asP w84).bind fun p85 =>
 (r83.2.ld (.n σ.next) 1).bind fun w86 =>
 (AV.asI .i64 w86).bind fun n87 =>
 (r83.2.ld (.n σ.next) 2).bind fun w88 =>
 (AV.asI .i64 w88).bind fun n89 =>
 (r83.2.ld (.n σ.next) 3).bind fun w90 =>
 (AV.asI .i64 w90).bind fun n91 =>
 (r83.2.ld (.n σ.next) 4).bind fun w92 =>
 (AV.asI .i64 w92).bind fun n93 =>
 (r83.2.ld (.n σ.next) 4).bind fun w94 =>
 (AV.asI .i64 w94).bind fun n95 =>
 (k128 [(.agg [(.p p85), (.i .i64 n87), (.i .i64 n89), (.i .i64 n91), (.i .i64 n93)]), (.i .i64 n65), (.i .i64 n95), (.i .i64 n67)] r83.2).bind fun r96 =>
 (AV.asTup 0 r96.1).bind fun c97 =>
 some ([], r96.2)
 else (r83.2.st (.n (σ.next + 1)) 1 [(.i .i64 n67)]).bind fun σ98 =>
 some ([], σ98)) : Option (List AV × AH O)).bind fun r99 =>
 (r99.2.ld (.n (σ.next + 1)) 2).bind fun w100 =>
 (AV.asI .i64 w100).bind fun n101 =>
 (r99.2.st (.n (σ.next + 1)) 2 [(.i .i64 (IntKind.i64.wrap (n101 - 1)))]).bind fun σ102 =>
 (σ102.ld (.n (σ.next + 1)) 0).bind fun w103 =>
 (AV.asI .i64 w103).bind fun n104 =>
 (σ102.ld (.n (σ.next + 1)) 1).bind fun w105 =>
 (AV.asI .i64 w105).bind fun n106 =>
 (σ102.ld (.n (σ.next + 1)) 2).bind fun w107 =>
 (AV.asI .i64 w107).bind fun n108 =>
 (σ102.st (.n ((σ.next + 1) + 1)) 0 [(.i .i64 n104), (.i .i64 n106), (.i .i64 n108)]).bind fun σ109 =>
 (σ109.ld (.n ((σ.next + 1) + 1)) 0).bind fun w110 =>
 (AV.asI .i64 w110).bind fun n111 =>
 (σ109.ld (.n ((σ.next + 1) + 1)) 1).bind fun w112 =>
 (AV.asI .i64 w112).bind fun n113 =>
 (σ109.ld (.n ((σ.next + 1) + 1)) 2).bind fun w114 =>
 (AV.asI .i64 w114).bind fun n115 =>
 some ((.tup [(.agg [(.i .i64 n111), (.i .i64 n113), (.i .i64 n115)]), (.i .i64 0)]), σ109))
 else none
noncomputable def chain_Table__Drop {O : Type} : Sm O := chain_Table__Drop_c chain_Table__check chain_Table__get chain_Table__set
theorem chain_Table__Drop_ent : Entered Try.prog 87 := Try.call87
theorem chain_Table__Drop_run {O : Type} (k127 k141 k128 : Sm O) : run (O := O) Try.prog [(127, k127), (141, k141), (128, k128)] Try.f87 (.n .z (.n (.n .z (.n .z (.n .z .z))) (.n (.d [] [0, 1, 2, 3, 5, 6, 7, 8, 4, 9, 10, 11] [0, 0, 0, 4, 15, 0, 0, 0, 128, 511, 1023, 2047]) (.n (.n .z (.j false [] .z .z)) (.n (.n .z (.j false [] .z .z)) (.n .z .z)))))) = chain_Table__Drop_c k127 k141 k128 := by kernel_rfl
theorem chain_Table__Drop_sound {O : Type} {RO : O → Loc → (Nat → Option Obj) → Prop} : FSound RO Try.prog 87 (chain_Table__Drop) :=
   have h : FSound RO Try.prog 87 (chain_Table__Drop_c chain_Table__check chain_Table__get chain_Table__set) := (chain_Table__Drop_run chain_Table__check chain_Table__get chain_Table__set) ▸ run_sound (gcons chain_Table__check_ent (chain_Table__check_sound) <| gcons chain_Table__get_ent (chain_Table__get_sound) <| gcons chain_Table__set_ent (chain_Table__set_sound) <| gnil) mixed Try.func87 (by kernel_rfl) _
   h

/-- (*haymow/pool.Pool).Give -/
noncomputable def pool_Pool__Give_c {O : Type} (k129 k123 k89 : Sm O) : Sm O := fun xs σ =>
 bif Nat.beq xs.length 2 then
 (AV.asP (xs.getD 0 .u)).bind fun p0 =>
 (AV.asI .i64 (xs.getD 1 .u)).bind fun n1 =>
 (k129 [(.p p0), (.i .i64 n1)] σ).bind fun r2 =>
 (AV.asTup 2 r2.1).bind fun c3 =>
 (AV.asI .u64 (c3.getD 0 .u)).bind fun n4 =>
 (AV.asB (c3.getD 1 .u)).bind fun b5 =>
 ((bif ((!b5) == false) then
 some ([(.b (((ibits .and .u64 n4 1) : Int) == 0))], r2.2)
 else some ([(.b true)], r2.2)) : Option (List AV × AH O)).bind fun r6 =>
 (AV.asB (r6.1.getD 0 .u)).bind fun b7 =>
 (bif b7 then
 some ((.i .i64 4), r6.2)
 else Option.bind p0 fun q8 =>
 (r6.2.ld q8.1 q8.2).bind fun w9 =>
 (AV.asP w9).bind fun p10 =>
 Option.bind p0 fun q11 =>
 (r6.2.ld q11.1 (q11.2 + 1)).bind fun w12 =>
 (AV.asI .i64 w12).bind fun n13 =>
 let v14 : Int := (IntKind.u64.wrap ((IntKind.u64.wrap ((Int.fdiv n4 (2 ^ 1)) + 1)) * 2 ^ 1))
 (k123 [(.p p0), (.i .i64 n1), (.i .i64 (-1))] r6.2).bind fun r15 =>
 (AV.asI .i64 r15.1).bind fun n16 =>
 (chkE (r15.2.ld q8.1 q8.2) (some (.p p10))).bind fun _ =>
 (chkE (r15.2.ld q11.1 (q11.2 + 1)) (some (.i .i64 n13))).bind fun _ =>
 (k89 [(.p p10), (.i .i64 n13), (.i .i64 n16), (.i .u64 v14)] r15.2).bind fun r17 =>
 (AV.asI .i64 r17.1).bind fun n18 =>
 Option.bind p0 fun q19 =>
 (r17.2.ld q19.1 q19.2).bind fun w20 =>
 (AV.asP w20).bind fun p21 =>
 Option.bind p0 fun q22 =>
 (r17.2.ld q22.1 (q22.2 + 1)).bind fun w23 =>
 (AV.asI .i64 w23).bind fun n24 =>
 Option.bind p0 fun q25 =>
 (r17.2.ld q25.1 (q25.2 + 5)).bind fun w26 =>
 (AV.asI .i64 w26).bind fun n27 =>
 (k123 [(.p p0), (.i .i64 n1), (.i .i64 0)] r17.2).bind fun r28 =>
 (AV.asI .i64 r28.1).bind fun n29 =>
 (chkE (r28.2.ld q19.1 q19.2) (some (.p p21))).bind fun _ =>
 (chkE (r28.2.ld q22.1 (q22.2 + 1)) (some (.i .i64 n24))).bind fun _ =>
 (chkE (r28.2.ld q25.1 (q25.2 + 5)) (some (.i .i64 n27))).bind fun _ =>
 (k89 [(.p p21), (.i .i64 n24), (.i .i64 n29), (.i .u64 (IntKind.u64.wrap n27))] r28.2).bind fun r30 =>
 (AV.asI .i64 r30.1).bind fun n31 =>
 Option.bind p0 fun q32 =>
 (r30.2.st q32.1 (q32.2 + 5) [(.i .i64 n1)]).bind fun σ33 =>
 Option.bind p0 fun q34 =>
 (σ33.ld q34.1 (q34.2 + 6)).bind fun w35 =>
 (AV.asI .i64 w35).bind fun n36 =>
 Option.bind p0 fun q37 =>
 (σ33.st q37.1 (q37.2 + 6) [(.i .i64 (IntKind.i64.wrap (n36 - 1)))]).bind fun σ38 =>
 some ((.i .i64 0), σ38))
 else none
noncomputable def pool_Pool__Give {O : Type} : Sm O := pool_Pool__Give_c pool_Pool__look pool_Pool__at mem_Mem__Write
theorem pool_Pool__Give_ent : Entered Try.prog 90 := Try.call90
theorem pool_Pool__Give_run {O : Type} (k129 k123 k89 : Sm O) : run (O := O) Try.prog [(129, k129), (123, k123), (89, k89)] Try.f90 (.n .z (.n .z (.n (.n (.g [(2, 3, [(19, .one .b)])]) (.n .z .z)) (.n (.d [] [0, 1, 2, 3, 4, 5, 6, 7, 8, 9, 11, 12, 13, 14, 10, 15] [0, 1, 3, 7, 0, 16, 48, 112, 0, 0, 768, 0, 2048, 6144, 14336, 32767]) (.n (.d [] [0, 1, 2, 3, 4, 5, 6, 7, 8, 9, 11, 12, 13, 14, 15, 10, 16] [0, 1, 3, 7, 0, 16, 48, 112, 0, 0, 768, 0, 2048, 6144, 14336, 30720, 65535]) (.n .z (.n .z .z))))))) = pool_Pool__Give_c k129 k123 k89 := by kernel_rfl
theorem pool_Pool__Give_sound {O : Type} {RO : O → Loc → (Nat → Option Obj) → Prop} : FSound RO Try.prog 90 (pool_Pool__Give) :=
   have h : FSound RO Try.prog 90 (pool_Pool__Give_c pool_Pool__look pool_Pool__at mem_Mem__Write) := (pool_Pool__Give_run pool_Pool__look pool_Pool__at mem_Mem__Write) ▸ run_sound (gcons pool_Pool__look_ent (pool_Pool__look_sound) <| gcons pool_Pool__at_ent (pool_Pool__at_sound) <| gcons mem_Mem__Write_ent (mem_Mem__Write_sound) <| gnil) mixed Try.func90 (by kernel_rfl) _
   h

/-- (*haymow/handles.Handles).Drop -/
noncomputable def handles_Handles__Drop_c {O : Type} (k78 k62 k87 k90 : Sm O) : Sm O := fun xs σ =>
 bif Nat.beq xs.length 2 then
 (AV.asP (xs.getD 0 .u)).bind fun p0 =>
 (AV.asI .i64 (xs.getD 1 .u)).bind fun n1 =>
 (k78 [(.p p0), (.i .i64 n1)] σ).bind fun r2 =>
 (AV.asTup 2 r2.1).bind fun c3 =>
 (AV.asI .i64 (c3.getD 0 .u)).bind fun n4 =>
 (AV.asI .i64 (c3.getD 1 .u)).bind fun n5 =>
 (bif ((n5 : Int) != 0) then
 some ((.i .i64 n5), r2.2)
 else Option.bind p0 fun q6 =>
 (r2.2.ld q6.1 (q6.2 + 1)).bind fun w7 =>
 (AV.asI .i64 w7).bind fun n8 =>
 (r2.2.ld q6.1 ((q6.2 + 1) + 1)).bind fun w9 =>
 (AV.asI .i64 w9).bind fun n10 =>
 (r2.2.ld q6.1 (((q6.2 + 1) + 1) + 1)).bind fun w11 =>
 (AV.asI .i64 w11).bind fun n12 =>
 (k62 [(.p p0)] r2.2).bind fun r13 =>
 (AV.asAgg 5 r13.1).bind fun c14 =>
 (AV.asP (c14.getD 0 .u)).bind fun p15 =>
 (AV.asI .i64 (c14.getD 1 .u)).bind fun n16 =>
 (AV.asI .i64 (c14.getD 2 .u)).bind fun n17 =>
 (AV.asI .i64 (c14.getD 3 .u)).bind fun n18 =>
 (AV.asI .i64 (c14.getD 4 .u)).bind fun n19 =>
 (chkE (r13.2.ld q6.1 (q6.2 + 1)) (some (.i .i64 n8))).bind fun _ =>
 (chkE (r13.2.ld q6.1 ((q6.2 + 1) + 1)) (some (.i .i64 n10))).bind fun _ =>
 (chkE (r13.2.ld q6.1 (((q6.2 + 1) + 1) + 1)) (some (.i .i64 n12))).bind fun _ =>
 (k87 [(.agg [(.p p15), (.i .i64 n16), (.i .i64 n17), (.i .i64 n18), (.i .i64 n19)]), (.agg [(.i .i64 n8), (.i .i64 n10), (.i .i64 n12)]), (.i .i64 n4)] r13.2).bind fun r20 =>
 (AV.asTup 2 r20.1).bind fun c21 =>
 (AV.asAgg 3 (c21.getD 0 .u)).bind fun c22 =>
 (AV.asI .i64 (c22.getD 0 .u)).bind fun n23 =>
 (AV.asI .i64 (c22.getD 1 .u)).bind fun n24 =>
 (AV.asI .i64 (c22.getD 2 .u)).bind fun n25 =>
 (AV.asI .i64 (c21.getD 1 .u)).bind fun n26 =>
 Option.bind p0 fun q27 =>
 (r20.2.st q27.1 (q27.2 + 1) [(.i .i64 n23), (.i .i64 n24), (.i .i64 n25)]).bind fun σ28 =>
 Option.bind p0 fun q29 =>
 (σ28.ld q29.1 q29.2).bind fun w30 =>
 (AV.asP w30).bind fun p31 =>
 (k90 [(.p p31), (.i .i64 n4)] σ28).bind fun r32 =>
 (AV.asI .i64 r32.1).bind fun n33 =>
 some ((.i .i64 n33), r32.2))
 else none
noncomputable def handles_Handles__Drop {O : Type} : Sm O := handles_Handles__Drop_c handles_Handles__id handles_Handles__table chain_Table__Drop pool_Pool__Give
theorem handles_Handles__Drop_ent : Entered Try.prog 55 := Try.call55
theorem handles_Handles__Drop_run {O : Type} (k78 k62 k87 k90 : Sm O) : run (O := O) Try.prog [(78, k78), (62, k62), (87, k87), (90, k90)] Try.f55 (.n .z (.n .z (.n (.n .z (.n .z .z)) (.n (.d [] [0, 1, 3, 4, 5, 6, 7, 2, 8, 9, 10, 11, 12, 13, 14] [0, 0, 2, 0, 8, 24, 56, 0, 254, 510, 1022, 1022, 2047, 6143, 14335]) .z)))) = handles_Handles__Drop_c k78 k62 k87 k90 := by kernel_rfl
theorem handles_Handles__Drop_sound {O : Type} {RO : O → Loc → (Nat → Option Obj) → Prop} : FSound RO Try.prog 55 (handles_Handles__Drop) :=
   have h : FSound RO Try.prog 55 (handles_Handles__Drop_c handles_Handles__id handles_Handles__table chain_Table__Drop pool_Pool__Give) := (handles_Handles__Drop_run handles_Handles__id handles_Handles__table chain_Table__Drop pool_Pool__Give) ▸ run_sound (gcons handles_Handles__id_ent (handles_Handles__id_sound) <| gcons handles_Handles__table_ent (handles_Handles__table_sound) <| gcons chain_Table__Drop_ent (chain_Table__Drop_sound) <| gcons pool_Pool__Give_ent (pool_Pool__Give_sound) <| gnil) mixed Try.func55 (by kernel_rfl) _
   h

/-- (*haymow/pool.Pool).Get -/
noncomputable def pool_Pool__Get_c {O : Type} (k125 k123 k92 : Sm O) : Sm O := fun xs σ =>
 bif Nat.beq xs.length 3 then
 (AV.asP (xs.getD 0 .u)).bind fun p0 =>
 (AV.asI .i64 (xs.getD 1 .u)).bind fun n1 =>
 (AV.asI .i64 (xs.getD 2 .u)).bind fun n2 =>
 (k125 [(.p p0), (.i .i64 n1), (.i .i64 n2)] σ).bind fun r3 =>
 (AV.asI .i64 r3.1).bind fun n4 =>
 (bif ((n4 : Int) != 0) then
 some ((.tup [(.i .u64 0), (.i .i64 n4)]), r3.2)
 else Option.bind p0 fun q5 =>
 (r3.2.ld q5.1 q5.2).bind fun w6 =>
 (AV.asP w6).bind fun p7 =>
 Option.bind p0 fun q8 =>
 (r3.2.ld q8.1 (q8.2 + 1)).bind fun w9 =>
 (AV.asI .i64 w9).bind fun n10 =>
 (k123 [(.p p0), (.i .i64 n1), (.i .i64 n2)] r3.2).bind fun r11 =>
 (AV.asI .i64 r11.1).bind fun n12 =>
 (chkE (r11.2.ld q5.1 q5.2) (some (.p p7))).bind fun _ =>
 (chkE (r11.2.ld q8.1 (q8.2 + 1)) (some (.i .i64 n10))).bind fun _ =>
 (k92 [(.p p7), (.i .i64 n10), (.i .i64 n12)] r11.2).bind fun r13 =>
 (AV.asTup 2 r13.1).bind fun c14 =>
 (AV.asI .u64 (c14.getD 0 .u)).bind fun n15 =>
 (AV.asI .i64 (c14.getD 1 .u)).bind fun n16 =>
 some ((.tup [(.i .u64 n15), (.i .i64 n16)]), r13.2))
 else none
noncomputable def pool_Pool__Get {O : Type} : Sm O := pool_Pool__Get_c pool_Pool__check pool_Pool__at mem_Mem__Read
theorem pool_Pool__Get_ent : Entered Try.prog 79 := Try.call79
theorem pool_Pool__Get_run {O : Type} (k125 k123 k92 : Sm O) : run (O := O) Try.prog [(125, k125), (123, k123), (92, k92)] Try.f79 (.n .z (.n (.n .z (.n .z (.n .z .z))) (.n (.d [] [0, 1, 2, 3, 4, 5, 6, 7, 8, 9, 10, 11, 12, 13, 14, 15, 16] [0, 1, 3, 7, 0, 16, 48, 112, 0, 0, 0, 1792, 4095, 8191, 8191, 32767, 65535]) .z))) = pool_Pool__Get_c k125 k123 k92 := by kernel_rfl
theorem pool_Pool__Get_sound {O : Type} {RO : O → Loc → (Nat → Option Obj) → Prop} : FSound RO Try.prog 79 (pool_Pool__Get) :=
   have h : FSound RO Try.prog 79 (pool_Pool__Get_c pool_Pool__check pool_Pool__at mem_Mem__Read) := (pool_Pool__Get_run pool_Pool__check pool_Pool__at mem_Mem__Read) ▸ run_sound (gcons pool_Pool__check_ent (pool_Pool__check_sound) <| gcons pool_Pool__at_ent (pool_Pool__at_sound) <| gcons mem_Mem__Read_ent (mem_Mem__Read_sound) <| gnil) mixed Try.func79 (by kernel_rfl) _
   h

/-- (*haymow/handles.Handles).Get -/
noncomputable def handles_Handles__Get_c {O : Type} (k78 k79 : Sm O) : Sm O := fun xs σ =>
 bif Nat.beq xs.length 2 then
 (AV.asP (xs.getD 0 .u)).bind fun p0 =>
 (AV.asI .i64 (xs.getD 1 .u)).bind fun n1 =>
 (k78 [(.p p0), (.i .i64 n1)] σ).bind fun r2 =>
 (AV.asTup 2 r2.1).bind fun c3 =>
 (AV.asI .i64 (c3.getD 0 .u)).bind fun n4 =>
 (AV.asI .i64 (c3.getD 1 .u)).bind fun n5 =>
 (bif ((n5 : Int) != 0) then
 some ((.tup [(.i .u64 0), (.i .i64 n5)]), r2.2)
 else Option.bind p0 fun q6 =>
 (r2.2.ld q6.1 q6.2).bind fun w7 =>
 (AV.asP w7).bind fun p8 =>
 (k79 [(.p p8), (.i .i64 n4), (.i .i64 0)] r2.2).bind fun r9 =>
 (AV.asTup 2 r9.1).bind fun c10 =>
 (AV.asI .u64 (c10.getD 0 .u)).bind fun n11 =>
 (AV.asI .i64 (c10.getD 1 .u)).bind fun n12 =>
 some ((.tup [(.i .u64 n11), (.i .i64 n12)]), r9.2))
 else none
noncomputable def handles_Handles__Get {O : Type} : Sm O := handles_Handles__Get_c handles_Handles__id pool_Pool__Get
theorem handles_Handles__Get_ent : Entered Try.prog 21 := Try.call21
theorem handles_Handles__Get_run {O : Type} (k78 k79 : Sm O) : run (O := O) Try.prog [(78, k78), (79, k79)] Try.f21 (.n .z (.n .z (.n (.n .z (.n .z .z)) (.n .z .z)))) = handles_Handles__Get_c k78 k79 := by kernel_rfl
theorem handles_Handles__Get_sound {O : Type} {RO : O → Loc → (Nat → Option Obj) → Prop} : FSound RO Try.prog 21 (handles_Handles__Get) :=
   have h : FSound RO Try.prog 21 (handles_Handles__Get_c handles_Handles__id pool_Pool__Get) := (handles_Handles__Get_run handles_Handles__id pool_Pool__Get) ▸ run_sound (gcons handles_Handles__id_ent (handles_Handles__id_sound) <| gcons pool_Pool__Get_ent (pool_Pool__Get_sound) <| gnil) mixed Try.func21 (by kernel_rfl) _
   h

/-- haymow/haymowlaw18.awake -/
noncomputable def law18_awake_c {O : Type} (k10 k13 k55 k21 : Sm O) : Sm O := fun xs σ =>
 bif Nat.beq xs.length 0 then
 (k10 [] σ).bind fun r0 =>
 (AV.asTup 3 r0.1).bind fun c1 =>
 (AV.asP (c1.getD 0 .u)).bind fun p2 =>
 (AV.asP (c1.getD 1 .u)).bind fun p3 =>
 (AV.asB (c1.getD 2 .u)).bind fun b4 =>
 (bif (!b4) then
 some ((.b false), r0.2)
 else (k13 [(.p p3), (.i .u64 3)] r0.2).bind fun r5 =>
 (AV.asTup 2 r5.1).bind fun c6 =>
 (AV.asI .i64 (c6.getD 0 .u)).bind fun n7 =>
 (AV.asI .i64 (c6.getD 1 .u)).bind fun n8 =>
 (k13 [(.p p3), (.i .u64 5)] r5.2).bind fun r9 =>
 (AV.asTup 2 r9.1).bind fun c10 =>
 (AV.asI .i64 (c10.getD 0 .u)).bind fun n11 =>
 (AV.asI .i64 (c10.getD 1 .u)).bind fun n12 =>
 (k55 [(.p p3), (.i .i64 0)] r9.2).bind fun r13 =>
 (AV.asI .i64 r13.1).bind fun n14 =>
 (k13 [(.p p3), (.i .u64 7)] r13.2).bind fun r15 =>
 (AV.asTup 2 r15.1).bind fun c16 =>
 (AV.asI .i64 (c16.getD 0 .u)).bind fun n17 =>
 (AV.asI .i64 (c16.getD 1 .u)).bind fun n18 =>
 (k21 [(.p p3), (.i .i64 0)] r15.2).bind fun r19 =>
 (AV.asTup 2 r19.1).bind fun c20 =>
 (AV.asI .u64 (c20.getD 0 .u)).bind fun n21 =>
 (AV.asI .i64 (c20.getD 1 .u)).bind fun n22 =>
 ((bif (((n7 : Int) == 0) == true) then
 some ([(.b ((n11 : Int) == 1))], r19.2)
 else some ([(.b false)], r19.2)) : Option (List AV × AH O)).bind fun r23 =>
 (AV.asB (r23.1.getD 0 .u)).bind fun b24 =>
 ((bif (b24 == true) then
 some ([(.b ((n14 : Int) == 0))], r23.2)
 else some ([(.b false)], r23.2)) : Option (List AV × AH O)).bind fun r25 =>
 (AV.asB (r25.1.getD 0 .u)).bind fun b26 =>
 ((bif (b26 == true) then
 some ([(.b ((n17 : Int) == 1048576))], r25.2)
 else some ([(.b false)], r25.2)) : Option (List AV × AH O)).bind fun r27 =>
 (AV.asB (r27.1.getD 0 .u)).bind fun b28 =>
 ((bif (b28 == true) then
 some ([(.b ((n18 : Int) == 0))], r27.2)
 else some ([(.b false)], r27.2)) : Option (List AV × AH O)).bind fun r29 =>
 (AV.asB (r29.1.getD 0 .u)).bind fun b30 =>
 ((bif (b30 == true) then
 some ([(.b ((n22 : Int) == 30))], r29.2)
 else some ([(.b false)], r29.2)) : Option (List AV × AH O)).bind fun r31 =>
 (AV.asB (r31.1.getD 0 .u)).bind fun b32 =>
 some ((.b b32), r31.2))
 else none
noncomputable def law18_awake {O : Type} : Sm O := law18_awake_c law18_made handles_Handles__Add handles_Handles__Drop handles_Handles__Get
theorem law18_awake_ent : Entered Try.prog 9 := Try.call9
theorem law18_awake_run {O : Type} (k10 k13 k55 k21 : Sm O) : run (O := O) Try.prog [(10, k10), (13, k13), (55, k55), (21, k21)] Try.f9 (.n .z (.n .z (.n (.n .z (.n .z .z)) (.n .z (.n .z (.n .z (.n .z (.n .z (.n (.g [(2, 2, [(47, .one .b)]), (6, 2, [(51, .one .b)]), (10, 2, [(55, .one .b)]), (14, 2, [(59, .one .b)]), (18, 2, [(63, .one .b)])]) .z))))))))) = law18_awake_c k10 k13 k55 k21 := by kernel_rfl
theorem law18_awake_sound {O : Type} {RO : O → Loc → (Nat → Option Obj) → Prop} : FSound RO Try.prog 9 (law18_awake) :=
   have h : FSound RO Try.prog 9 (law18_awake_c law18_made handles_Handles__Add handles_Handles__Drop handles_Handles__Get) := (law18_awake_run law18_made handles_Handles__Add handles_Handles__Drop handles_Handles__Get) ▸ run_sound (gcons law18_made_ent (law18_made_sound) <| gcons handles_Handles__Add_ent (handles_Handles__Add_sound) <| gcons handles_Handles__Drop_ent (handles_Handles__Drop_sound) <| gcons handles_Handles__Get_ent (handles_Handles__Get_sound) <| gnil) mixed Try.func9 (by kernel_rfl) _
   h

/-- haymow/haymowref18.New -/
noncomputable def haymowref18_New_c {O : Type} : Sm O := fun xs σ =>
 bif Nat.beq xs.length 0 then
 let σ0 := σ.bump 1
 let σ1 := σ0.put σ.next (.cells true 34 [(.i .i64 0), (.sl .nil 0), (.sl .nil 0), (.i .i64 0), (.sl .nil 0)])
 (σ1.st (.n σ.next) 0 [(.i .i64 3), (.sl .nil 0), (.sl .nil 0), (.i .i64 0), (.sl .nil 0)]).bind fun σ2 =>
 (σ2.ld (.n σ.next) 0).bind fun w3 =>
 (AV.asI .i64 w3).bind fun n4 =>
 (σ2.ld (.n σ.next) 1).bind fun w5 =>
 (AV.asSl w5).bind fun l6 =>
 (σ2.ld (.n σ.next) 2).bind fun w7 =>
 (AV.asSl w7).bind fun l8 =>
 (σ2.ld (.n σ.next) 3).bind fun w9 =>
 (AV.asI .i64 w9).bind fun n10 =>
 (σ2.ld (.n σ.next) 4).bind fun w11 =>
 (AV.asSl w11).bind fun l12 =>
 some ((.agg [(.i .i64 n4), (.sl l6.1 l6.2), (.sl l8.1 l8.2), (.i .i64 n10), (.sl l12.1 l12.2)]), σ2)
 else none
noncomputable def haymowref18_New {O : Type} : Sm O := haymowref18_New_c
theorem haymowref18_New_ent : Entered Try.prog 11 := Try.call11
theorem haymowref18_New_run {O : Type} : run (O := O) Try.prog [] Try.f11 (.n .z .z) = haymowref18_New_c  := by kernel_rfl
theorem haymowref18_New_sound {O : Type} {RO : O → Loc → (Nat → Option Obj) → Prop} : FSound RO Try.prog 11 (haymowref18_New) :=
   have h : FSound RO Try.prog 11 (haymowref18_New_c) := (haymowref18_New_run) ▸ run_sound (gnil) mixed Try.func11 (by kernel_rfl) _
   h

/-- (*haymow/meter.Meter).Of -/
noncomputable def meter_Meter__Of_c {O : Type} : Sm O := fun xs σ =>
 bif Nat.beq xs.length 2 then
 (AV.asP (xs.getD 0 .u)).bind fun p0 =>
 (AV.asI .i64 (xs.getD 1 .u)).bind fun n1 =>
 let σ2 := σ.bump 1
 let σ3 := σ2.put σ.next (.cells true 38 [(.i .u64 0), (.i .u64 0)])
 ((bif ((Option.isNone p0) == false) then
 some ([(.b (decide (n1 < 0)))], σ3)
 else some ([(.b true)], σ3)) : Option (List AV × AH O)).bind fun r4 =>
 (AV.asB (r4.1.getD 0 .u)).bind fun b5 =>
 ((bif (b5 == false) then
 some ([(.b (decide (n1 ≥ 2)))], r4.2)
 else some ([(.b true)], r4.2)) : Option (List AV × AH O)).bind fun r6 =>
 (AV.asB (r6.1.getD 0 .u)).bind fun b7 =>
 (bif b7 then
 (r6.2.st (.n σ.next) 0 [(.i .u64 0), (.i .u64 0)]).bind fun σ8 =>
 (σ8.ld (.n σ.next) 0).bind fun w9 =>
 (AV.asI .u64 w9).bind fun n10 =>
 (σ8.ld (.n σ.next) 1).bind fun w11 =>
 (AV.asI .u64 w11).bind fun n12 =>
 some ((.agg [(.i .u64 n10), (.i .u64 n12)]), σ8)
 else Option.bind p0 fun q13 =>
 (bif ((decide ((0 : Int) ≤ n1)) && (decide (n1 < 2))) then
 (r6.2.ld q13.1 (q13.2 + (n1.toNat * 2))).bind fun w14 =>
 (AV.asI .u64 w14).bind fun n15 =>
 (r6.2.ld q13.1 ((q13.2 + (n1.toNat * 2)) + 1)).bind fun w16 =>
 (AV.asI .u64 w16).bind fun n17 =>
 (r6.2.st (.n σ.next) 0 [(.i .u64 n15), (.i .u64 n17)]).bind fun σ18 =>
 (σ18.ld (.n σ.next) 0).bind fun w19 =>
 (AV.asI .u64 w19).bind fun n20 =>
 (σ18.ld (.n σ.next) 1).bind fun w21 =>
 (AV.asI .u64 w21).bind fun n22 =>
 some ((.agg [(.i .u64 n20), (.i .u64 n22)]), σ18)
 else none))
 else none
noncomputable def meter_Meter__Of {O : Type} : Sm O := meter_Meter__Of_c
theorem meter_Meter__Of_ent : Entered Try.prog 59 := Try.call59
theorem meter_Meter__Of_run {O : Type} : run (O := O) Try.prog [] Try.f59 (.n .z (.n (.n (.g [(2, 2, [(10, .one .b)]), (6, 2, [(14, .one .b)])]) (.n .z .z)) .z)) = meter_Meter__Of_c  := by kernel_rfl
theorem meter_Meter__Of_sound {O : Type} {RO : O → Loc → (Nat → Option Obj) → Prop} : FSound RO Try.prog 59 (meter_Meter__Of) :=
   have h : FSound RO Try.prog 59 (meter_Meter__Of_c) := (meter_Meter__Of_run) ▸ run_sound (gnil) mixed Try.func59 (by kernel_rfl) _
   h

/-- (*haymow/meter.Meter).Steps -/
noncomputable def meter_Meter__Steps_c {O : Type} (k59 k58 : Sm O) : Sm O := fun xs σ =>
 bif Nat.beq xs.length 1 then
 (AV.asP (xs.getD 0 .u)).bind fun p0 =>
 let σ1 := σ.bump 1
 let σ2 := σ1.put σ.next (.cells true 38 [(.i .u64 0), (.i .u64 0)])
 let σ3 := σ2.bump 1
 (k59 [(.p p0), (.i .i64 0)] σ3).bind fun r4 =>
 (AV.asAgg 2 r4.1).bind fun c5 =>
 (AV.asI .u64 (c5.getD 0 .u)).bind fun n6 =>
 (AV.asI .u64 (c5.getD 1 .u)).bind fun n7 =>
 (k59 [(.p p0), (.i .i64 1)] r4.2).bind fun r8 =>
 (AV.asAgg 2 r8.1).bind fun c9 =>
 (AV.asI .u64 (c9.getD 0 .u)).bind fun n10 =>
 (AV.asI .u64 (c9.getD 1 .u)).bind fun n11 =>
 (k58 [(.agg [(.i .u64 n6), (.i .u64 n7)]), (.agg [(.i .u64 n10), (.i .u64 n11)])] r8.2).bind fun r12 =>
 (AV.asTup 2 r12.1).bind fun c13 =>
 (AV.asAgg 2 (c13.getD 0 .u)).bind fun c14 =>
 (AV.asI .u64 (c14.getD 0 .u)).bind fun n15 =>
 (AV.asI .u64 (c14.getD 1 .u)).bind fun n16 =>
 (AV.asB (c13.getD 1 .u)).bind fun b17 =>
 let σ18 := r12.2.put σ2.next (.cells true 38 [(.i .u64 0), (.i .u64 0)])
 (σ18.st (.n σ2.next) 0 [(.i .u64 n15), (.i .u64 n16)]).bind fun σ19 =>
 (σ19.ld (.n σ2.next) 0).bind fun w20 =>
 (AV.asI .u64 w20).bind fun n21 =>
 (σ19.ld (.n σ2.next) 1).bind fun w22 =>
 (AV.asI .u64 w22).bind fun n23 =>
 (σ19.st (.n σ.next) 0 [(.i .u64 n21), (.i .u64 n23)]).bind fun σ24 =>
 (σ24.ld (.n σ.next) 0).bind fun w25 =>
 (AV.asI .u64 w25).bind fun n26 =>
 (σ24.ld (.n σ.next) 1).bind fun w27 =>
 (AV.asI .u64 w27).bind fun n28 =>
 some ((.agg [(.i .u64 n26), (.i .u64 n28)]), σ24)
 else none
noncomputable def meter_Meter__Steps {O : Type} : Sm O := meter_Meter__Steps_c meter_Meter__Of wide_Add
theorem meter_Meter__Steps_ent : Entered Try.prog 12 := Try.call12
theorem meter_Meter__Steps_run {O : Type} (k59 k58 : Sm O) : run (O := O) Try.prog [(59, k59), (58, k58)] Try.f12 (.n .z (.n .z .z)) = meter_Meter__Steps_c k59 k58 := by kernel_rfl
theorem meter_Meter__Steps_sound {O : Type} {RO : O → Loc → (Nat → Option Obj) → Prop} : FSound RO Try.prog 12 (meter_Meter__Steps) :=
   have h : FSound RO Try.prog 12 (meter_Meter__Steps_c meter_Meter__Of wide_Add) := (meter_Meter__Steps_run meter_Meter__Of wide_Add) ▸ run_sound (gcons meter_Meter__Of_ent (meter_Meter__Of_sound) <| gcons wide_Add_ent (wide_Add_sound) <| gnil) mixed Try.func12 (by kernel_rfl) _
   h

/-- haymow/haymowref10.copied -/
noncomputable def haymowref10_copied_L1 {O : Type} (l14 : SA × Nat) : List AV × AH O → Option ((List AV × AH O) ⊕ (List AV × AH O)) := (fun r15 =>
 (AV.asI .i64 (r15.1.getD 0 .u)).bind fun n16 =>
 (bif (decide (n16 < (l14.2 : Int))) then
 let σ17 := r15.2.bump 2
 let σ18 := σ17.put r15.2.next (.cells true 36 [])
 (bif ((decide ((0 : Int) ≤ n16)) && (decide (n16 < (l14.2 : Int)))) then
 (SA.ref l14.1).bind fun q19 =>
 (σ18.ld q19.1 ((q19.2 + (n16.toNat * 3)) + 2)).bind fun w20 =>
 (AV.asSl w20).bind fun l21 =>
 (σ18.rdSl l21.1 l21.2 1).bind fun new22 =>
 (bif (Nat.ble ((0 + l21.2) * 9) 35184372088832) then
 (σ18.appSl (r15.2.next + 1) 36 1 (.loc (.n r15.2.next) 0 1) 0 l21.2 new22).bind fun r23 =>
 (AV.asSl r23.1).bind fun l24 =>
 (bif ((decide ((0 : Int) ≤ n16)) && (decide (n16 < (l14.2 : Int)))) then
 (SA.ref l14.1).bind fun q25 =>
 (r23.2.st q25.1 ((q25.2 + (n16.toNat * 3)) + 2) [(.sl l24.1 l24.2)]).bind fun σ26 =>
 some (Sum.inl ([(.i .i64 (IntKind.i64.wrap (n16 + 1)))], σ26))
 else none)
 else none)
 else none)
 else some (Sum.inr ([], r15.2))))
noncomputable def haymowref10_copied_c {O : Type} : Sm O := fun xs σ =>
 bif Nat.beq xs.length 1 then
 (AV.asAgg 4 (xs.getD 0 .u)).bind fun c0 =>
 (AV.asI .i64 (c0.getD 0 .u)).bind fun n1 =>
 (AV.asSl (c0.getD 1 .u)).bind fun l2 =>
 (AV.asSl (c0.getD 2 .u)).bind fun l3 =>
 (AV.asI .i64 (c0.getD 3 .u)).bind fun n4 =>
 let σ5 := σ.bump 2
 let σ6 := σ5.put σ.next (.cells true 31 [(.i .i64 n1), (.sl l2.1 l2.2), (.sl l3.1 l3.2), (.i .i64 n4)])
 let σ7 := σ6.put (σ.next + 1) (.cells true 31 [(.i .i64 0), (.sl .nil 0), (.sl .nil 0), (.i .i64 0)])
 let σ8 := σ7.bump 2
 let σ9 := σ8.put σ7.next (.cells true 144 [])
 (σ9.ld (.n σ.next) 1).bind fun w10 =>
 (AV.asSl w10).bind fun l11 =>
 (σ9.rdSl l11.1 l11.2 3).bind fun new12 =>
 (bif (Nat.ble ((0 + l11.2) * 41) 35184372088832) then
 (σ9.appSl (σ7.next + 1) 144 3 (.loc (.n σ7.next) 0 3) 0 l11.2 new12).bind fun r13 =>
 (AV.asSl r13.1).bind fun l14 =>
 (loopF (S := List AV × AH O) (T := List AV × AH O) (haymowref10_copied_L1 l14) ([(.i .i64 0)], r13.2)).bind fun r27 =>
 (r27.2.st (.n σ.next) 1 [(.sl l14.1 l14.2)]).bind fun σ28 =>
 let σ29 := σ28.bump 2
 let σ30 := σ29.put σ28.next (.cells true 3 [])
 (σ30.ld (.n σ.next) 2).bind fun w31 =>
 (AV.asSl w31).bind fun l32 =>
 (σ30.rdSl l32.1 l32.2 1).bind fun new33 =>
 (bif (Nat.ble ((0 + l32.2) * 9) 35184372088832) then
 (σ30.appSl (σ28.next + 1) 3 1 (.loc (.n σ28.next) 0 1) 0 l32.2 new33).bind fun r34 =>
 (AV.asSl r34.1).bind fun l35 =>
 (r34.2.st (.n σ.next) 2 [(.sl l35.1 l35.2)]).bind fun σ36 =>
 (σ36.ld (.n σ.next) 0).bind fun w37 =>
 (AV.asI .i64 w37).bind fun n38 =>
 (σ36.ld (.n σ.next) 1).bind fun w39 =>
 (AV.asSl w39).bind fun l40 =>
 (σ36.ld (.n σ.next) 2).bind fun w41 =>
 (AV.asSl w41).bind fun l42 =>
 (σ36.ld (.n σ.next) 3).bind fun w43 =>
 (AV.asI .i64 w43).bind fun n44 =>
 (σ36.st (.n (σ.next + 1)) 0 [(.i .i64 n38), (.sl l40.1 l40.2), (.sl l42.1 l42.2), (.i .i64 n44)]).bind fun σ45 =>
 (σ45.ld (.n (σ.next + 1)) 0).bind fun w46 =>
 (AV.asI .i64 w46).bind fun n47 =>
 (σ45.ld (.n (σ.next + 1)) 1).bind fun w48 =>
 (AV.asSl w48).bind fun l49 =>
 (σ45.ld (.n (σ.next + 1)) 2).bind fun w50 =>
 (AV.asSl w50).bind fun l51 =>
 (σ45.ld (.n (σ.next + 1)) 3).bind fun w52 =>
 (AV.asI .i64 w52).bind fun n53 =>
 some ((.agg [(.i .i64 n47), (.sl l49.1 l49.2), (.sl l51.1 l51.2), (.i .i64 n53)]), σ45)
 else none)
 else none)
 else none
noncomputable def haymowref10_copied {O : Type} : Sm O := haymowref10_copied_c
theorem haymowref10_copied_ent : Entered Try.prog 130 := Try.call130
theorem haymowref10_copied_run {O : Type} : run (O := O) Try.prog [] Try.f130 (.n .z (.n .z (.n (.n .z (.n (.lp false 0 [(4, .one (.i .i64))] [] (.n (.n .z .z) (.n .z .z))) .z)) (.n .z (.n .z .z))))) = haymowref10_copied_c  := by kernel_rfl
theorem haymowref10_copied_sound {O : Type} {RO : O → Loc → (Nat → Option Obj) → Prop} : FSound RO Try.prog 130 (haymowref10_copied) :=
   have h : FSound RO Try.prog 130 (haymowref10_copied_c) := (haymowref10_copied_run) ▸ run_sound (gnil) mixed Try.func130 (by kernel_rfl) _
   h

/-- haymow/haymowref10.Take -/
noncomputable def haymowref10_Take_c {O : Type} (k130 : Sm O) : Sm O := fun xs σ =>
 bif Nat.beq xs.length 1 then
 (AV.asAgg 4 (xs.getD 0 .u)).bind fun c0 =>
 (AV.asI .i64 (c0.getD 0 .u)).bind fun n1 =>
 (AV.asSl (c0.getD 1 .u)).bind fun l2 =>
 (AV.asSl (c0.getD 2 .u)).bind fun l3 =>
 (AV.asI .i64 (c0.getD 3 .u)).bind fun n4 =>
 let σ5 := σ.bump 2
 let σ6 := σ5.put σ.next (.cells true 31 [(.i .i64 n1), (.sl l2.1 l2.2), (.sl l3.1 l3.2), (.i .i64 n4)])
 let σ7 := σ6.put (σ.next + 1) (.cells true 31 [(.i .i64 0), (.sl .nil 0), (.sl .nil 0), (.i .i64 0)])
 (σ7.ld (.n σ.next) 0).bind fun w8 =>
 (AV.asI .i64 w8).bind fun n9 =>
 (σ7.ld (.n σ.next) 1).bind fun w10 =>
 (AV.asSl w10).bind fun l11 =>
 (σ7.ld (.n σ.next) 2).bind fun w12 =>
 (AV.asSl w12).bind fun l13 =>
 (σ7.ld (.n σ.next) 3).bind fun w14 =>
 (AV.asI .i64 w14).bind fun n15 =>
 (k130 [(.agg [(.i .i64 n9), (.sl l11.1 l11.2), (.sl l13.1 l13.2), (.i .i64 n15)])] σ7).bind fun r16 =>
 (AV.asAgg 4 r16.1).bind fun c17 =>
 (AV.asI .i64 (c17.getD 0 .u)).bind fun n18 =>
 (AV.asSl (c17.getD 1 .u)).bind fun l19 =>
 (AV.asSl (c17.getD 2 .u)).bind fun l20 =>
 (AV.asI .i64 (c17.getD 3 .u)).bind fun n21 =>
 (r16.2.st (.n σ.next) 0 [(.i .i64 n18), (.sl l19.1 l19.2), (.sl l20.1 l20.2), (.i .i64 n21)]).bind fun σ22 =>
 (σ22.ld (.n σ.next) 2).bind fun w23 =>
 (AV.asSl w23).bind fun l24 =>
 (bif (decide ((l24.2 : Int) > 0)) then
 (σ22.ld (.n σ.next) 2).bind fun w25 =>
 (AV.asSl w25).bind fun l26 =>
 (bif ((decide ((0 : Int) ≤ (IntKind.i64.wrap ((l24.2 : Int) - 1)))) && (decide ((IntKind.i64.wrap ((l24.2 : Int) - 1)) < (l26.2 : Int)))) then
 (SA.ref l26.1).bind fun q27 =>
 (σ22.ld q27.1 (q27.2 + ((IntKind.i64.wrap ((l24.2 : Int) - 1)).toNat * 1))).bind fun w28 =>
 (AV.asI .i64 w28).bind fun n29 =>
 (σ22.ld (.n σ.next) 2).bind fun w30 =>
 (AV.asSl w30).bind fun l31 =>
 (bif ((decide ((0 : Int) ≤ (IntKind.i64.wrap ((l24.2 : Int) - 1)))) && (decide ((IntKind.i64.wrap ((l24.2 : Int) - 1)) ≤ (l31.2 : Int)))) then
 (SA.adv l31.1 0 1).bind fun a32 =>
 (σ22.st (.n σ.next) 2 [(.sl a32 ((IntKind.i64.wrap ((l24.2 : Int) - 1)).toNat - 0))]).bind fun σ33 =>
 (σ33.ld (.n σ.next) 1).bind fun w34 =>
 (AV.asSl w34).bind fun l35 =>
 (bif ((decide ((0 : Int) ≤ (IntKind.i64.wrap (n29 - 1)))) && (decide ((IntKind.i64.wrap (n29 - 1)) < (l35.2 : Int)))) then
 (SA.ref l35.1).bind fun q36 =>
 (σ33.st q36.1 (q36.2 + ((IntKind.i64.wrap (n29 - 1)).toNat * 3)) [(.b true)]).bind fun σ37 =>
 let σ38 := σ37.bump 1
 (σ38.ld (.n σ.next) 1).bind fun w39 =>
 (AV.asSl w39).bind fun l40 =>
 (σ38.ld (.n σ.next) 0).bind fun w41 =>
 (AV.asI .i64 w41).bind fun n42 =>
 (bif ((((decide ((0 : Int) ≤ n42)) && (decide (n42 ≤ n42))) && (decide ((n42 * 8) ≤ 140737488355328))) && (decide (n42 ≤ 140737488355328))) then
 let σ43 := σ38.put σ37.next (.cells true 36 ((List.replicate n42.toNat [(.i .u64 0)]).flatten))
 (bif ((decide ((0 : Int) ≤ (IntKind.i64.wrap (n29 - 1)))) && (decide ((IntKind.i64.wrap (n29 - 1)) < (l40.2 : Int)))) then
 (SA.ref l40.1).bind fun q44 =>
 (σ43.st q44.1 ((q44.2 + ((IntKind.i64.wrap (n29 - 1)).toNat * 3)) + 2) [(.sl (.loc (.n σ37.next) 0 1) n42.toNat)]).bind fun σ45 =>
 (σ45.ld (.n σ.next) 0).bind fun w46 =>
 (AV.asI .i64 w46).bind fun n47 =>
 (σ45.ld (.n σ.next) 1).bind fun w48 =>
 (AV.asSl w48).bind fun l49 =>
 (σ45.ld (.n σ.next) 2).bind fun w50 =>
 (AV.asSl w50).bind fun l51 =>
 (σ45.ld (.n σ.next) 3).bind fun w52 =>
 (AV.asI .i64 w52).bind fun n53 =>
 (σ45.st (.n (σ.next + 1)) 0 [(.i .i64 n47), (.sl l49.1 l49.2), (.sl l51.1 l51.2), (.i .i64 n53)]).bind fun σ54 =>
 (σ54.ld (.n (σ.next + 1)) 0).bind fun w55 =>
 (AV.asI .i64 w55).bind fun n56 =>
 (σ54.ld (.n (σ.next + 1)) 1).bind fun w57 =>
 (AV.asSl w57).bind fun l58 =>
 (σ54.ld (.n (σ.next + 1)) 2).bind fun w59 =>
 (AV.asSl w59).bind fun l60 =>
 (σ54.ld (.n (σ.next + 1)) 3).bind fun w61 =>
 (AV.asI .i64 w61).bind fun n62 =>
 some ((.tup [(.agg [(.i .i64 n56), (.sl l58.1 l58.2), (.sl l60.1 l60.2), (.i .i64 n62)]), (.i .i64 n29)]), σ54)
 else none)
 else none)
 else none)
 else none)
 else none)
 else (σ22.ld (.n σ.next) 1).bind fun w63 =>
 (AV.asSl w63).bind fun l64 =>
 (σ22.ld (.n σ.next) 3).bind fun w65 =>
 (AV.asI .i64 w65).bind fun n66 =>
 ((bif (((l64.2 : Int) : Int) == n66) then
 (σ22.ld (.n σ.next) 3).bind fun w67 =>
 (AV.asI .i64 w67).bind fun n68 =>
 let v69 : Int := (if (IntKind.i64.wrap (2 * n68)) > 8 then (IntKind.i64.wrap (2 * n68)) else 8)
 (σ22.st (.n σ.next) 3 [(.i .i64 v69)]).bind fun σ70 =>
 some ([], σ70)
 else some ([], σ22)) : Option (List AV × AH O)).bind fun r71 =>
 let σ72 := r71.2.bump 3
 (σ72.ld (.n σ.next) 1).bind fun w73 =>
 (AV.asSl w73).bind fun l74 =>
 (σ72.ld (.n σ.next) 0).bind fun w75 =>
 (AV.asI .i64 w75).bind fun n76 =>
 (bif ((((decide ((0 : Int) ≤ n76)) && (decide (n76 ≤ n76))) && (decide ((n76 * 8) ≤ 140737488355328))) && (decide (n76 ≤ 140737488355328))) then
 let σ77 := σ72.put r71.2.next (.cells true 36 ((List.replicate n76.toNat [(.i .u64 0)]).flatten))
 let σ78 := σ77.put (r71.2.next + 1) (.cells true 144 [(.b true), (.i .i64 0), (.sl (.loc (.n r71.2.next) 0 1) n76.toNat)])
 (σ78.rdSl (.loc (.n (r71.2.next + 1)) 0 3) 1 3).bind fun new79 =>
 (bif (Nat.ble ((l74.2 + 1) * 41) 35184372088832) then
 (σ78.appSl ((r71.2.next + 1) + 1) 144 3 l74.1 l74.2 1 new79).bind fun r80 =>
 (AV.asSl r80.1).bind fun l81 =>
 (r80.2.st (.n σ.next) 1 [(.sl l81.1 l81.2)]).bind fun σ82 =>
 (σ82.ld (.n σ.next) 0).bind fun w83 =>
 (AV.asI .i64 w83).bind fun n84 =>
 (σ82.ld (.n σ.next) 1).bind fun w85 =>
 (AV.asSl w85).bind fun l86 =>
 (σ82.ld (.n σ.next) 2).bind fun w87 =>
 (AV.asSl w87).bind fun l88 =>
 (σ82.ld (.n σ.next) 3).bind fun w89 =>
 (AV.asI .i64 w89).bind fun n90 =>
 (σ82.ld (.n σ.next) 1).bind fun w91 =>
 (AV.asSl w91).bind fun l92 =>
 (σ82.st (.n (σ.next + 1)) 0 [(.i .i64 n84), (.sl l86.1 l86.2), (.sl l88.1 l88.2), (.i .i64 n90)]).bind fun σ93 =>
 (chkE (σ93.ld (.n σ.next) 1) (some (.sl l92.1 l92.2))).bind fun _ =>
 (σ93.ld (.n (σ.next + 1)) 0).bind fun w94 =>
 (AV.asI .i64 w94).bind fun n95 =>
 (σ93.ld (.n (σ.next + 1)) 1).bind fun w96 =>
 (AV.asSl w96).bind fun l97 =>
 (σ93.ld (.n (σ.next + 1)) 2).bind fun w98 =>
 (AV.asSl w98).bind fun l99 =>
 (σ93.ld (.n (σ.next + 1)) 3).bind fun w100 =>
 (AV.asI .i64 w100).bind fun n101 =>
 some ((.tup [(.agg [(.i .i64 n95), (.sl l97.1 l97.2), (.sl l99.1 l99.2), (.i .i64 n101)]), (.i .i64 (l92.2 : Int))]), σ93)
 else none)
 else none))
 else none
noncomputable def haymowref10_Take {O : Type} : Sm O := frz (haymowref10_Take_c haymowref10_copied)
theorem haymowref10_Take_ent : Entered Try.prog 66 := Try.call66
theorem haymowref10_Take_run {O : Type} (k130 : Sm O) : run (O := O) Try.prog [(130, k130)] Try.f66 (.n .z (.n .z (.n (.n .z (.n .z (.n (.n .z (.n .z (.n .z (.n (.d [] [0, 1, 2, 3, 4, 5, 6, 7, 8, 9] [0, 1, 0, 4, 0, 16, 48, 127, 255, 511]) .z)))) .z))) (.n (.n .z (.j false [] .z .z)) (.n (.d [] [0, 1, 2, 3, 4, 5, 6, 7, 8, 9] [0, 1, 0, 4, 12, 28, 60, 127, 255, 511]) (.n (.d [] [0, 1, 2, 3, 4, 5] [0, 0, 2, 6, 1, 31]) .z)))))) = haymowref10_Take_c k130 := by kernel_rfl
theorem haymowref10_Take_sound {O : Type} {RO : O → Loc → (Nat → Option Obj) → Prop} : FSound RO Try.prog 66 (haymowref10_Take) :=
   have h : FSound RO Try.prog 66 (haymowref10_Take_c haymowref10_copied) := (haymowref10_Take_run haymowref10_copied) ▸ run_sound (gcons haymowref10_copied_ent (haymowref10_copied_sound) <| gnil) mixed Try.func66 (by kernel_rfl) _
   h.frz

/-- haymow/haymowref18.Add -/
noncomputable def haymowref18_Add_c {O : Type} (k66 : Sm O) : Sm O := fun xs σ =>
 bif Nat.beq xs.length 2 then
 (AV.asAgg 5 (xs.getD 0 .u)).bind fun c0 =>
 (AV.asI .i64 (c0.getD 0 .u)).bind fun n1 =>
 (AV.asSl (c0.getD 1 .u)).bind fun l2 =>
 (AV.asSl (c0.getD 2 .u)).bind fun l3 =>
 (AV.asI .i64 (c0.getD 3 .u)).bind fun n4 =>
 (AV.asSl (c0.getD 4 .u)).bind fun l5 =>
 (AV.asI .u64 (xs.getD 1 .u)).bind fun n6 =>
 let σ7 := σ.bump 2
 let σ8 := σ7.put σ.next (.cells true 34 [(.i .i64 n1), (.sl l2.1 l2.2), (.sl l3.1 l3.2), (.i .i64 n4), (.sl l5.1 l5.2)])
 let σ9 := σ8.put (σ.next + 1) (.cells true 34 [(.i .i64 0), (.sl .nil 0), (.sl .nil 0), (.i .i64 0), (.sl .nil 0)])
 (σ9.ld (.n σ.next) 0).bind fun w10 =>
 (AV.asI .i64 w10).bind fun n11 =>
 (σ9.ld (.n σ.next) 1).bind fun w12 =>
 (AV.asSl w12).bind fun l13 =>
 (σ9.ld (.n σ.next) 2).bind fun w14 =>
 (AV.asSl w14).bind fun l15 =>
 (σ9.ld (.n σ.next) 3).bind fun w16 =>
 (AV.asI .i64 w16).bind fun n17 =>
 (k66 [(.agg [(.i .i64 n11), (.sl l13.1 l13.2), (.sl l15.1 l15.2), (.i .i64 n17)])] σ9).bind fun r18 =>
 (AV.asTup 2 r18.1).bind fun c19 =>
 (AV.asAgg 4 (c19.getD 0 .u)).bind fun c20 =>
 (AV.asI .i64 (c20.getD 0 .u)).bind fun n21 =>
 (AV.asSl (c20.getD 1 .u)).bind fun l22 =>
 (AV.asSl (c20.getD 2 .u)).bind fun l23 =>
 (AV.asI .i64 (c20.getD 3 .u)).bind fun n24 =>
 (AV.asI .i64 (c19.getD 1 .u)).bind fun n25 =>
 (r18.2.st (.n σ.next) 0 [(.i .i64 n21), (.sl l22.1 l22.2), (.sl l23.1 l23.2), (.i .i64 n24)]).bind fun σ26 =>
 (σ26.ld (.n σ.next) 1).bind fun w27 =>
 (AV.asSl w27).bind fun l28 =>
 (bif ((decide ((0 : Int) ≤ (IntKind.i64.wrap (n25 - 1)))) && (decide ((IntKind.i64.wrap (n25 - 1)) < (l28.2 : Int)))) then
 (SA.ref l28.1).bind fun q29 =>
 (σ26.ld q29.1 ((q29.2 + ((IntKind.i64.wrap (n25 - 1)).toNat * 3)) + 1)).bind fun w30 =>
 (AV.asI .i64 w30).bind fun n31 =>
 let v32 : Int := (IntKind.i64.wrap ((IntKind.i64.wrap (n25 - 1)) + (IntKind.i64.wrap (1048576 * n31))))
 let σ33 := σ26.bump 4
 let σ34 := σ33.put σ26.next (.cells true 61 [])
 (σ34.ld (.n σ.next) 4).bind fun w35 =>
 (AV.asSl w35).bind fun l36 =>
 (σ34.rdSl l36.1 l36.2 2).bind fun new37 =>
 (bif (Nat.ble ((0 + l36.2) * 17) 35184372088832) then
 (σ34.appSl (σ26.next + 1) 61 2 (.loc (.n σ26.next) 0 2) 0 l36.2 new37).bind fun r38 =>
 (AV.asSl r38.1).bind fun l39 =>
 let σ40 := r38.2.put ((σ26.next + 1) + 1) (.cells true 61 [(.i .i64 v32), (.i .u64 n6)])
 (σ40.rdSl (.loc (.n ((σ26.next + 1) + 1)) 0 2) 1 2).bind fun new41 =>
 (bif (Nat.ble ((l39.2 + 1) * 17) 35184372088832) then
 (σ40.appSl (((σ26.next + 1) + 1) + 1) 61 2 l39.1 l39.2 1 new41).bind fun r42 =>
 (AV.asSl r42.1).bind fun l43 =>
 (r42.2.st (.n σ.next) 4 [(.sl l43.1 l43.2)]).bind fun σ44 =>
 (σ44.ld (.n σ.next) 0).bind fun w45 =>
 (AV.asI .i64 w45).bind fun n46 =>
 (σ44.ld (.n σ.next) 1).bind fun w47 =>
 (AV.asSl w47).bind fun l48 =>
 (σ44.ld (.n σ.next) 2).bind fun w49 =>
 (AV.asSl w49).bind fun l50 =>
 (σ44.ld (.n σ.next) 3).bind fun w51 =>
 (AV.asI .i64 w51).bind fun n52 =>
 (σ44.ld (.n σ.next) 4).bind fun w53 =>
 (AV.asSl w53).bind fun l54 =>
 (σ44.st (.n (σ.next + 1)) 0 [(.i .i64 n46), (.sl l48.1 l48.2), (.sl l50.1 l50.2), (.i .i64 n52), (.sl l54.1 l54.2)]).bind fun σ55 =>
 (σ55.ld (.n (σ.next + 1)) 0).bind fun w56 =>
 (AV.asI .i64 w56).bind fun n57 =>
 (σ55.ld (.n (σ.next + 1)) 1).bind fun w58 =>
 (AV.asSl w58).bind fun l59 =>
 (σ55.ld (.n (σ.next + 1)) 2).bind fun w60 =>
 (AV.asSl w60).bind fun l61 =>
 (σ55.ld (.n (σ.next + 1)) 3).bind fun w62 =>
 (AV.asI .i64 w62).bind fun n63 =>
 (σ55.ld (.n (σ.next + 1)) 4).bind fun w64 =>
 (AV.asSl w64).bind fun l65 =>
 some ((.tup [(.agg [(.i .i64 n57), (.sl l59.1 l59.2), (.sl l61.1 l61.2), (.i .i64 n63), (.sl l65.1 l65.2)]), (.i .i64 v32)]), σ55)
 else none)
 else none)
 else none)
 else none
noncomputable def haymowref18_Add {O : Type} : Sm O := frz (haymowref18_Add_c haymowref10_Take)
theorem haymowref18_Add_ent : Entered Try.prog 14 := Try.call14
theorem haymowref18_Add_run {O : Type} (k66 : Sm O) : run (O := O) Try.prog [(66, k66)] Try.f14 (.n .z (.n .z (.n .z (.n .z (.n .z .z))))) = haymowref18_Add_c k66 := by kernel_rfl
theorem haymowref18_Add_sound {O : Type} {RO : O → Loc → (Nat → Option Obj) → Prop} : FSound RO Try.prog 14 (haymowref18_Add) :=
   have h : FSound RO Try.prog 14 (haymowref18_Add_c haymowref10_Take) := (haymowref18_Add_run haymowref10_Take) ▸ run_sound (gcons haymowref10_Take_ent (haymowref10_Take_sound) <| gnil) mixed Try.func14 (by kernel_rfl) _
   h.frz

/-- haymow/haymowlaw18.token -/
noncomputable def law18_token_c {O : Type} : Sm O := fun xs σ =>
 bif Nat.beq xs.length 2 then
 (AV.asSl (xs.getD 0 .u)).bind fun l0 =>
 (AV.asAgg 4 (xs.getD 1 .u)).bind fun c1 =>
 (AV.asI .i64 (c1.getD 0 .u)).bind fun n2 =>
 (AV.asI .i64 (c1.getD 1 .u)).bind fun n3 =>
 (AV.asB (c1.getD 2 .u)).bind fun b4 =>
 (AV.asI .u64 (c1.getD 3 .u)).bind fun n5 =>
 let σ6 := σ.bump 1
 let σ7 := σ6.put σ.next (.cells true 45 [(.i .i64 n2), (.i .i64 n3), (.b b4), (.i .u64 n5)])
 (σ7.ld (.n σ.next) 2).bind fun w8 =>
 (AV.asB w8).bind fun b9 =>
 ((bif ((!b9) == true) then
 (σ7.ld (.n σ.next) 1).bind fun w10 =>
 (AV.asI .i64 w10).bind fun n11 =>
 some ([(.b (decide (n11 ≥ 0)))], σ7)
 else some ([(.b false)], σ7)) : Option (List AV × AH O)).bind fun r12 =>
 (AV.asB (r12.1.getD 0 .u)).bind fun b13 =>
 ((bif (b13 == true) then
 (r12.2.ld (.n σ.next) 1).bind fun w14 =>
 (AV.asI .i64 w14).bind fun n15 =>
 some ([(.b (decide (n15 < (l0.2 : Int))))], r12.2)
 else some ([(.b false)], r12.2)) : Option (List AV × AH O)).bind fun r16 =>
 (AV.asB (r16.1.getD 0 .u)).bind fun b17 =>
 (bif b17 then
 (r16.2.ld (.n σ.next) 1).bind fun w18 =>
 (AV.asI .i64 w18).bind fun n19 =>
 (bif ((decide ((0 : Int) ≤ n19)) && (decide (n19 < (l0.2 : Int)))) then
 (SA.ref l0.1).bind fun q20 =>
 (r16.2.ld q20.1 (q20.2 + (n19.toNat * 1))).bind fun w21 =>
 (AV.asI .i64 w21).bind fun n22 =>
 some ((.i .i64 n22), r16.2)
 else none)
 else (r16.2.ld (.n σ.next) 1).bind fun w23 =>
 (AV.asI .i64 w23).bind fun n24 =>
 some ((.i .i64 n24), r16.2))
 else none
noncomputable def law18_token {O : Type} : Sm O := law18_token_c
theorem law18_token_ent : Entered Try.prog 16 := Try.call16
theorem law18_token_run {O : Type} : run (O := O) Try.prog [] Try.f16 (.n .z (.n (.n (.g [(3, 3, [(12, .one .b)]), (8, 5, [(19, .one .b)])]) (.n .z .z)) .z)) = law18_token_c  := by kernel_rfl
theorem law18_token_sound {O : Type} {RO : O → Loc → (Nat → Option Obj) → Prop} : FSound RO Try.prog 16 (law18_token) :=
   have h : FSound RO Try.prog 16 (law18_token_c) := (law18_token_run) ▸ run_sound (gnil) mixed Try.func16 (by kernel_rfl) _
   h

/-- haymow/haymowref18.At -/
noncomputable def haymowref18_At_L1 {O : Type} (σ : AH O) (n6 : Int) : List AV × AH O → Option ((List AV × AH O) ⊕ ((List AV × AH O) ⊕ (AV × AH O))) := (fun r9 =>
 (AV.asI .i64 (r9.1.getD 0 .u)).bind fun n10 =>
 (r9.2.ld (.n σ.next) 4).bind fun w11 =>
 (AV.asSl w11).bind fun l12 =>
 (bif (decide (n10 < (l12.2 : Int))) then
 (r9.2.ld (.n σ.next) 4).bind fun w13 =>
 (AV.asSl w13).bind fun l14 =>
 (bif ((decide ((0 : Int) ≤ n10)) && (decide (n10 < (l14.2 : Int)))) then
 (SA.ref l14.1).bind fun q15 =>
 (r9.2.ld q15.1 (q15.2 + (n10.toNat * 2))).bind fun w16 =>
 (AV.asI .i64 w16).bind fun n17 =>
 (bif ((n17 : Int) == n6) then
 ((some ((.i .i64 n10), r9.2) : Option (AV × AH O)).map fun r => Sum.inr (Sum.inr r))
 else some (Sum.inl ([(.i .i64 (IntKind.i64.wrap (n10 + 1)))], r9.2)))
 else none)
 else some (Sum.inr (Sum.inl ([], r9.2)))))
noncomputable def haymowref18_At_c {O : Type} : Sm O := fun xs σ =>
 bif Nat.beq xs.length 2 then
 (AV.asAgg 5 (xs.getD 0 .u)).bind fun c0 =>
 (AV.asI .i64 (c0.getD 0 .u)).bind fun n1 =>
 (AV.asSl (c0.getD 1 .u)).bind fun l2 =>
 (AV.asSl (c0.getD 2 .u)).bind fun l3 =>
 (AV.asI .i64 (c0.getD 3 .u)).bind fun n4 =>
 (AV.asSl (c0.getD 4 .u)).bind fun l5 =>
 (AV.asI .i64 (xs.getD 1 .u)).bind fun n6 =>
 let σ7 := σ.bump 1
 let σ8 := σ7.put σ.next (.cells true 34 [(.i .i64 n1), (.sl l2.1 l2.2), (.sl l3.1 l3.2), (.i .i64 n4), (.sl l5.1 l5.2)])
 bindS (S := List AV × AH O) (R := (AV × AH O)) (loopF (S := List AV × AH O) (T := (List AV × AH O) ⊕ (AV × AH O)) (haymowref18_At_L1 σ n6) ([(.i .i64 0)], σ8)) fun r18 =>
 some ((.i .i64 (-1)), r18.2)
 else none
noncomputable def haymowref18_At {O : Type} : Sm O := haymowref18_At_c
theorem haymowref18_At_ent : Entered Try.prog 68 := Try.call68
theorem haymowref18_At_run {O : Type} : run (O := O) Try.prog [] Try.f68 (.n .z (.n (.n .z (.n (.lp true 0 [(5, .one (.i .i64))] [] (.n (.n .z .z) (.n (.n (.n .z (.n .z .z)) .z) .z))) .z)) .z)) = haymowref18_At_c  := by kernel_rfl
theorem haymowref18_At_sound {O : Type} {RO : O → Loc → (Nat → Option Obj) → Prop} : FSound RO Try.prog 68 (haymowref18_At) :=
   have h : FSound RO Try.prog 68 (haymowref18_At_c) := (haymowref18_At_run) ▸ run_sound (gnil) mixed Try.func68 (by kernel_rfl) _
   h

/-- haymow/haymowref10.Is -/
noncomputable def haymowref10_Is_c {O : Type} : Sm O := fun xs σ =>
 bif Nat.beq xs.length 2 then
 (AV.asAgg 4 (xs.getD 0 .u)).bind fun c0 =>
 (AV.asI .i64 (c0.getD 0 .u)).bind fun n1 =>
 (AV.asSl (c0.getD 1 .u)).bind fun l2 =>
 (AV.asSl (c0.getD 2 .u)).bind fun l3 =>
 (AV.asI .i64 (c0.getD 3 .u)).bind fun n4 =>
 (AV.asI .i64 (xs.getD 1 .u)).bind fun n5 =>
 let σ6 := σ.bump 1
 let σ7 := σ6.put σ.next (.cells true 31 [(.i .i64 n1), (.sl l2.1 l2.2), (.sl l3.1 l3.2), (.i .i64 n4)])
 ((bif ((decide (n5 ≥ 1)) == true) then
 (σ7.ld (.n σ.next) 1).bind fun w8 =>
 (AV.asSl w8).bind fun l9 =>
 some ([(.b (decide (n5 ≤ (l9.2 : Int))))], σ7)
 else some ([(.b false)], σ7)) : Option (List AV × AH O)).bind fun r10 =>
 (AV.asB (r10.1.getD 0 .u)).bind fun b11 =>
 ((bif (b11 == true) then
 (r10.2.ld (.n σ.next) 1).bind fun w12 =>
 (AV.asSl w12).bind fun l13 =>
 (bif ((decide ((0 : Int) ≤ (IntKind.i64.wrap (n5 - 1)))) && (decide ((IntKind.i64.wrap (n5 - 1)) < (l13.2 : Int)))) then
 (SA.ref l13.1).bind fun q14 =>
 (r10.2.ld q14.1 (q14.2 + ((IntKind.i64.wrap (n5 - 1)).toNat * 3))).bind fun w15 =>
 (AV.asB w15).bind fun b16 =>
 some ([(.b b16)], r10.2)
 else none)
 else some ([(.b false)], r10.2)) : Option (List AV × AH O)).bind fun r17 =>
 (AV.asB (r17.1.getD 0 .u)).bind fun b18 =>
 some ((.b b18), r17.2)
 else none
noncomputable def haymowref10_Is {O : Type} : Sm O := haymowref10_Is_c
theorem haymowref10_Is_ent : Entered Try.prog 145 := Try.call145
theorem haymowref10_Is_run {O : Type} : run (O := O) Try.prog [] Try.f145 (.n .z (.n (.g [(2, 5, [(13, .one .b)]), (9, 7, [(22, .one .b)])]) .z)) = haymowref10_Is_c  := by kernel_rfl
theorem haymowref10_Is_sound {O : Type} {RO : O → Loc → (Nat → Option Obj) → Prop} : FSound RO Try.prog 145 (haymowref10_Is) :=
   have h : FSound RO Try.prog 145 (haymowref10_Is_c) := (haymowref10_Is_run) ▸ run_sound (gnil) mixed Try.func145 (by kernel_rfl) _
   h

/-- haymow/haymowref10.Give -/
noncomputable def haymowref10_Give_c {O : Type} (k145 k130 : Sm O) : Sm O := fun xs σ =>
 bif Nat.beq xs.length 2 then
 (AV.asAgg 4 (xs.getD 0 .u)).bind fun c0 =>
 (AV.asI .i64 (c0.getD 0 .u)).bind fun n1 =>
 (AV.asSl (c0.getD 1 .u)).bind fun l2 =>
 (AV.asSl (c0.getD 2 .u)).bind fun l3 =>
 (AV.asI .i64 (c0.getD 3 .u)).bind fun n4 =>
 (AV.asI .i64 (xs.getD 1 .u)).bind fun n5 =>
 let σ6 := σ.bump 2
 let σ7 := σ6.put σ.next (.cells true 31 [(.i .i64 n1), (.sl l2.1 l2.2), (.sl l3.1 l3.2), (.i .i64 n4)])
 let σ8 := σ7.put (σ.next + 1) (.cells true 31 [(.i .i64 0), (.sl .nil 0), (.sl .nil 0), (.i .i64 0)])
 (σ8.ld (.n σ.next) 0).bind fun w9 =>
 (AV.asI .i64 w9).bind fun n10 =>
 (σ8.ld (.n σ.next) 1).bind fun w11 =>
 (AV.asSl w11).bind fun l12 =>
 (σ8.ld (.n σ.next) 2).bind fun w13 =>
 (AV.asSl w13).bind fun l14 =>
 (σ8.ld (.n σ.next) 3).bind fun w15 =>
 (AV.asI .i64 w15).bind fun n16 =>
 (k145 [(.agg [(.i .i64 n10), (.sl l12.1 l12.2), (.sl l14.1 l14.2), (.i .i64 n16)]), (.i .i64 n5)] σ8).bind fun r17 =>
 (AV.asB r17.1).bind fun b18 =>
 (bif (!b18) then
 (r17.2.ld (.n σ.next) 0).bind fun w19 =>
 (AV.asI .i64 w19).bind fun n20 =>
 (r17.2.ld (.n σ.next) 1).bind fun w21 =>
 (AV.asSl w21).bind fun l22 =>
 (r17.2.ld (.n σ.next) 2).bind fun w23 =>
 (AV.asSl w23).bind fun l24 =>
 (r17.2.ld (.n σ.next) 3).bind fun w25 =>
 (AV.asI .i64 w25).bind fun n26 =>
 (r17.2.st (.n (σ.next + 1)) 0 [(.i .i64 n20), (.sl l22.1 l22.2), (.sl l24.1 l24.2), (.i .i64 n26)]).bind fun σ27 =>
 (σ27.ld (.n (σ.next + 1)) 0).bind fun w28 =>
 (AV.asI .i64 w28).bind fun n29 =>
 (σ27.ld (.n (σ.next + 1)) 1).bind fun w30 =>
 (AV.asSl w30).bind fun l31 =>
 (σ27.ld (.n (σ.next + 1)) 2).bind fun w32 =>
 (AV.asSl w32).bind fun l33 =>
 (σ27.ld (.n (σ.next + 1)) 3).bind fun w34 =>
 (AV.asI .i64 w34).bind fun n35 =>
 some ((.tup [(.agg [(.i .i64 n29), (.sl l31.1 l31.2), (.sl l33.1 l33.2), (.i .i64 n35)]), (.i .i64 4)]), σ27)
 else (r17.2.ld (.n σ.next) 0).bind fun w36 =>
 (AV.asI .i64 w36).bind fun n37 =>
 (r17.2.ld (.n σ.next) 1).bind fun w38 =>
 (AV.asSl w38).bind fun l39 =>
 (r17.2.ld (.n σ.next) 2).bind fun w40 =>
 (AV.asSl w40).bind fun l41 =>
 (r17.2.ld (.n σ.next) 3).bind fun w42 =>
 (AV.asI .i64 w42).bind fun n43 =>
 (k130 [(.agg [(.i .i64 n37), (.sl l39.1 l39.2), (.sl l41.1 l41.2), (.i .i64 n43)])] r17.2).bind fun r44 =>
 (AV.asAgg 4 r44.1).bind fun c45 =>
 (AV.asI .i64 (c45.getD 0 .u)).bind fun n46 =>
 (AV.asSl (c45.getD 1 .u)).bind fun l47 =>
 (AV.asSl (c45.getD 2 .u)).bind fun l48 =>
 (AV.asI .i64 (c45.getD 3 .u)).bind fun n49 =>
 (r44.2.st (.n σ.next) 0 [(.i .i64 n46), (.sl l47.1 l47.2), (.sl l48.1 l48.2), (.i .i64 n49)]).bind fun σ50 =>
 (σ50.ld (.n σ.next) 1).bind fun w51 =>
 (AV.asSl w51).bind fun l52 =>
 (bif ((decide ((0 : Int) ≤ (IntKind.i64.wrap (n5 - 1)))) && (decide ((IntKind.i64.wrap (n5 - 1)) < (l52.2 : Int)))) then
 (SA.ref l52.1).bind fun q53 =>
 (σ50.st q53.1 (q53.2 + ((IntKind.i64.wrap (n5 - 1)).toNat * 3)) [(.b false)]).bind fun σ54 =>
 (σ54.ld (.n σ.next) 1).bind fun w55 =>
 (AV.asSl w55).bind fun l56 =>
 (bif ((decide ((0 : Int) ≤ (IntKind.i64.wrap (n5 - 1)))) && (decide ((IntKind.i64.wrap (n5 - 1)) < (l56.2 : Int)))) then
 (SA.ref l56.1).bind fun q57 =>
 (σ54.ld q57.1 ((q57.2 + ((IntKind.i64.wrap (n5 - 1)).toNat * 3)) + 1)).bind fun w58 =>
 (AV.asI .i64 w58).bind fun n59 =>
 (bif ((decide ((0 : Int) ≤ (IntKind.i64.wrap (n5 - 1)))) && (decide ((IntKind.i64.wrap (n5 - 1)) < (l56.2 : Int)))) then
 (SA.ref l56.1).bind fun q60 =>
 (σ54.st q60.1 ((q60.2 + ((IntKind.i64.wrap (n5 - 1)).toNat * 3)) + 1) [(.i .i64 (IntKind.i64.wrap (n59 + 1)))]).bind fun σ61 =>
 let σ62 := σ61.bump 2
 (σ62.ld (.n σ.next) 2).bind fun w63 =>
 (AV.asSl w63).bind fun l64 =>
 let σ65 := σ62.put σ61.next (.cells true 3 [(.i .i64 n5)])
 (σ65.rdSl (.loc (.n σ61.next) 0 1) 1 1).bind fun new66 =>
 (bif (Nat.ble ((l64.2 + 1) * 9) 35184372088832) then
 (σ65.appSl (σ61.next + 1) 3 1 l64.1 l64.2 1 new66).bind fun r67 =>
 (AV.asSl r67.1).bind fun l68 =>
 (r67.2.st (.n σ.next) 2 [(.sl l68.1 l68.2)]).bind fun σ69 =>
 (σ69.ld (.n σ.next) 0).bind fun w70 =>
 (AV.asI .i64 w70).bind fun n71 =>
 (σ69.ld (.n σ.next) 1).bind fun w72 =>
 (AV.asSl w72).bind fun l73 =>
 (σ69.ld (.n σ.next) 2).bind fun w74 =>
 (AV.asSl w74).bind fun l75 =>
 (σ69.ld (.n σ.next) 3).bind fun w76 =>
 (AV.asI .i64 w76).bind fun n77 =>
 (σ69.st (.n (σ.next + 1)) 0 [(.i .i64 n71), (.sl l73.1 l73.2), (.sl l75.1 l75.2), (.i .i64 n77)]).bind fun σ78 =>
 (σ78.ld (.n (σ.next + 1)) 0).bind fun w79 =>
 (AV.asI .i64 w79).bind fun n80 =>
 (σ78.ld (.n (σ.next + 1)) 1).bind fun w81 =>
 (AV.asSl w81).bind fun l82 =>
 (σ78.ld (.n (σ.next + 1)) 2).bind fun w83 =>
 (AV.asSl w83).bind fun l84 =>
 (σ78.ld (.n (σ.next + 1)) 3).bind fun w85 =>
 (AV.asI .i64 w85).bind fun n86 =>
 some ((.tup [(.agg [(.i .i64 n80), (.sl l82.1 l82.2), (.sl l84.1 l84.2), (.i .i64 n86)]), (.i .i64 0)]), σ78)
 else none)
 else none)
 else none)
 else none))
 else none
noncomputable def haymowref10_Give {O : Type} : Sm O := frz (haymowref10_Give_c haymowref10_Is haymowref10_copied)
theorem haymowref10_Give_ent : Entered Try.prog 131 := Try.call131
theorem haymowref10_Give_run {O : Type} (k145 k130 : Sm O) : run (O := O) Try.prog [(145, k145), (130, k130)] Try.f131 (.n .z (.n (.n .z (.n .z .z)) (.n .z (.n .z (.n .z (.n .z .z)))))) = haymowref10_Give_c k145 k130 := by kernel_rfl
theorem haymowref10_Give_sound {O : Type} {RO : O → Loc → (Nat → Option Obj) → Prop} : FSound RO Try.prog 131 (haymowref10_Give) :=
   have h : FSound RO Try.prog 131 (haymowref10_Give_c haymowref10_Is haymowref10_copied) := (haymowref10_Give_run haymowref10_Is haymowref10_copied) ▸ run_sound (gcons haymowref10_Is_ent (haymowref10_Is_sound) <| gcons haymowref10_copied_ent (haymowref10_copied_sound) <| gnil) mixed Try.func131 (by kernel_rfl) _
   h.frz

/-- haymow/haymowref18.Drop -/
noncomputable def haymowref18_Drop_c {O : Type} (k68 k131 : Sm O) : Sm O := fun xs σ =>
 bif Nat.beq xs.length 2 then
 (AV.asAgg 5 (xs.getD 0 .u)).bind fun c0 =>
 (AV.asI .i64 (c0.getD 0 .u)).bind fun n1 =>
 (AV.asSl (c0.getD 1 .u)).bind fun l2 =>
 (AV.asSl (c0.getD 2 .u)).bind fun l3 =>
 (AV.asI .i64 (c0.getD 3 .u)).bind fun n4 =>
 (AV.asSl (c0.getD 4 .u)).bind fun l5 =>
 (AV.asI .i64 (xs.getD 1 .u)).bind fun n6 =>
 let σ7 := σ.bump 2
 let σ8 := σ7.put σ.next (.cells true 34 [(.i .i64 n1), (.sl l2.1 l2.2), (.sl l3.1 l3.2), (.i .i64 n4), (.sl l5.1 l5.2)])
 let σ9 := σ8.put (σ.next + 1) (.cells true 34 [(.i .i64 0), (.sl .nil 0), (.sl .nil 0), (.i .i64 0), (.sl .nil 0)])
 (σ9.ld (.n σ.next) 0).bind fun w10 =>
 (AV.asI .i64 w10).bind fun n11 =>
 (σ9.ld (.n σ.next) 1).bind fun w12 =>
 (AV.asSl w12).bind fun l13 =>
 (σ9.ld (.n σ.next) 2).bind fun w14 =>
 (AV.asSl w14).bind fun l15 =>
 (σ9.ld (.n σ.next) 3).bind fun w16 =>
 (AV.asI .i64 w16).bind fun n17 =>
 (σ9.ld (.n σ.next) 4).bind fun w18 =>
 (AV.asSl w18).bind fun l19 =>
 (k68 [(.agg [(.i .i64 n11), (.sl l13.1 l13.2), (.sl l15.1 l15.2), (.i .i64 n17), (.sl l19.1 l19.2)]), (.i .i64 n6)] σ9).bind fun r20 =>
 (AV.asI .i64 r20.1).bind fun n21 =>
 (bif (decide (n21 < 0)) then
 (r20.2.ld (.n σ.next) 0).bind fun w22 =>
 (AV.asI .i64 w22).bind fun n23 =>
 (r20.2.ld (.n σ.next) 1).bind fun w24 =>
 (AV.asSl w24).bind fun l25 =>
 (r20.2.ld (.n σ.next) 2).bind fun w26 =>
 (AV.asSl w26).bind fun l27 =>
 (r20.2.ld (.n σ.next) 3).bind fun w28 =>
 (AV.asI .i64 w28).bind fun n29 =>
 (r20.2.ld (.n σ.next) 4).bind fun w30 =>
 (AV.asSl w30).bind fun l31 =>
 (r20.2.st (.n (σ.next + 1)) 0 [(.i .i64 n23), (.sl l25.1 l25.2), (.sl l27.1 l27.2), (.i .i64 n29), (.sl l31.1 l31.2)]).bind fun σ32 =>
 (σ32.ld (.n (σ.next + 1)) 0).bind fun w33 =>
 (AV.asI .i64 w33).bind fun n34 =>
 (σ32.ld (.n (σ.next + 1)) 1).bind fun w35 =>
 (AV.asSl w35).bind fun l36 =>
 (σ32.ld (.n (σ.next + 1)) 2).bind fun w37 =>
 (AV.asSl w37).bind fun l38 =>
 (σ32.ld (.n (σ.next + 1)) 3).bind fun w39 =>
 (AV.asI .i64 w39).bind fun n40 =>
 (σ32.ld (.n (σ.next + 1)) 4).bind fun w41 =>
 (AV.asSl w41).bind fun l42 =>
 some ((.tup [(.agg [(.i .i64 n34), (.sl l36.1 l36.2), (.sl l38.1 l38.2), (.i .i64 n40), (.sl l42.1 l42.2)]), (.i .i64 30)]), σ32)
 else let σ43 := r20.2.bump 3
 (σ43.ld (.n σ.next) 4).bind fun w44 =>
 (AV.asSl w44).bind fun l45 =>
 (bif ((decide ((0 : Int) ≤ n21)) && (decide (n21 ≤ (l45.2 : Int)))) then
 (SA.adv l45.1 0 2).bind fun a46 =>
 (σ43.ld (.n σ.next) 4).bind fun w47 =>
 (AV.asSl w47).bind fun l48 =>
 (bif (((decide ((0 : Int) ≤ (IntKind.i64.wrap (n21 + 1)))) && (decide ((IntKind.i64.wrap (n21 + 1)) ≤ (l48.2 : Int)))) && (decide ((l48.2 : Int) ≤ (l48.2 : Int)))) then
 (SA.adv l48.1 (IntKind.i64.wrap (n21 + 1)).toNat 2).bind fun a49 =>
 let σ50 := σ43.put r20.2.next (.cells true 61 [])
 (σ50.rdSl a46 (n21.toNat - 0) 2).bind fun new51 =>
 (bif (Nat.ble ((0 + (n21.toNat - 0)) * 17) 35184372088832) then
 (σ50.appSl (r20.2.next + 1) 61 2 (.loc (.n r20.2.next) 0 2) 0 (n21.toNat - 0) new51).bind fun r52 =>
 (AV.asSl r52.1).bind fun l53 =>
 (chkE (r52.2.ld (.n σ.next) 4) (some (.sl l48.1 l48.2))).bind fun _ =>
 (r52.2.rdSl a49 ((l48.2 : Int).toNat - (IntKind.i64.wrap (n21 + 1)).toNat) 2).bind fun new54 =>
 (bif (Nat.ble ((l53.2 + ((l48.2 : Int).toNat - (IntKind.i64.wrap (n21 + 1)).toNat)) * 17) 35184372088832) then
 (r52.2.appSl ((r20.2.next + 1) + 1) 61 2 l53.1 l53.2 ((l48.2 : Int).toNat - (IntKind.i64.wrap (n21 + 1)).toNat) new54).bind fun r55 =>
 (AV.asSl r55.1).bind fun l56 =>
 (r55.2.st (.n σ.next) 4 [(.sl l56.1 l56.2)]).bind fun σ57 =>
 (σ57.ld (.n σ.next) 0).bind fun w58 =>
 (AV.asI .i64 w58).bind fun n59 =>
 (σ57.ld (.n σ.next) 1).bind fun w60 =>
 (AV.asSl w60).bind fun l61 =>
 (σ57.ld (.n σ.next) 2).bind fun w62 =>
 (AV.asSl w62).bind fun l63 =>
 (σ57.ld (.n σ.next) 3).bind fun w64 =>
 (AV.asI .i64 w64).bind fun n65 =>
 (k131 [(.agg [(.i .i64 n59), (.sl l61.1 l61.2), (.sl l63.1 l63.2), (.i .i64 n65)]), (.i .i64 (IntKind.i64.wrap ((Int.tmod n6 1048576) + 1)))] σ57).bind fun r66 =>
 (AV.asTup 2 r66.1).bind fun c67 =>
 (AV.asAgg 4 (c67.getD 0 .u)).bind fun c68 =>
 (AV.asI .i64 (c68.getD 0 .u)).bind fun n69 =>
 (AV.asSl (c68.getD 1 .u)).bind fun l70 =>
 (AV.asSl (c68.getD 2 .u)).bind fun l71 =>
 (AV.asI .i64 (c68.getD 3 .u)).bind fun n72 =>
 (AV.asI .i64 (c67.getD 1 .u)).bind fun n73 =>
 (r66.2.st (.n σ.next) 0 [(.i .i64 n69), (.sl l70.1 l70.2), (.sl l71.1 l71.2), (.i .i64 n72)]).bind fun σ74 =>
 (σ74.ld (.n σ.next) 0).bind fun w75 =>
 (AV.asI .i64 w75).bind fun n76 =>
 (σ74.ld (.n σ.next) 1).bind fun w77 =>
 (AV.asSl w77).bind fun l78 =>
 (σ74.ld (.n σ.next) 2).bind fun w79 =>
 (AV.asSl w79).bind fun l80 =>
 (σ74.ld (.n σ.next) 3).bind fun w81 =>
 (AV.asI .i64 w81).bind fun n82 =>
 (σ74.ld (.n σ.next) 4).bind fun w83 =>
 (AV.asSl w83).bind fun l84 =>
 (σ74.st (.n (σ.next + 1)) 0 [(.i .i64 n76), (.sl l78.1 l78.2), (.sl l80.1 l80.2), (.i .i64 n82), (.sl l84.1 l84.2)]).bind fun σ85 =>
 (σ85.ld (.n (σ.next + 1)) 0).bind fun w86 =>
 (AV.asI .i64 w86).bind fun n87 =>
 (σ85.ld (.n (σ.next + 1)) 1).bind fun w88 =>
 (AV.asSl w88).bind fun l89 =>
 (σ85.ld (.n (σ.next + 1)) 2).bind fun w90 =>
 (AV.asSl w90).bind fun l91 =>
 (σ85.ld (.n (σ.next + 1)) 3).bind fun w92 =>
 (AV.asI .i64 w92).bind fun n93 =>
 (σ85.ld (.n (σ.next + 1)) 4).bind fun w94 =>
 (AV.asSl w94).bind fun l95 =>
 some ((.tup [(.agg [(.i .i64 n87), (.sl l89.1 l89.2), (.sl l91.1 l91.2), (.i .i64 n93), (.sl l95.1 l95.2)]), (.i .i64 0)]), σ85)
 else none)
 else none)
 else none)
 else none))
 else none
noncomputable def haymowref18_Drop {O : Type} : Sm O := frz (haymowref18_Drop_c haymowref18_At haymowref10_Give)
theorem haymowref18_Drop_ent : Entered Try.prog 67 := Try.call67
theorem haymowref18_Drop_run {O : Type} (k68 k131 : Sm O) : run (O := O) Try.prog [(68, k68), (131, k131)] Try.f67 (.n .z (.n .z (.n (.n .z (.n .z .z)) (.n (.d [] [1, 2, 3, 4, 6, 7, 8, 9, 10, 0, 5, 11, 12, 13] [0, 0, 2, 0, 14, 31, 0, 64, 0, 256, 960, 2047, 4095, 8191]) (.n .z .z))))) = haymowref18_Drop_c k68 k131 := by kernel_rfl
theorem haymowref18_Drop_sound {O : Type} {RO : O → Loc → (Nat → Option Obj) → Prop} : FSound RO Try.prog 67 (haymowref18_Drop) :=
   have h : FSound RO Try.prog 67 (haymowref18_Drop_c haymowref18_At haymowref10_Give) := (haymowref18_Drop_run haymowref18_At haymowref10_Give) ▸ run_sound (gcons haymowref18_At_ent (haymowref18_At_sound) <| gcons haymowref10_Give_ent (haymowref10_Give_sound) <| gnil) mixed Try.func67 (by kernel_rfl) _
   h.frz

/-- (*haymow/handles.Handles).Set -/
noncomputable def handles_Handles__Set_c {O : Type} (k78 k61 : Sm O) : Sm O := fun xs σ =>
 bif Nat.beq xs.length 3 then
 (AV.asP (xs.getD 0 .u)).bind fun p0 =>
 (AV.asI .i64 (xs.getD 1 .u)).bind fun n1 =>
 (AV.asI .u64 (xs.getD 2 .u)).bind fun n2 =>
 (k78 [(.p p0), (.i .i64 n1)] σ).bind fun r3 =>
 (AV.asTup 2 r3.1).bind fun c4 =>
 (AV.asI .i64 (c4.getD 0 .u)).bind fun n5 =>
 (AV.asI .i64 (c4.getD 1 .u)).bind fun n6 =>
 (bif ((n6 : Int) != 0) then
 some ((.i .i64 n6), r3.2)
 else Option.bind p0 fun q7 =>
 (r3.2.ld q7.1 q7.2).bind fun w8 =>
 (AV.asP w8).bind fun p9 =>
 (k61 [(.p p9), (.i .i64 n5), (.i .i64 0), (.i .u64 n2)] r3.2).bind fun r10 =>
 (AV.asI .i64 r10.1).bind fun n11 =>
 some ((.i .i64 n11), r10.2))
 else none
noncomputable def handles_Handles__Set {O : Type} : Sm O := handles_Handles__Set_c handles_Handles__id pool_Pool__Set
theorem handles_Handles__Set_ent : Entered Try.prog 69 := Try.call69
theorem handles_Handles__Set_run {O : Type} (k78 k61 : Sm O) : run (O := O) Try.prog [(78, k78), (61, k61)] Try.f69 (.n .z (.n .z (.n (.n .z (.n .z .z)) .z))) = handles_Handles__Set_c k78 k61 := by kernel_rfl
theorem handles_Handles__Set_sound {O : Type} {RO : O → Loc → (Nat → Option Obj) → Prop} : FSound RO Try.prog 69 (handles_Handles__Set) :=
   have h : FSound RO Try.prog 69 (handles_Handles__Set_c handles_Handles__id pool_Pool__Set) := (handles_Handles__Set_run handles_Handles__id pool_Pool__Set) ▸ run_sound (gcons handles_Handles__id_ent (handles_Handles__id_sound) <| gcons pool_Pool__Set_ent (pool_Pool__Set_sound) <| gnil) mixed Try.func69 (by kernel_rfl) _
   h

/-- haymow/haymowref18.Set -/
noncomputable def haymowref18_Set_c {O : Type} (k68 : Sm O) : Sm O := fun xs σ =>
 bif Nat.beq xs.length 3 then
 (AV.asAgg 5 (xs.getD 0 .u)).bind fun c0 =>
 (AV.asI .i64 (c0.getD 0 .u)).bind fun n1 =>
 (AV.asSl (c0.getD 1 .u)).bind fun l2 =>
 (AV.asSl (c0.getD 2 .u)).bind fun l3 =>
 (AV.asI .i64 (c0.getD 3 .u)).bind fun n4 =>
 (AV.asSl (c0.getD 4 .u)).bind fun l5 =>
 (AV.asI .i64 (xs.getD 1 .u)).bind fun n6 =>
 (AV.asI .u64 (xs.getD 2 .u)).bind fun n7 =>
 let σ8 := σ.bump 2
 let σ9 := σ8.put σ.next (.cells true 34 [(.i .i64 n1), (.sl l2.1 l2.2), (.sl l3.1 l3.2), (.i .i64 n4), (.sl l5.1 l5.2)])
 let σ10 := σ9.put (σ.next + 1) (.cells true 34 [(.i .i64 0), (.sl .nil 0), (.sl .nil 0), (.i .i64 0), (.sl .nil 0)])
 (σ10.ld (.n σ.next) 0).bind fun w11 =>
 (AV.asI .i64 w11).bind fun n12 =>
 (σ10.ld (.n σ.next) 1).bind fun w13 =>
 (AV.asSl w13).bind fun l14 =>
 (σ10.ld (.n σ.next) 2).bind fun w15 =>
 (AV.asSl w15).bind fun l16 =>
 (σ10.ld (.n σ.next) 3).bind fun w17 =>
 (AV.asI .i64 w17).bind fun n18 =>
 (σ10.ld (.n σ.next) 4).bind fun w19 =>
 (AV.asSl w19).bind fun l20 =>
 (k68 [(.agg [(.i .i64 n12), (.sl l14.1 l14.2), (.sl l16.1 l16.2), (.i .i64 n18), (.sl l20.1 l20.2)]), (.i .i64 n6)] σ10).bind fun r21 =>
 (AV.asI .i64 r21.1).bind fun n22 =>
 (bif (decide (n22 < 0)) then
 (r21.2.ld (.n σ.next) 0).bind fun w23 =>
 (AV.asI .i64 w23).bind fun n24 =>
 (r21.2.ld (.n σ.next) 1).bind fun w25 =>
 (AV.asSl w25).bind fun l26 =>
 (r21.2.ld (.n σ.next) 2).bind fun w27 =>
 (AV.asSl w27).bind fun l28 =>
 (r21.2.ld (.n σ.next) 3).bind fun w29 =>
 (AV.asI .i64 w29).bind fun n30 =>
 (r21.2.ld (.n σ.next) 4).bind fun w31 =>
 (AV.asSl w31).bind fun l32 =>
 (r21.2.st (.n (σ.next + 1)) 0 [(.i .i64 n24), (.sl l26.1 l26.2), (.sl l28.1 l28.2), (.i .i64 n30), (.sl l32.1 l32.2)]).bind fun σ33 =>
 (σ33.ld (.n (σ.next + 1)) 0).bind fun w34 =>
 (AV.asI .i64 w34).bind fun n35 =>
 (σ33.ld (.n (σ.next + 1)) 1).bind fun w36 =>
 (AV.asSl w36).bind fun l37 =>
 (σ33.ld (.n (σ.next + 1)) 2).bind fun w38 =>
 (AV.asSl w38).bind fun l39 =>
 (σ33.ld (.n (σ.next + 1)) 3).bind fun w40 =>
 (AV.asI .i64 w40).bind fun n41 =>
 (σ33.ld (.n (σ.next + 1)) 4).bind fun w42 =>
 (AV.asSl w42).bind fun l43 =>
 some ((.tup [(.agg [(.i .i64 n35), (.sl l37.1 l37.2), (.sl l39.1 l39.2), (.i .i64 n41), (.sl l43.1 l43.2)]), (.i .i64 30)]), σ33)
 else let σ44 := r21.2.bump 2
 let σ45 := σ44.put r21.2.next (.cells true 61 [])
 (σ45.ld (.n σ.next) 4).bind fun w46 =>
 (AV.asSl w46).bind fun l47 =>
 (σ45.rdSl l47.1 l47.2 2).bind fun new48 =>
 (bif (Nat.ble ((0 + l47.2) * 17) 35184372088832) then
 (σ45.appSl (r21.2.next + 1) 61 2 (.loc (.n r21.2.next) 0 2) 0 l47.2 new48).bind fun r49 =>
 (AV.asSl r49.1).bind fun l50 =>
 (r49.2.st (.n σ.next) 4 [(.sl l50.1 l50.2)]).bind fun σ51 =>
 (σ51.ld (.n σ.next) 4).bind fun w52 =>
 (AV.asSl w52).bind fun l53 =>
 (bif ((decide ((0 : Int) ≤ n22)) && (decide (n22 < (l53.2 : Int)))) then
 (SA.ref l53.1).bind fun q54 =>
 (σ51.st q54.1 ((q54.2 + (n22.toNat * 2)) + 1) [(.i .u64 n7)]).bind fun σ55 =>
 (σ55.ld (.n σ.next) 0).bind fun w56 =>
 (AV.asI .i64 w56).bind fun n57 =>
 (σ55.ld (.n σ.next) 1).bind fun w58 =>
 (AV.asSl w58).bind fun l59 =>
 (σ55.ld (.n σ.next) 2).bind fun w60 =>
 (AV.asSl w60).bind fun l61 =>
 (σ55.ld (.n σ.next) 3).bind fun w62 =>
 (AV.asI .i64 w62).bind fun n63 =>
 (σ55.ld (.n σ.next) 4).bind fun w64 =>
 (AV.asSl w64).bind fun l65 =>
 (σ55.st (.n (σ.next + 1)) 0 [(.i .i64 n57), (.sl l59.1 l59.2), (.sl l61.1 l61.2), (.i .i64 n63), (.sl l65.1 l65.2)]).bind fun σ66 =>
 (σ66.ld (.n (σ.next + 1)) 0).bind fun w67 =>
 (AV.asI .i64 w67).bind fun n68 =>
 (σ66.ld (.n (σ.next + 1)) 1).bind fun w69 =>
 (AV.asSl w69).bind fun l70 =>
 (σ66.ld (.n (σ.next + 1)) 2).bind fun w71 =>
 (AV.asSl w71).bind fun l72 =>
 (σ66.ld (.n (σ.next + 1)) 3).bind fun w73 =>
 (AV.asI .i64 w73).bind fun n74 =>
 (σ66.ld (.n (σ.next + 1)) 4).bind fun w75 =>
 (AV.asSl w75).bind fun l76 =>
 some ((.tup [(.agg [(.i .i64 n68), (.sl l70.1 l70.2), (.sl l72.1 l72.2), (.i .i64 n74), (.sl l76.1 l76.2)]), (.i .i64 0)]), σ66)
 else none)
 else none))
 else none
noncomputable def haymowref18_Set {O : Type} : Sm O := frz (haymowref18_Set_c haymowref18_At)
theorem haymowref18_Set_ent : Entered Try.prog 70 := Try.call70
theorem haymowref18_Set_run {O : Type} (k68 : Sm O) : run (O := O) Try.prog [(68, k68)] Try.f70 (.n .z (.n .z (.n (.n .z (.n .z .z)) (.n .z (.n .z .z))))) = haymowref18_Set_c k68 := by kernel_rfl
theorem haymowref18_Set_sound {O : Type} {RO : O → Loc → (Nat → Option Obj) → Prop} : FSound RO Try.prog 70 (haymowref18_Set) :=
   have h : FSound RO Try.prog 70 (haymowref18_Set_c haymowref18_At) := (haymowref18_Set_run haymowref18_At) ▸ run_sound (gcons haymowref18_At_ent (haymowref18_At_sound) <| gnil) mixed Try.func70 (by kernel_rfl) _
   h.frz

/-- haymow/haymowlaw18.do$1 -/
noncomputable def law18_do_1_c {O : Type} : Sm O := fun xs σ =>
 bif Nat.beq xs.length 3 then
 (AV.asI .u64 (xs.getD 0 .u)).bind fun n0 =>
 let σ1 := σ.bump 2
 (AV.asPS (xs.getD 1 .u)).bind fun q2 =>
 (σ1.ld q2.1 q2.2).bind fun w3 =>
 (AV.asSl w3).bind fun l4 =>
 let σ5 := σ1.put σ.next (.cells true 36 [(.i .u64 n0)])
 (σ5.rdSl (.loc (.n σ.next) 0 1) 1 1).bind fun new6 =>
 (bif (Nat.ble ((l4.2 + 1) * 9) 35184372088832) then
 (σ5.appSl (σ.next + 1) 36 1 l4.1 l4.2 1 new6).bind fun r7 =>
 (AV.asSl r7.1).bind fun l8 =>
 (AV.asPS (xs.getD 1 .u)).bind fun q9 =>
 (r7.2.st q9.1 q9.2 [(.sl l8.1 l8.2)]).bind fun σ10 =>
 (AV.asPS (xs.getD 2 .u)).bind fun q11 =>
 (σ10.ld q11.1 (q11.2 + 3)).bind fun w12 =>
 (AV.asI .u64 w12).bind fun n13 =>
 some ((.i .u64 (IntKind.u64.wrap (n0 + n13))), σ10)
 else none)
 else none
noncomputable def law18_do_1 {O : Type} : Sm O := law18_do_1_c
theorem law18_do_1_ent : Entered Try.prog 72 := Try.call72
theorem law18_do_1_run {O : Type} : run (O := O) Try.prog [] Try.f72 (.n .z (.n .z .z)) = law18_do_1_c  := by kernel_rfl
theorem law18_do_1_sound {O : Type} {RO : O → Loc → (Nat → Option Obj) → Prop} : FSound RO Try.prog 72 (law18_do_1) :=
   have h : FSound RO Try.prog 72 (law18_do_1_c) := (law18_do_1_run) ▸ run_sound (gnil) mixed Try.func72 (by kernel_rfl) _
   h

/-- (haymow/chain.Table).After -/
noncomputable def chain_Table__After_c {O : Type} (k127 k141 : Sm O) : Sm O := fun xs σ =>
 bif Nat.beq xs.length 2 then
 (AV.asAgg 5 (xs.getD 0 .u)).bind fun c0 =>
 (AV.asP (c0.getD 0 .u)).bind fun p1 =>
 (AV.asI .i64 (c0.getD 1 .u)).bind fun n2 =>
 (AV.asI .i64 (c0.getD 2 .u)).bind fun n3 =>
 (AV.asI .i64 (c0.getD 3 .u)).bind fun n4 =>
 (AV.asI .i64 (c0.getD 4 .u)).bind fun n5 =>
 (AV.asI .i64 (xs.getD 1 .u)).bind fun n6 =>
 let σ7 := σ.bump 1
 let σ8 := σ7.put σ.next (.cells true 136 [(.p p1), (.i .i64 n2), (.i .i64 n3), (.i .i64 n4), (.i .i64 n5)])
 (σ8.ld (.n σ.next) 0).bind fun w9 =>
 (AV.asP w9).bind fun p10 =>
 (σ8.ld (.n σ.next) 1).bind fun w11 =>
 (AV.asI .i64 w11).bind fun n12 =>
 (σ8.ld (.n σ.next) 2).bind fun w13 =>
 (AV.asI .i64 w13).bind fun n14 =>
 (σ8.ld (.n σ.next) 3).bind fun w15 =>
 (AV.asI .i64 w15).bind fun n16 =>
 (σ8.ld (.n σ.next) 4).bind fun w17 =>
 (AV.asI .i64 w17).bind fun n18 =>
 (k127 [(.agg [(.p p10), (.i .i64 n12), (.i .i64 n14), (.i .i64 n16), (.i .i64 n18)]), (.i .i64 n6)] σ8).bind fun r19 =>
 (AV.asI .i64 r19.1).bind fun n20 =>
 (bif ((n20 : Int) != 0) then
 some ((.tup [(.i .i64 0), (.i .i64 n20)]), r19.2)
 else (r19.2.ld (.n σ.next) 0).bind fun w21 =>
 (AV.asP w21).bind fun p22 =>
 (r19.2.ld (.n σ.next) 1).bind fun w23 =>
 (AV.asI .i64 w23).bind fun n24 =>
 (r19.2.ld (.n σ.next) 2).bind fun w25 =>
 (AV.asI .i64 w25).bind fun n26 =>
 (r19.2.ld (.n σ.next) 3).bind fun w27 =>
 (AV.asI .i64 w27).bind fun n28 =>
 (r19.2.ld (.n σ.next) 4).bind fun w29 =>
 (AV.asI .i64 w29).bind fun n30 =>
 (r19.2.ld (.n σ.next) 3).bind fun w31 =>
 (AV.asI .i64 w31).bind fun n32 =>
 (k141 [(.agg [(.p p22), (.i .i64 n24), (.i .i64 n26), (.i .i64 n28), (.i .i64 n30)]), (.i .i64 n6), (.i .i64 n32)] r19.2).bind fun r33 =>
 (AV.asI .i64 r33.1).bind fun n34 =>
 some ((.tup [(.i .i64 n34), (.i .i64 0)]), r33.2))
 else none
noncomputable def chain_Table__After {O : Type} : Sm O := chain_Table__After_c chain_Table__check chain_Table__get
theorem chain_Table__After_ent : Entered Try.prog 88 := Try.call88
theorem chain_Table__After_run {O : Type} (k127 k141 : Sm O) : run (O := O) Try.prog [(127, k127), (141, k141)] Try.f88 (.n .z (.n (.n .z (.n .z (.n .z .z))) .z)) = chain_Table__After_c k127 k141 := by kernel_rfl
theorem chain_Table__After_sound {O : Type} {RO : O → Loc → (Nat → Option Obj) → Prop} : FSound RO Try.prog 88 (chain_Table__After) :=
   have h : FSound RO Try.prog 88 (chain_Table__After_c chain_Table__check chain_Table__get) := (chain_Table__After_run chain_Table__check chain_Table__get) ▸ run_sound (gcons chain_Table__check_ent (chain_Table__check_sound) <| gcons chain_Table__get_ent (chain_Table__get_sound) <| gnil) mixed Try.func88 (by kernel_rfl) _
   h

/-- (haymow/chain.Table).All$1 -/
noncomputable def chain_Table__All_1_L1 {O : Type} (n6 : Int) (k88 : Sm O) (ky0 : Sm O) (f0 : Option (Fn × List AV × List AV)) (xs : List AV) : List AV × AH O → Option ((List AV × AH O) ⊕ ((List AV × AH O) ⊕ (AV × AH O))) := (fun r7 =>
 (AV.asI .i64 (r7.1.getD 0 .u)).bind fun n8 =>
 (AV.asI .i64 (r7.1.getD 1 .u)).bind fun n9 =>
 (bif (decide (n9 < n6)) then
 (callV [(88, k88), (1000000, ky0)] f0 [(.i .i64 n8)] r7.2).bind fun r10 =>
 (AV.asB r10.1).bind fun b11 =>
 (bif (!b11) then
 ((some ((.tup []), r10.2) : Option (AV × AH O)).map fun r => Sum.inr (Sum.inr r))
 else (AV.asPS (xs.getD 2 .u)).bind fun q12 =>
 (r10.2.ld q12.1 q12.2).bind fun w13 =>
 (AV.asP w13).bind fun p14 =>
 (r10.2.ld q12.1 (q12.2 + 1)).bind fun w15 =>
 (AV.asI .i64 w15).bind fun n16 =>
 (r10.2.ld q12.1 ((q12.2 + 1) + 1)).bind fun w17 =>
 (AV.asI .i64 w17).bind fun n18 =>
 (r10.2.ld q12.1 (((q12.2 + 1) + 1) + 1)).bind fun w19 =>
 (AV.asI .i64 w19).bind fun n20 =>
 (r10.2.ld q12.1 ((((q12.2 + 1) + 1) + 1) + 1)).bind fun w21 =>
 (AV.asI .i64 w21).bind fun n22 =>
 (k88 [(.agg [(.p p14), (.i .i64 n16), (.i .i64 n18), (.i .i64 n20), (.i .i64 n22)]), (.i .i64 n8)] r10.2).bind fun r23 =>
 (AV.asTup 2 r23.1).bind fun c24 =>
 (AV.asI .i64 (c24.getD 0 .u)).bind fun n25 =>
 (AV.asI .i64 (c24.getD 1 .u)).bind fun n26 =>
 (bif ((n26 : Int) != 0) then
 ((some ((.tup []), r23.2) : Option (AV × AH O)).map fun r => Sum.inr (Sum.inr r))
 else some (Sum.inl ([(.i .i64 n25), (.i .i64 (IntKind.i64.wrap (n9 + 1)))], r23.2))))
 else some (Sum.inr (Sum.inl ([], r7.2)))))
noncomputable def chain_Table__All_1_c {O : Type} (k88 ky0 : Sm O) : Sm O := fun xs σ =>
 bif Nat.beq xs.length 3 then
 (AV.asF (xs.getD 0 .u)).bind fun f0 =>
 (AV.asPS (xs.getD 1 .u)).bind fun q1 =>
 (σ.ld q1.1 q1.2).bind fun w2 =>
 (AV.asI .i64 w2).bind fun n3 =>
 (AV.asPS (xs.getD 1 .u)).bind fun q4 =>
 (σ.ld q4.1 (q4.2 + 2)).bind fun w5 =>
 (AV.asI .i64 w5).bind fun n6 =>
 bindS (S := List AV × AH O) (R := (AV × AH O)) (loopF (S := List AV × AH O) (T := (List AV × AH O) ⊕ (AV × AH O)) (chain_Table__All_1_L1 n6 k88 ky0 f0 xs) ([(.i .i64 n3), (.i .i64 0)], σ)) fun r27 =>
 some ((.tup []), r27.2)
 else none
noncomputable def chain_Table__All_1 {O : Type} (ky0 : Sm O) : Sm O := chain_Table__All_1_c chain_Table__After ky0
theorem chain_Table__All_1_ent : Entered Try.prog 158 := Try.call158
theorem chain_Table__All_1_run {O : Type} (k88 ky0 : Sm O) : run (O := O) Try.prog [(88, k88), (1000000, ky0)] Try.f158 (.n .z (.n .z (.n (.lp true 0 [(4, .one (.i .i64)), (11, .one (.i .i64))] [] (.n .z (.n .z (.n (.n (.n (.n .z .z) (.n .z (.n (.n .z .z) .z))) .z) .z)))) .z))) = chain_Table__All_1_c k88 ky0 := by kernel_rfl
theorem chain_Table__All_1_sound {O : Type} {RO : O → Loc → (Nat → Option Obj) → Prop} {ky0 : Sm O} (hy : YSound RO Try.prog ky0) : FSound RO Try.prog 158 (chain_Table__All_1 ky0) :=
   have h : FSound RO Try.prog 158 (chain_Table__All_1_c chain_Table__After ky0) := (chain_Table__All_1_run chain_Table__After ky0) ▸ run_sound (gcons chain_Table__After_ent (chain_Table__After_sound) <| gyld hy <| gnil) mixed Try.func158 (by kernel_rfl) _
   h

/-- (haymow/chain.Table).All -/
noncomputable def chain_Table__All_c {O : Type} : Sm O := fun xs σ =>
 bif Nat.beq xs.length 2 then
 (AV.asAgg 5 (xs.getD 0 .u)).bind fun c0 =>
 (AV.asP (c0.getD 0 .u)).bind fun p1 =>
 (AV.asI .i64 (c0.getD 1 .u)).bind fun n2 =>
 (AV.asI .i64 (c0.getD 2 .u)).bind fun n3 =>
 (AV.asI .i64 (c0.getD 3 .u)).bind fun n4 =>
 (AV.asI .i64 (c0.getD 4 .u)).bind fun n5 =>
 (AV.asAgg 3 (xs.getD 1 .u)).bind fun c6 =>
 (AV.asI .i64 (c6.getD 0 .u)).bind fun n7 =>
 (AV.asI .i64 (c6.getD 1 .u)).bind fun n8 =>
 (AV.asI .i64 (c6.getD 2 .u)).bind fun n9 =>
 let σ10 := σ.bump 2
 let σ11 := σ10.put σ.next (.cells true 136 [(.p p1), (.i .i64 n2), (.i .i64 n3), (.i .i64 n4), (.i .i64 n5)])
 let σ12 := σ11.put (σ.next + 1) (.cells true 130 [(.i .i64 n7), (.i .i64 n8), (.i .i64 n9)])
 some ((.fn (some (.func 158, [], [(.p (some ((.n (σ.next + 1)), 0))), (.p (some ((.n σ.next), 0)))]))), σ12)
 else none
noncomputable def chain_Table__All {O : Type} : Sm O := chain_Table__All_c
theorem chain_Table__All_ent : Entered Try.prog 132 := Try.call132
theorem chain_Table__All_run {O : Type} : run (O := O) Try.prog [] Try.f132 (.n .z .z) = chain_Table__All_c  := by kernel_rfl
theorem chain_Table__All_sound {O : Type} {RO : O → Loc → (Nat → Option Obj) → Prop} : FSound RO Try.prog 132 (chain_Table__All) :=
   have h : FSound RO Try.prog 132 (chain_Table__All_c) := (chain_Table__All_run) ▸ run_sound (gnil) mixed Try.func132 (by kernel_rfl) _
   h

/-- a round of a loop in (*haymow/handles.Handles).Turn -/
noncomputable def handles_Handles__Turn_R0_c {O : Type} (k79 k61 k72 : Sm O) : Sm O := roundW 71000 1 fun env0 ys0 blk0 σ =>
 (AV.asP (env0 2)).bind fun p0 =>
 (AV.asP (env0 3)).bind fun p1 =>
 (AV.asI .i64 (ys0.getD 0 .u)).bind fun n2 =>
 (busyL σ blk0).bind fun σ3 =>
 Option.bind p0 fun q4 =>
 (σ3.ld q4.1 q4.2).bind fun w5 =>
 (AV.asP w5).bind fun p6 =>
 Option.bind p6 fun q7 =>
 (σ3.ld q7.1 q7.2).bind fun w8 =>
 (AV.asP w8).bind fun p9 =>
 (k79 [(.p p9), (.i .i64 n2), (.i .i64 0)] σ3).bind fun r10 =>
 (AV.asTup 2 r10.1).bind fun c11 =>
 (AV.asI .u64 (c11.getD 0 .u)).bind fun n12 =>
 (AV.asI .i64 (c11.getD 1 .u)).bind fun n13 =>
 ((bif ((n12 : Int) != 0) then
 Option.bind p0 fun q14 =>
 (r10.2.ld q14.1 q14.2).bind fun w15 =>
 (AV.asP w15).bind fun p16 =>
 Option.bind p0 fun q17 =>
 Option.bind p16 fun q18 =>
 (r10.2.ld q18.1 q18.2).bind fun w19 =>
 (AV.asP w19).bind fun p20 =>
 Option.bind p1 fun q21 =>
 (r10.2.ld q21.1 q21.2).bind fun w22 =>
 (AV.asF w22).bind fun f23 =>
 Option.bind p1 fun q24 =>
 (callV [(79, k79), (61, k61), (72, k72)] f23 [(.i .u64 n12)] r10.2).bind fun r25 =>
 (AV.asI .u64 r25.1).bind fun n26 =>
 (chkE (r25.2.ld q17.1 q17.2) (some (.p p16))).bind fun _ =>
 (chkE (r25.2.ld q18.1 q18.2) (some (.p p20))).bind fun _ =>
 (k61 [(.p p20), (.i .i64 n2), (.i .i64 0), (.i .u64 n26)] r25.2).bind fun r27 =>
 (AV.asI .i64 r27.1).bind fun n28 =>
 some ([], r27.2)
 else some ([], r10.2)) : Option (List AV × AH O)).bind fun r29 =>
 (markL r29.2 blk0 .ready).bind fun σ => some (.b true, σ)
noncomputable def handles_Handles__Turn_R0 {O : Type} : Sm O := handles_Handles__Turn_R0_c pool_Pool__Get pool_Pool__Set law18_do_1
theorem handles_Handles__Turn_R0_run {O : Type} (k79 k61 k72 : Sm O) : roundAt (O := O) Try.prog [(79, k79), (61, k61), (72, k72)] 71 Try.f71 0 [(2, .one .p), (3, .one .p)] [(16, .one (.i .i64))] (.n .z (.n (.n .z (.n .z (.j false [] (.d [] [0, 1, 2, 3, 4, 5, 6, 7, 8] [0, 1, 3, 7, 0, 0, 0, 96, 255]) .z))) .z)) = handles_Handles__Turn_R0_c k79 k61 k72 := by kernel_rfl
theorem handles_Handles__Turn_R0_sound {O : Type} {RO : O → Loc → (Nat → Option Obj) → Prop} : YSound RO Try.prog (handles_Handles__Turn_R0) :=
   have h : YSound RO Try.prog (handles_Handles__Turn_R0_c pool_Pool__Get pool_Pool__Set law18_do_1) := (handles_Handles__Turn_R0_run pool_Pool__Get pool_Pool__Set law18_do_1) ▸ roundAt_sound (gcons pool_Pool__Get_ent (pool_Pool__Get_sound) <| gcons pool_Pool__Set_ent (pool_Pool__Set_sound) <| gcons law18_do_1_ent (law18_do_1_sound) <| gnil) mixed Try.func71 _ _ _ _
   h
/-- (*haymow/handles.Handles).Turn -/
noncomputable def handles_Handles__Turn_c {O : Type} (k62 k132 k79 k61 k72 kr158 : Sm O) : Sm O := fun xs σ =>
 bif Nat.beq xs.length 2 then
 (AV.asP (xs.getD 0 .u)).bind fun p0 =>
 (AV.asF (xs.getD 1 .u)).bind fun f1 =>
 let σ2 := σ.bump 2
 let σ3 := σ2.put σ.next (.cells true 25 [(.p p0)])
 let σ4 := σ3.put (σ.next + 1) (.cells true 150 [(.fn f1)])
 (σ4.ld (.n (σ.next + 1)) 0).bind fun w5 =>
 (AV.asF w5).bind fun f6 =>
 (bif (Option.isNone f6) then
 some ((.tup []), σ4)
 else (σ4.ld (.n σ.next) 0).bind fun w7 =>
 (AV.asP w7).bind fun p8 =>
 (σ4.ld (.n σ.next) 0).bind fun w9 =>
 (AV.asP w9).bind fun p10 =>
 Option.bind p10 fun q11 =>
 (σ4.ld q11.1 (q11.2 + 1)).bind fun w12 =>
 (AV.asI .i64 w12).bind fun n13 =>
 (σ4.ld q11.1 ((q11.2 + 1) + 1)).bind fun w14 =>
 (AV.asI .i64 w14).bind fun n15 =>
 (σ4.ld q11.1 (((q11.2 + 1) + 1) + 1)).bind fun w16 =>
 (AV.asI .i64 w16).bind fun n17 =>
 (k62 [(.p p8)] σ4).bind fun r18 =>
 (AV.asAgg 5 r18.1).bind fun c19 =>
 (AV.asP (c19.getD 0 .u)).bind fun p20 =>
 (AV.asI .i64 (c19.getD 1 .u)).bind fun n21 =>
 (AV.asI .i64 (c19.getD 2 .u)).bind fun n22 =>
 (AV.asI .i64 (c19.getD 3 .u)).bind fun n23 =>
 (AV.asI .i64 (c19.getD 4 .u)).bind fun n24 =>
 (chkE (r18.2.ld (.n σ.next) 0) (some (.p p10))).bind fun _ =>
 (chkE (r18.2.ld q11.1 (q11.2 + 1)) (some (.i .i64 n13))).bind fun _ =>
 (chkE (r18.2.ld q11.1 ((q11.2 + 1) + 1)) (some (.i .i64 n15))).bind fun _ =>
 (chkE (r18.2.ld q11.1 (((q11.2 + 1) + 1) + 1)) (some (.i .i64 n17))).bind fun _ =>
 (k132 [(.agg [(.p p20), (.i .i64 n21), (.i .i64 n22), (.i .i64 n23), (.i .i64 n24)]), (.agg [(.i .i64 n13), (.i .i64 n15), (.i .i64 n17)])] r18.2).bind fun r25 =>
 (AV.asF r25.1).bind fun f26 =>
 (rangeV [(62, k62), (132, k132), (79, k79), (61, k61), (72, k72), (2000158, kr158)] f26 71000 [(2, (.p (some ((.n σ.next), 0)))), (3, (.p (some ((.n (σ.next + 1)), 0))))] r25.2).bind fun r27 =>
 (lstN r27.2 r25.2.next).bind fun st28 =>
 let σ29 := r27.2.kill r25.2.next
 (bif Nat.beq st28 0 then
 some ((.tup []), σ29)
 else none))
 else none
noncomputable def handles_Handles__Turn {O : Type} : Sm O := handles_Handles__Turn_c handles_Handles__table chain_Table__All pool_Pool__Get pool_Pool__Set law18_do_1 (chain_Table__All_1 (handles_Handles__Turn_R0))
theorem handles_Handles__Turn_ent : Entered Try.prog 71 := Try.call71
theorem handles_Handles__Turn_run {O : Type} (k62 k132 k79 k61 k72 kr158 : Sm O) : run (O := O) Try.prog [(62, k62), (132, k132), (79, k79), (61, k61), (72, k72), (2000158, kr158)] Try.f71 (.n .z (.n (.n .z .z) (.n (.d [] [0, 2, 3, 4, 5, 1, 6] [0, 1, 0, 4, 12, 28, 63]) (.n (.rf 71000 [2, 3] []) .z)))) = handles_Handles__Turn_c k62 k132 k79 k61 k72 kr158 := by kernel_rfl
theorem handles_Handles__Turn_sound {O : Type} {RO : O → Loc → (Nat → Option Obj) → Prop} : FSound RO Try.prog 71 (handles_Handles__Turn) :=
   have h : FSound RO Try.prog 71 (handles_Handles__Turn_c handles_Handles__table chain_Table__All pool_Pool__Get pool_Pool__Set law18_do_1 (chain_Table__All_1 (handles_Handles__Turn_R0))) := (handles_Handles__Turn_run handles_Handles__table chain_Table__All pool_Pool__Get pool_Pool__Set law18_do_1 (chain_Table__All_1 (handles_Handles__Turn_R0))) ▸ run_soundR (gcons handles_Handles__table_ent (handles_Handles__table_sound) <| gcons chain_Table__All_ent (chain_Table__All_sound) <| gcons pool_Pool__Get_ent (pool_Pool__Get_sound) <| gcons pool_Pool__Set_ent (pool_Pool__Set_sound) <| gcons law18_do_1_ent (law18_do_1_sound) <| grf (c := 158) chain_Table__All_1_ent (chain_Table__All_1_sound (handles_Handles__Turn_R0_sound)) <| gnil) mixed Try.func71 (by kernel_rfl) _ (by kernel_rfl)
   h

/-- haymow/haymowref18.More -/
noncomputable def haymowref18_More_L1 {O : Type} (σ : AH O) (n6 : Int) : List AV × AH O → Option ((List AV × AH O) ⊕ (List AV × AH O)) := (fun r18 =>
 (AV.asI .i64 (r18.1.getD 0 .u)).bind fun n19 =>
 (r18.2.ld (.n σ.next) 4).bind fun w20 =>
 (AV.asSl w20).bind fun l21 =>
 (bif (decide (n19 < (l21.2 : Int))) then
 (r18.2.ld (.n σ.next) 4).bind fun w22 =>
 (AV.asSl w22).bind fun l23 =>
 (bif ((decide ((0 : Int) ≤ n19)) && (decide (n19 < (l23.2 : Int)))) then
 (SA.ref l23.1).bind fun q24 =>
 (r18.2.ld q24.1 ((q24.2 + (n19.toNat * 2)) + 1)).bind fun w25 =>
 (AV.asI .u64 w25).bind fun n26 =>
 ((bif ((n26 : Int) != 0) then
 (r18.2.ld (.n σ.next) 4).bind fun w27 =>
 (AV.asSl w27).bind fun l28 =>
 (r18.2.ld (.n σ.next) 4).bind fun w29 =>
 (AV.asSl w29).bind fun l30 =>
 (bif ((decide ((0 : Int) ≤ n19)) && (decide (n19 < (l30.2 : Int)))) then
 (SA.ref l30.1).bind fun q31 =>
 (r18.2.ld q31.1 ((q31.2 + (n19.toNat * 2)) + 1)).bind fun w32 =>
 (AV.asI .u64 w32).bind fun n33 =>
 (bif ((decide ((0 : Int) ≤ n19)) && (decide (n19 < (l28.2 : Int)))) then
 (SA.ref l28.1).bind fun q34 =>
 (r18.2.st q34.1 ((q34.2 + (n19.toNat * 2)) + 1) [(.i .u64 (IntKind.u64.wrap (n33 + n6)))]).bind fun σ35 =>
 some ([], σ35)
 else none)
 else none)
 else some ([], r18.2)) : Option (List AV × AH O)).bind fun r36 =>
 some (Sum.inl ([(.i .i64 (IntKind.i64.wrap (n19 + 1)))], r36.2))
 else none)
 else some (Sum.inr ([], r18.2))))
noncomputable def haymowref18_More_c {O : Type} : Sm O := fun xs σ =>
 bif Nat.beq xs.length 2 then
 (AV.asAgg 5 (xs.getD 0 .u)).bind fun c0 =>
 (AV.asI .i64 (c0.getD 0 .u)).bind fun n1 =>
 (AV.asSl (c0.getD 1 .u)).bind fun l2 =>
 (AV.asSl (c0.getD 2 .u)).bind fun l3 =>
 (AV.asI .i64 (c0.getD 3 .u)).bind fun n4 =>
 (AV.asSl (c0.getD 4 .u)).bind fun l5 =>
 (AV.asI .u64 (xs.getD 1 .u)).bind fun n6 =>
 let σ7 := σ.bump 2
 let σ8 := σ7.put σ.next (.cells true 34 [(.i .i64 n1), (.sl l2.1 l2.2), (.sl l3.1 l3.2), (.i .i64 n4), (.sl l5.1 l5.2)])
 let σ9 := σ8.put (σ.next + 1) (.cells true 34 [(.i .i64 0), (.sl .nil 0), (.sl .nil 0), (.i .i64 0), (.sl .nil 0)])
 let σ10 := σ9.bump 2
 let σ11 := σ10.put σ9.next (.cells true 61 [])
 (σ11.ld (.n σ.next) 4).bind fun w12 =>
 (AV.asSl w12).bind fun l13 =>
 (σ11.rdSl l13.1 l13.2 2).bind fun new14 =>
 (bif (Nat.ble ((0 + l13.2) * 17) 35184372088832) then
 (σ11.appSl (σ9.next + 1) 61 2 (.loc (.n σ9.next) 0 2) 0 l13.2 new14).bind fun r15 =>
 (AV.asSl r15.1).bind fun l16 =>
 (r15.2.st (.n σ.next) 4 [(.sl l16.1 l16.2)]).bind fun σ17 =>
 (loopF (S := List AV × AH O) (T := List AV × AH O) (haymowref18_More_L1 σ n6) ([(.i .i64 0)], σ17)).bind fun r37 =>
 (r37.2.ld (.n σ.next) 0).bind fun w38 =>
 (AV.asI .i64 w38).bind fun n39 =>
 (r37.2.ld (.n σ.next) 1).bind fun w40 =>
 (AV.asSl w40).bind fun l41 =>
 (r37.2.ld (.n σ.next) 2).bind fun w42 =>
 (AV.asSl w42).bind fun l43 =>
 (r37.2.ld (.n σ.next) 3).bind fun w44 =>
 (AV.asI .i64 w44).bind fun n45 =>
 (r37.2.ld (.n σ.next) 4).bind fun w46 =>
 (AV.asSl w46).bind fun l47 =>
 (r37.2.st (.n (σ.next + 1)) 0 [(.i .i64 n39), (.sl l41.1 l41.2), (.sl l43.1 l43.2), (.i .i64 n45), (.sl l47.1 l47.2)]).bind fun σ48 =>
 (σ48.ld (.n (σ.next + 1)) 0).bind fun w49 =>
 (AV.asI .i64 w49).bind fun n50 =>
 (σ48.ld (.n (σ.next + 1)) 1).bind fun w51 =>
 (AV.asSl w51).bind fun l52 =>
 (σ48.ld (.n (σ.next + 1)) 2).bind fun w53 =>
 (AV.asSl w53).bind fun l54 =>
 (σ48.ld (.n (σ.next + 1)) 3).bind fun w55 =>
 (AV.asI .i64 w55).bind fun n56 =>
 (σ48.ld (.n (σ.next + 1)) 4).bind fun w57 =>
 (AV.asSl w57).bind fun l58 =>
 some ((.agg [(.i .i64 n50), (.sl l52.1 l52.2), (.sl l54.1 l54.2), (.i .i64 n56), (.sl l58.1 l58.2)]), σ48)
 else none)
 else none
noncomputable def haymowref18_More {O : Type} : Sm O := frz (haymowref18_More_c)
theorem haymowref18_More_ent : Entered Try.prog 73 := Try.call73
theorem haymowref18_More_run {O : Type} : run (O := O) Try.prog [] Try.f73 (.n .z (.n .z (.n (.n .z (.n (.lp false 0 [(5, .one (.i .i64))] [] (.n (.n .z .z) (.n (.n (.n .z (.j false [] (.d [] [0, 1, 2, 3, 4, 5, 6, 7, 8, 9, 10, 11, 12, 13] [0, 1, 0, 0, 8, 0, 56, 120, 248, 0, 1016, 2047, 4095, 8191]) .z)) .z) .z))) .z)) .z))) = haymowref18_More_c  := by kernel_rfl
theorem haymowref18_More_sound {O : Type} {RO : O → Loc → (Nat → Option Obj) → Prop} : FSound RO Try.prog 73 (haymowref18_More) :=
   have h : FSound RO Try.prog 73 (haymowref18_More_c) := (haymowref18_More_run) ▸ run_sound (gnil) mixed Try.func73 (by kernel_rfl) _
   h.frz

/-- haymow/haymowref18.Filled -/
noncomputable def haymowref18_Filled_L1 {O : Type} (σ : AH O) : List AV × AH O → Option ((List AV × AH O) ⊕ (List AV × AH O)) := (fun r8 =>
 (AV.asSl (r8.1.getD 0 .u)).bind fun l9 =>
 (AV.asI .i64 (r8.1.getD 1 .u)).bind fun n10 =>
 (r8.2.ld (.n σ.next) 4).bind fun w11 =>
 (AV.asSl w11).bind fun l12 =>
 (bif (decide (n10 < (l12.2 : Int))) then
 (r8.2.ld (.n σ.next) 4).bind fun w13 =>
 (AV.asSl w13).bind fun l14 =>
 (bif ((decide ((0 : Int) ≤ n10)) && (decide (n10 < (l14.2 : Int)))) then
 (SA.ref l14.1).bind fun q15 =>
 (r8.2.ld q15.1 ((q15.2 + (n10.toNat * 2)) + 1)).bind fun w16 =>
 (AV.asI .u64 w16).bind fun n17 =>
 ((bif ((n17 : Int) != 0) then
 let σ18 := r8.2.bump 2
 (σ18.ld (.n σ.next) 4).bind fun w19 =>
 (AV.asSl w19).bind fun l20 =>
 (bif ((decide ((0 : Int) ≤ n10)) && (decide (n10 < (l20.2 : Int)))) then
 (SA.ref l20.1).bind fun q21 =>
 (σ18.ld q21.1 ((q21.2 + (n10.toNat * 2)) + 1)).bind fun w22 =>
 (AV.asI .u64 w22).bind fun n23 =>
 let σ24 := σ18.put r8.2.next (.cells true 36 [(.i .u64 n23)])
 (σ24.rdSl (.loc (.n r8.2.next) 0 1) 1 1).bind fun new25 =>
 (bif (Nat.ble ((l9.2 + 1) * 9) 35184372088832) then
 (σ24.appSl (r8.2.next + 1) 36 1 l9.1 l9.2 1 new25).bind fun r26 =>
 (AV.asSl r26.1).bind fun l27 =>
 some ([(.sl l27.1 l27.2)], r26.2)
 else none)
 else none)
 else some ([(.sl l9.1 l9.2)], r8.2)) : Option (List AV × AH O)).bind fun r28 =>
 (AV.asSl (r28.1.getD 0 .u)).bind fun l29 =>
 some (Sum.inl ([(.sl l29.1 l29.2), (.i .i64 (IntKind.i64.wrap (n10 + 1)))], r28.2))
 else none)
 else some (Sum.inr ([(.sl l9.1 l9.2)], r8.2))))
noncomputable def haymowref18_Filled_c {O : Type} : Sm O := fun xs σ =>
 bif Nat.beq xs.length 1 then
 (AV.asAgg 5 (xs.getD 0 .u)).bind fun c0 =>
 (AV.asI .i64 (c0.getD 0 .u)).bind fun n1 =>
 (AV.asSl (c0.getD 1 .u)).bind fun l2 =>
 (AV.asSl (c0.getD 2 .u)).bind fun l3 =>
 (AV.asI .i64 (c0.getD 3 .u)).bind fun n4 =>
 (AV.asSl (c0.getD 4 .u)).bind fun l5 =>
 let σ6 := σ.bump 1
 let σ7 := σ6.put σ.next (.cells true 34 [(.i .i64 n1), (.sl l2.1 l2.2), (.sl l3.1 l3.2), (.i .i64 n4), (.sl l5.1 l5.2)])
 (loopF (S := List AV × AH O) (T := List AV × AH O) (haymowref18_Filled_L1 σ) ([(.sl .nil 0), (.i .i64 0)], σ7)).bind fun r30 =>
 (AV.asSl (r30.1.getD 0 .u)).bind fun l31 =>
 some ((.sl l31.1 l31.2), r30.2)
 else none
noncomputable def haymowref18_Filled {O : Type} : Sm O := frz (haymowref18_Filled_c)
theorem haymowref18_Filled_ent : Entered Try.prog 75 := Try.call75
theorem haymowref18_Filled_run {O : Type} : run (O := O) Try.prog [] Try.f75 (.n .z (.n .z (.n (.n .z (.n (.lp false 0 [(3, .one .sl), (4, .one (.i .i64))] [(3, .one .sl)] (.n (.n .z .z) (.n (.n (.n .z (.j false [(3, .one .sl)] .z .z)) .z) .z))) .z)) .z))) = haymowref18_Filled_c  := by kernel_rfl
theorem haymowref18_Filled_sound {O : Type} {RO : O → Loc → (Nat → Option Obj) → Prop} : FSound RO Try.prog 75 (haymowref18_Filled) :=
   have h : FSound RO Try.prog 75 (haymowref18_Filled_c) := (haymowref18_Filled_run) ▸ run_sound (gnil) mixed Try.func75 (by kernel_rfl) _
   h.frz

/-- haymow/haymowref05.Same -/
noncomputable def haymowref05_Same_L1 {O : Type} (l0 : SA × Nat) (l1 : SA × Nat) : List AV × AH O → Option ((List AV × AH O) ⊕ ((List AV × AH O) ⊕ (AV × AH O))) := (fun r2 =>
 (AV.asI .i64 (r2.1.getD 0 .u)).bind fun n3 =>
 (bif (decide (n3 < (l0.2 : Int))) then
 (bif ((decide ((0 : Int) ≤ n3)) && (decide (n3 < (l0.2 : Int)))) then
 (SA.ref l0.1).bind fun q4 =>
 (r2.2.ld q4.1 (q4.2 + (n3.toNat * 1))).bind fun w5 =>
 (AV.asI .u64 w5).bind fun n6 =>
 (bif ((decide ((0 : Int) ≤ n3)) && (decide (n3 < (l1.2 : Int)))) then
 (SA.ref l1.1).bind fun q7 =>
 (r2.2.ld q7.1 (q7.2 + (n3.toNat * 1))).bind fun w8 =>
 (AV.asI .u64 w8).bind fun n9 =>
 (bif ((n6 : Int) != n9) then
 ((some ((.b false), r2.2) : Option (AV × AH O)).map fun r => Sum.inr (Sum.inr r))
 else some (Sum.inl ([(.i .i64 (IntKind.i64.wrap (n3 + 1)))], r2.2)))
 else none)
 else none)
 else some (Sum.inr (Sum.inl ([], r2.2)))))
noncomputable def haymowref05_Same_c {O : Type} : Sm O := fun xs σ =>
 bif Nat.beq xs.length 2 then
 (AV.asSl (xs.getD 0 .u)).bind fun l0 =>
 (AV.asSl (xs.getD 1 .u)).bind fun l1 =>
 (bif (((l0.2 : Int) : Int) != (l1.2 : Int)) then
 some ((.b false), σ)
 else bindS (S := List AV × AH O) (R := (AV × AH O)) (loopF (S := List AV × AH O) (T := (List AV × AH O) ⊕ (AV × AH O)) (haymowref05_Same_L1 l0 l1) ([(.i .i64 0)], σ)) fun r10 =>
 some ((.b true), r10.2))
 else none
noncomputable def haymowref05_Same {O : Type} : Sm O := haymowref05_Same_c
theorem haymowref05_Same_ent : Entered Try.prog 74 := Try.call74
theorem haymowref05_Same_run {O : Type} : run (O := O) Try.prog [] Try.f74 (.n .z (.n (.n .z (.n .z .z)) (.n (.n .z (.n (.lp true 0 [(5, .one (.i .i64))] [] (.n (.n .z .z) (.n (.n (.n (.d [] [0, 1, 2, 3, 4, 5, 6, 7, 8] [0, 0, 3, 7, 0, 0, 48, 112, 255]) (.n .z .z)) .z) .z))) .z)) .z))) = haymowref05_Same_c  := by kernel_rfl
theorem haymowref05_Same_sound {O : Type} {RO : O → Loc → (Nat → Option Obj) → Prop} : FSound RO Try.prog 74 (haymowref05_Same) :=
   have h : FSound RO Try.prog 74 (haymowref05_Same_c) := (haymowref05_Same_run) ▸ run_sound (gnil) mixed Try.func74 (by kernel_rfl) _
   h

/-- haymow/haymowlaw18.do -/
noncomputable def law18_do_c {O : Type} (k55 k67 k21 k68 k69 k70 k72 k71 k73 k75 k74 : Sm O) : Sm O := fun xs σ =>
 bif Nat.beq xs.length 4 then
 (AV.asP (xs.getD 0 .u)).bind fun p0 =>
 (AV.asAgg 5 (xs.getD 1 .u)).bind fun c1 =>
 (AV.asI .i64 (c1.getD 0 .u)).bind fun n2 =>
 (AV.asSl (c1.getD 1 .u)).bind fun l3 =>
 (AV.asSl (c1.getD 2 .u)).bind fun l4 =>
 (AV.asI .i64 (c1.getD 3 .u)).bind fun n5 =>
 (AV.asSl (c1.getD 4 .u)).bind fun l6 =>
 (AV.asAgg 4 (xs.getD 2 .u)).bind fun c7 =>
 (AV.asI .i64 (c7.getD 0 .u)).bind fun n8 =>
 (AV.asI .i64 (c7.getD 1 .u)).bind fun n9 =>
 (AV.asB (c7.getD 2 .u)).bind fun b10 =>
 (AV.asI .u64 (c7.getD 3 .u)).bind fun n11 =>
 (AV.asI .i64 (xs.getD 3 .u)).bind fun n12 =>
 let σ13 := σ.bump 3
 let σ14 := σ13.put σ.next (.cells true 34 [(.i .i64 n2), (.sl l3.1 l3.2), (.sl l4.1 l4.2), (.i .i64 n5), (.sl l6.1 l6.2)])
 let σ15 := σ14.put (σ.next + 1) (.cells true 45 [(.i .i64 n8), (.i .i64 n9), (.b b10), (.i .u64 n11)])
 let σ16 := σ15.put ((σ.next + 1) + 1) (.cells true 34 [(.i .i64 0), (.sl .nil 0), (.sl .nil 0), (.i .i64 0), (.sl .nil 0)])
 (σ16.ld (.n (σ.next + 1)) 0).bind fun w17 =>
 (AV.asI .i64 w17).bind fun n18 =>
 (bif ((n18 : Int) == 1) then
 (k55 [(.p p0), (.i .i64 n12)] σ16).bind fun r19 =>
 (AV.asI .i64 r19.1).bind fun n20 =>
 (r19.2.ld (.n σ.next) 0).bind fun w21 =>
 (AV.asI .i64 w21).bind fun n22 =>
 (r19.2.ld (.n σ.next) 1).bind fun w23 =>
 (AV.asSl w23).bind fun l24 =>
 (r19.2.ld (.n σ.next) 2).bind fun w25 =>
 (AV.asSl w25).bind fun l26 =>
 (r19.2.ld (.n σ.next) 3).bind fun w27 =>
 (AV.asI .i64 w27).bind fun n28 =>
 (r19.2.ld (.n σ.next) 4).bind fun w29 =>
 (AV.asSl w29).bind fun l30 =>
 (k67 [(.agg [(.i .i64 n22), (.sl l24.1 l24.2), (.sl l26.1 l26.2), (.i .i64 n28), (.sl l30.1 l30.2)]), (.i .i64 n12)] r19.2).bind fun r31 =>
 (AV.asTup 2 r31.1).bind fun c32 =>
 (AV.asAgg 5 (c32.getD 0 .u)).bind fun c33 =>
 (AV.asI .i64 (c33.getD 0 .u)).bind fun n34 =>
 (AV.asSl (c33.getD 1 .u)).bind fun l35 =>
 (AV.asSl (c33.getD 2 .u)).bind fun l36 =>
 (AV.asI .i64 (c33.getD 3 .u)).bind fun n37 =>
 (AV.asSl (c33.getD 4 .u)).bind fun l38 =>
 (AV.asI .i64 (c32.getD 1 .u)).bind fun n39 =>
 (r31.2.st (.n σ.next) 0 [(.i .i64 n34), (.sl l35.1 l35.2), (.sl l36.1 l36.2), (.i .i64 n37), (.sl l38.1 l38.2)]).bind fun σ40 =>
 (σ40.ld (.n σ.next) 0).bind fun w41 =>
 (AV.asI .i64 w41).bind fun n42 =>
 (σ40.ld (.n σ.next) 1).bind fun w43 =>
 (AV.asSl w43).bind fun l44 =>
 (σ40.ld (.n σ.next) 2).bind fun w45 =>
 (AV.asSl w45).bind fun l46 =>
 (σ40.ld (.n σ.next) 3).bind fun w47 =>
 (AV.asI .i64 w47).bind fun n48 =>
 (σ40.ld (.n σ.next) 4).bind fun w49 =>
 (AV.asSl w49).bind fun l50 =>
 (σ40.st (.n ((σ.next + 1) + 1)) 0 [(.i .i64 n42), (.sl l44.1 l44.2), (.sl l46.1 l46.2), (.i .i64 n48), (.sl l50.1 l50.2)]).bind fun σ51 =>
 (σ51.ld (.n ((σ.next + 1) + 1)) 0).bind fun w52 =>
 (AV.asI .i64 w52).bind fun n53 =>
 (σ51.ld (.n ((σ.next + 1) + 1)) 1).bind fun w54 =>
 (AV.asSl w54).bind fun l55 =>
 (σ51.ld (.n ((σ.next + 1) + 1)) 2).bind fun w56 =>
 (AV.asSl w56).bind fun l57 =>
 (σ51.ld (.n ((σ.next + 1) + 1)) 3).bind fun w58 =>
 (AV.asI .i64 w58).bind fun n59 =>
 (σ51.ld (.n ((σ.next + 1) + 1)) 4).bind fun w60 =>
 (AV.asSl w60).bind fun l61 =>
 some ((.tup [(.agg [(.i .i64 n53), (.sl l55.1 l55.2), (.sl l57.1 l57.2), (.i .i64 n59), (.sl l61.1 l61.2)]), (.i .u64 12), (.b ((n20 : Int) == n39))]), σ51)
 else (bif ((n18 : Int) == 2) then
 (k21 [(.p p0), (.i .i64 n12)] σ16).bind fun r62 =>
 (AV.asTup 2 r62.1).bind fun c63 =>
 (AV.asI .u64 (c63.getD 0 .u)).bind fun n64 =>
 (AV.asI .i64 (c63.getD 1 .u)).bind fun n65 =>
 (r62.2.ld (.n σ.next) 0).bind fun w66 =>
 (AV.asI .i64 w66).bind fun n67 =>
 (r62.2.ld (.n σ.next) 1).bind fun w68 =>
 (AV.asSl w68).bind fun l69 =>
 (r62.2.ld (.n σ.next) 2).bind fun w70 =>
 (AV.asSl w70).bind fun l71 =>
 (r62.2.ld (.n σ.next) 3).bind fun w72 =>
 (AV.asI .i64 w72).bind fun n73 =>
 (r62.2.ld (.n σ.next) 4).bind fun w74 =>
 (AV.asSl w74).bind fun l75 =>
 (k68 [(.agg [(.i .i64 n67), (.sl l69.1 l69.2), (.sl l71.1 l71.2), (.i .i64 n73), (.sl l75.1 l75.2)]), (.i .i64 n12)] r62.2).bind fun r76 =>
 (AV.asI .i64 r76.1).bind fun n77 =>
 (bif (decide (n77 < 0)) then
 (r76.2.ld (.n σ.next) 0).bind fun w78 =>
 (AV.asI .i64 w78).bind fun n79 =>
 (r76.2.ld (.n σ.next) 1).bind fun w80 =>
 (AV.asSl w80).bind fun l81 =>
 (r76.2.ld (.n σ.next) 2).bind fun w82 =>
 (AV.asSl w82).bind fun l83 =>
 (r76.2.ld (.n σ.next) 3).bind fun w84 =>
 (AV.asI .i64 w84).bind fun n85 =>
 (r76.2.ld (.n σ.next) 4).bind fun w86 =>
 (AV.asSl w86).bind fun l87 =>
 ((bif (((n64 : Int) == 0) == true) then
 some ([(.b ((n65 : Int) == 30))], r76.2)
 else some ([(.b false)], r76.2)) : Option (List AV × AH O)).bind fun r88 =>
 (AV.asB (r88.1.getD 0 .u)).bind fun b89 =>
 (r88.2.st (.n ((σ.next + 1) + 1)) 0 [(.i .i64 n79), (.sl l81.1 l81.2), (.sl l83.1 l83.2), (.i .i64 n85), (.sl l87.1 l87.2)]).bind fun σ90 =>
 (σ90.ld (.n ((σ.next + 1) + 1)) 0).bind fun w91 =>
 (AV.asI .i64 w91).bind fun n92 =>
 (σ90.ld (.n ((σ.next + 1) + 1)) 1).bind fun w93 =>
 (AV.asSl w93).bind fun l94 =>
 (σ90.ld (.n ((σ.next + 1) + 1)) 2).bind fun w95 =>
 (AV.asSl w95).bind fun l96 =>
 (σ90.ld (.n ((σ.next + 1) + 1)) 3).bind fun w97 =>
 (AV.asI .i64 w97).bind fun n98 =>
 (σ90.ld (.n ((σ.next + 1) + 1)) 4).bind fun w99 =>
 (AV.asSl w99).bind fun l100 =>
 some ((.tup [(.agg [(.i .i64 n92), (.sl l94.1 l94.2), (.sl l96.1 l96.2), (.i .i64 n98), (.sl l100.1 l100.2)]), (.i .u64 6), (.b b89)]), σ90)
 else (r76.2.ld (.n σ.next) 0).bind fun w101 =>
 (AV.asI .i64 w101).bind fun n102 =>
 (r76.2.ld (.n σ.next) 1).bind fun w103 =>
 (AV.asSl w103).bind fun l104 =>
 (r76.2.ld (.n σ.next) 2).bind fun w105 =>
 (AV.asSl w105).bind fun l106 =>
 (r76.2.ld (.n σ.next) 3).bind fun w107 =>
 (AV.asI .i64 w107).bind fun n108 =>
 (r76.2.ld (.n σ.next) 4).bind fun w109 =>
 (AV.asSl w109).bind fun l110 =>
 (r76.2.ld (.n σ.next) 4).bind fun w111 =>
 (AV.asSl w111).bind fun l112 =>
 (bif ((decide ((0 : Int) ≤ n77)) && (decide (n77 < (l112.2 : Int)))) then
 (SA.ref l112.1).bind fun q113 =>
 (r76.2.ld q113.1 ((q113.2 + (n77.toNat * 2)) + 1)).bind fun w114 =>
 (AV.asI .u64 w114).bind fun n115 =>
 ((bif (((n64 : Int) == n115) == true) then
 some ([(.b ((n65 : Int) == 0))], r76.2)
 else some ([(.b false)], r76.2)) : Option (List AV × AH O)).bind fun r116 =>
 (AV.asB (r116.1.getD 0 .u)).bind fun b117 =>
 (r116.2.st (.n ((σ.next + 1) + 1)) 0 [(.i .i64 n102), (.sl l104.1 l104.2), (.sl l106.1 l106.2), (.i .i64 n108), (.sl l110.1 l110.2)]).bind fun σ118 =>
 (σ118.ld (.n ((σ.next + 1) + 1)) 0).bind fun w119 =>
 (AV.asI .i64 w119).bind fun n120 =>
 (σ118.ld (.n ((σ.next + 1) + 1)) 1).bind fun w121 =>
 (AV.asSl w121).bind fun l122 =>
 (σ118.ld (.n ((σ.next + 1) + 1)) 2).bind fun w123 =>
 (AV.asSl w123).bind fun l124 =>
 (σ118.ld (.n ((σ.next + 1) + 1)) 3).bind fun w125 =>
 (AV.asI .i64 w125).bind fun n126 =>
 (σ118.ld (.n ((σ.next + 1) + 1)) 4).bind fun w127 =>
 (AV.asSl w127).bind fun l128 =>
 some ((.tup [(.agg [(.i .i64 n120), (.sl l122.1 l122.2), (.sl l124.1 l124.2), (.i .i64 n126), (.sl l128.1 l128.2)]), (.i .u64 6), (.b b117)]), σ118)
 else none))
 else (bif ((n18 : Int) == 3) then
 (σ16.ld (.n (σ.next + 1)) 3).bind fun w129 =>
 (AV.asI .u64 w129).bind fun n130 =>
 (k69 [(.p p0), (.i .i64 n12), (.i .u64 n130)] σ16).bind fun r131 =>
 (AV.asI .i64 r131.1).bind fun n132 =>
 (r131.2.ld (.n σ.next) 0).bind fun w133 =>
 (AV.asI .i64 w133).bind fun n134 =>
 (r131.2.ld (.n σ.next) 1).bind fun w135 =>
 (AV.asSl w135).bind fun l136 =>
 (r131.2.ld (.n σ.next) 2).bind fun w137 =>
 (AV.asSl w137).bind fun l138 =>
 (r131.2.ld (.n σ.next) 3).bind fun w139 =>
 (AV.asI .i64 w139).bind fun n140 =>
 (r131.2.ld (.n σ.next) 4).bind fun w141 =>
 (AV.asSl w141).bind fun l142 =>
 (r131.2.ld (.n (σ.next + 1)) 3).bind fun w143 =>
 (AV.asI .u64 w143).bind fun n144 =>
 (k70 [(.agg [(.i .i64 n134), (.sl l136.1 l136.2), (.sl l138.1 l138.2), (.i .i64 n140), (.sl l142.1 l142.2)]), (.i .i64 n12), (.i .u64 n144)] r131.2).bind fun r145 =>
 (AV.asTup 2 r145.1).bind fun c146 =>
 (AV.asAgg 5 (c146.getD 0 .u)).bind fun c147 =>
 (AV.asI .i64 (c147.getD 0 .u)).bind fun n148 =>
 (AV.asSl (c147.getD 1 .u)).bind fun l149 =>
 (AV.asSl (c147.getD 2 .u)).bind fun l150 =>
 (AV.asI .i64 (c147.getD 3 .u)).bind fun n151 =>
 (AV.asSl (c147.getD 4 .u)).bind fun l152 =>
 (AV.asI .i64 (c146.getD 1 .u)).bind fun n153 =>
 (r145.2.st (.n σ.next) 0 [(.i .i64 n148), (.sl l149.1 l149.2), (.sl l150.1 l150.2), (.i .i64 n151), (.sl l152.1 l152.2)]).bind fun σ154 =>
 (σ154.ld (.n σ.next) 0).bind fun w155 =>
 (AV.asI .i64 w155).bind fun n156 =>
 (σ154.ld (.n σ.next) 1).bind fun w157 =>
 (AV.asSl w157).bind fun l158 =>
 (σ154.ld (.n σ.next) 2).bind fun w159 =>
 (AV.asSl w159).bind fun l160 =>
 (σ154.ld (.n σ.next) 3).bind fun w161 =>
 (AV.asI .i64 w161).bind fun n162 =>
 (σ154.ld (.n σ.next) 4).bind fun w163 =>
 (AV.asSl w163).bind fun l164 =>
 (σ154.st (.n ((σ.next + 1) + 1)) 0 [(.i .i64 n156), (.sl l158.1 l158.2), (.sl l160.1 l160.2), (.i .i64 n162), (.sl l164.1 l164.2)]).bind fun σ165 =>
 (σ165.ld (.n ((σ.next + 1) + 1)) 0).bind fun w166 =>
 (AV.asI .i64 w166).bind fun n167 =>
 (σ165.ld (.n ((σ.next + 1) + 1)) 1).bind fun w168 =>
 (AV.asSl w168).bind fun l169 =>
 (σ165.ld (.n ((σ.next + 1) + 1)) 2).bind fun w170 =>
 (AV.asSl w170).bind fun l171 =>
 (σ165.ld (.n ((σ.next + 1) + 1)) 3).bind fun w172 =>
 (AV.asI .i64 w172).bind fun n173 =>
 (σ165.ld (.n ((σ.next + 1) + 1)) 4).bind fun w174 =>
 (AV.asSl w174).bind fun l175 =>
 some ((.tup [(.agg [(.i .i64 n167), (.sl l169.1 l169.2), (.sl l171.1 l171.2), (.i .i64 n173), (.sl l175.1 l175.2)]), (.i .u64 6), (.b ((n132 : Int) == n153))]), σ165)
 else let σ176 := σ16.bump 1
 let σ177 := σ176.put σ16.next (.cells true 108 [(.sl .nil 0)])
 (k71 [(.p p0), (.fn (some (.func 72, [], [(.p (some ((.n σ16.next), 0))), (.p (some ((.n (σ.next + 1)), 0)))])))] σ177).bind fun r178 =>
 (AV.asTup 0 r178.1).bind fun c179 =>
 (k71 [(.p p0), (.fn none)] r178.2).bind fun r180 =>
 (AV.asTup 0 r180.1).bind fun c181 =>
 (r180.2.ld (.n σ.next) 0).bind fun w182 =>
 (AV.asI .i64 w182).bind fun n183 =>
 (r180.2.ld (.n σ.next) 1).bind fun w184 =>
 (AV.asSl w184).bind fun l185 =>
 (r180.2.ld (.n σ.next) 2).bind fun w186 =>
 (AV.asSl w186).bind fun l187 =>
 (r180.2.ld (.n σ.next) 3).bind fun w188 =>
 (AV.asI .i64 w188).bind fun n189 =>
 (r180.2.ld (.n σ.next) 4).bind fun w190 =>
 (AV.asSl w190).bind fun l191 =>
 (r180.2.ld (.n (σ.next + 1)) 3).bind fun w192 =>
 (AV.asI .u64 w192).bind fun n193 =>
 (r180.2.ld (.n σ.next) 4).bind fun w194 =>
 (AV.asSl w194).bind fun l195 =>
 let v196 : Int := (IntKind.u64.wrap (IntKind.i64.wrap (6 * (l195.2 : Int))))
 (r180.2.ld (.n σ16.next) 0).bind fun w197 =>
 (AV.asSl w197).bind fun l198 =>
 (r180.2.ld (.n σ.next) 0).bind fun w199 =>
 (AV.asI .i64 w199).bind fun n200 =>
 (r180.2.ld (.n σ.next) 1).bind fun w201 =>
 (AV.asSl w201).bind fun l202 =>
 (r180.2.ld (.n σ.next) 2).bind fun w203 =>
 (AV.asSl w203).bind fun l204 =>
 (r180.2.ld (.n σ.next) 3).bind fun w205 =>
 (AV.asI .i64 w205).bind fun n206 =>
 (r180.2.ld (.n σ.next) 4).bind fun w207 =>
 (AV.asSl w207).bind fun l208 =>
 (k73 [(.agg [(.i .i64 n183), (.sl l185.1 l185.2), (.sl l187.1 l187.2), (.i .i64 n189), (.sl l191.1 l191.2)]), (.i .u64 n193)] r180.2).bind fun r209 =>
 (AV.asAgg 5 r209.1).bind fun c210 =>
 (AV.asI .i64 (c210.getD 0 .u)).bind fun n211 =>
 (AV.asSl (c210.getD 1 .u)).bind fun l212 =>
 (AV.asSl (c210.getD 2 .u)).bind fun l213 =>
 (AV.asI .i64 (c210.getD 3 .u)).bind fun n214 =>
 (AV.asSl (c210.getD 4 .u)).bind fun l215 =>
 (chkE (r209.2.ld (.n σ.next) 4) (some (.sl l195.1 l195.2))).bind fun _ =>
 (chkE (r209.2.ld (.n σ16.next) 0) (some (.sl l198.1 l198.2))).bind fun _ =>
 (chkE (r209.2.ld (.n σ.next) 0) (some (.i .i64 n200))).bind fun _ =>
 (chkE (r209.2.ld (.n σ.next) 1) (some (.sl l202.1 l202.2))).bind fun _ =>
 (chkE (r209.2.ld (.n σ.next) 2) (some (.sl l204.1 l204.2))).bind fun _ =>
 (chkE (r209.2.ld (.n σ.next) 3) (some (.i .i64 n206))).bind fun _ =>
 (chkE (r209.2.ld (.n σ.next) 4) (some (.sl l208.1 l208.2))).bind fun _ =>
 (k75 [(.agg [(.i .i64 n200), (.sl l202.1 l202.2), (.sl l204.1 l204.2), (.i .i64 n206), (.sl l208.1 l208.2)])] r209.2).bind fun r216 =>
 (AV.asSl r216.1).bind fun l217 =>
 (chkE (r216.2.ld (.n σ.next) 4) (some (.sl l195.1 l195.2))).bind fun _ =>
 (chkE (r216.2.ld (.n σ16.next) 0) (some (.sl l198.1 l198.2))).bind fun _ =>
 (k74 [(.sl l198.1 l198.2), (.sl l217.1 l217.2)] r216.2).bind fun r218 =>
 (AV.asB r218.1).bind fun b219 =>
 (chkE (r218.2.ld (.n σ.next) 4) (some (.sl l195.1 l195.2))).bind fun _ =>
 (r218.2.st (.n ((σ.next + 1) + 1)) 0 [(.i .i64 n211), (.sl l212.1 l212.2), (.sl l213.1 l213.2), (.i .i64 n214), (.sl l215.1 l215.2)]).bind fun σ220 =>
 (chkE (σ220.ld (.n σ.next) 4) (some (.sl l195.1 l195.2))).bind fun _ =>
 (σ220.ld (.n ((σ.next + 1) + 1)) 0).bind fun w221 =>
 (AV.asI .i64 w221).bind fun n222 =>
 (σ220.ld (.n ((σ.next + 1) + 1)) 1).bind fun w223 =>
 (AV.asSl w223).bind fun l224 =>
 (σ220.ld (.n ((σ.next + 1) + 1)) 2).bind fun w225 =>
 (AV.asSl w225).bind fun l226 =>
 (σ220.ld (.n ((σ.next + 1) + 1)) 3).bind fun w227 =>
 (AV.asI .i64 w227).bind fun n228 =>
 (σ220.ld (.n ((σ.next + 1) + 1)) 4).bind fun w229 =>
 (AV.asSl w229).bind fun l230 =>
 some ((.tup [(.agg [(.i .i64 n222), (.sl l224.1 l224.2), (.sl l226.1 l226.2), (.i .i64 n228), (.sl l230.1 l230.2)]), (.i .u64 v196), (.b b219)]), σ220))))
 else none
noncomputable def law18_do {O : Type} : Sm O := law18_do_c handles_Handles__Drop haymowref18_Drop handles_Handles__Get haymowref18_At handles_Handles__Set haymowref18_Set law18_do_1 handles_Handles__Turn haymowref18_More haymowref18_Filled haymowref05_Same
theorem law18_do_ent : Entered Try.prog 15 := Try.call15
theorem law18_do_run {O : Type} (k55 k67 k21 k68 k69 k70 k72 k71 k73 k75 k74 : Sm O) : run (O := O) Try.prog [(55, k55), (67, k67), (21, k21), (68, k68), (69, k69), (70, k70), (72, k72), (71, k71), (73, k73), (75, k75), (74, k74)] Try.f15 (.n .z (.n .z (.n (.n .z (.n (.n .z (.n (.n .z (.n .z .z)) (.n .z (.n (.n .z (.n .z (.n (.n .z (.n (.n (.g [(3, 2, [(54, .one .b)])]) .z) .z)) (.n (.d [(9, 2, [(67, .one .b)])] [0, 1, 2, 3, 4, 5, 6, 7, 8, 9, 10, 11, 12, 13, 14, 15] [0, 0, 0, 4, 0, 28, 60, 124, 254, 510, 1022, 2046, 4094, 1023, 9215, 32767]) .z)))) (.n .z (.n (.n .z (.n .z .z)) .z)))))) .z)) (.n .z (.n .z (.n .z (.n (.d [] [0, 1, 2, 4, 5, 6, 7, 8, 9, 10, 3, 11, 12, 13, 14, 15] [0, 0, 2, 7, 0, 16, 48, 112, 240, 0, 0, 1039, 3599, 7695, 16383, 32767]) .z))))))) = law18_do_c k55 k67 k21 k68 k69 k70 k72 k71 k73 k75 k74 := by kernel_rfl
theorem law18_do_sound {O : Type} {RO : O → Loc → (Nat → Option Obj) → Prop} : FSound RO Try.prog 15 (law18_do) :=
   have h : FSound RO Try.prog 15 (law18_do_c handles_Handles__Drop haymowref18_Drop handles_Handles__Get haymowref18_At handles_Handles__Set haymowref18_Set law18_do_1 handles_Handles__Turn haymowref18_More haymowref18_Filled haymowref05_Same) := (law18_do_run handles_Handles__Drop haymowref18_Drop handles_Handles__Get haymowref18_At handles_Handles__Set haymowref18_Set law18_do_1 handles_Handles__Turn haymowref18_More haymowref18_Filled haymowref05_Same) ▸ run_sound (gcons handles_Handles__Drop_ent (handles_Handles__Drop_sound) <| gcons haymowref18_Drop_ent (haymowref18_Drop_sound) <| gcons handles_Handles__Get_ent (handles_Handles__Get_sound) <| gcons haymowref18_At_ent (haymowref18_At_sound) <| gcons handles_Handles__Set_ent (handles_Handles__Set_sound) <| gcons haymowref18_Set_ent (haymowref18_Set_sound) <| gcons law18_do_1_ent (law18_do_1_sound) <| gcons handles_Handles__Turn_ent (handles_Handles__Turn_sound) <| gcons haymowref18_More_ent (haymowref18_More_sound) <| gcons haymowref18_Filled_ent (haymowref18_Filled_sound) <| gcons haymowref05_Same_ent (haymowref05_Same_sound) <| gnil) mixed Try.func15 (by kernel_rfl) _
   h

/-- haymow/wide.Cmp -/
noncomputable def wide_Cmp_c {O : Type} : Sm O := fun xs σ =>
 bif Nat.beq xs.length 2 then
 (AV.asAgg 2 (xs.getD 0 .u)).bind fun c0 =>
 (AV.asI .u64 (c0.getD 0 .u)).bind fun n1 =>
 (AV.asI .u64 (c0.getD 1 .u)).bind fun n2 =>
 (AV.asAgg 2 (xs.getD 1 .u)).bind fun c3 =>
 (AV.asI .u64 (c3.getD 0 .u)).bind fun n4 =>
 (AV.asI .u64 (c3.getD 1 .u)).bind fun n5 =>
 let σ6 := σ.bump 2
 let σ7 := σ6.put σ.next (.cells true 38 [(.i .u64 n1), (.i .u64 n2)])
 let σ8 := σ7.put (σ.next + 1) (.cells true 38 [(.i .u64 n4), (.i .u64 n5)])
 (σ8.ld (.n σ.next) 0).bind fun w9 =>
 (AV.asI .u64 w9).bind fun n10 =>
 (σ8.ld (.n σ.next) 1).bind fun w11 =>
 (AV.asI .u64 w11).bind fun n12 =>
 (σ8.ld (.n (σ.next + 1)) 0).bind fun w13 =>
 (AV.asI .u64 w13).bind fun n14 =>
 (σ8.ld (.n (σ.next + 1)) 1).bind fun w15 =>
 (AV.asI .u64 w15).bind fun n16 =>
 (bif (((n10 : Int) == n14) && (((n12 : Int) == n16) && true)) then
 some ((.i .i64 0), σ8)
 else (σ8.ld (.n σ.next) 0).bind fun w17 =>
 (AV.asI .u64 w17).bind fun n18 =>
 (σ8.ld (.n (σ.next + 1)) 0).bind fun w19 =>
 (AV.asI .u64 w19).bind fun n20 =>
 ((bif ((decide (n18 < n20)) == false) then
 (σ8.ld (.n σ.next) 0).bind fun w21 =>
 (AV.asI .u64 w21).bind fun n22 =>
 (σ8.ld (.n (σ.next + 1)) 0).bind fun w23 =>
 (AV.asI .u64 w23).bind fun n24 =>
 ((bif (((n22 : Int) == n24) == true) then
 (σ8.ld (.n σ.next) 1).bind fun w25 =>
 (AV.asI .u64 w25).bind fun n26 =>
 (σ8.ld (.n (σ.next + 1)) 1).bind fun w27 =>
 (AV.asI .u64 w27).bind fun n28 =>
 some ([(.b (decide (n26 < n28)))], σ8)
 else some ([(.b false)], σ8)) : Option (List AV × AH O)).bind fun r29 =>
 (AV.asB (r29.1.getD 0 .u)).bind fun b30 =>
 some ([(.b b30)], r29.2)
 else some ([(.b true)], σ8)) : Option (List AV × AH O)).bind fun r31 =>
 (AV.asB (r31.1.getD 0 .u)).bind fun b32 =>
 (bif b32 then
 some ((.i .i64 (-1)), r31.2)
 else some ((.i .i64 1), r31.2)))
 else none
noncomputable def wide_Cmp {O : Type} : Sm O := wide_Cmp_c
theorem wide_Cmp_ent : Entered Try.prog 159 := Try.call159
theorem wide_Cmp_run {O : Type} : run (O := O) Try.prog [] Try.f159 (.n .z (.n (.n (.n .z (.n .z (.n (.g [(5, 12, [(28, .one .b)]), (11, 5, [(27, .one .b)])]) (.n .z .z)))) .z) .z)) = wide_Cmp_c  := by kernel_rfl
theorem wide_Cmp_sound {O : Type} {RO : O → Loc → (Nat → Option Obj) → Prop} : FSound RO Try.prog 159 (wide_Cmp) :=
   have h : FSound RO Try.prog 159 (wide_Cmp_c) := (wide_Cmp_run) ▸ run_sound (gnil) mixed Try.func159 (by kernel_rfl) _
   h

/-- haymow/wide.Less -/
noncomputable def wide_Less_c {O : Type} (k159 : Sm O) : Sm O := fun xs σ =>
 bif Nat.beq xs.length 2 then
 (AV.asAgg 2 (xs.getD 0 .u)).bind fun c0 =>
 (AV.asI .u64 (c0.getD 0 .u)).bind fun n1 =>
 (AV.asI .u64 (c0.getD 1 .u)).bind fun n2 =>
 (AV.asAgg 2 (xs.getD 1 .u)).bind fun c3 =>
 (AV.asI .u64 (c3.getD 0 .u)).bind fun n4 =>
 (AV.asI .u64 (c3.getD 1 .u)).bind fun n5 =>
 let σ6 := σ.bump 2
 let σ7 := σ6.put σ.next (.cells true 38 [(.i .u64 n1), (.i .u64 n2)])
 let σ8 := σ7.put (σ.next + 1) (.cells true 38 [(.i .u64 n4), (.i .u64 n5)])
 (σ8.ld (.n σ.next) 0).bind fun w9 =>
 (AV.asI .u64 w9).bind fun n10 =>
 (σ8.ld (.n σ.next) 1).bind fun w11 =>
 (AV.asI .u64 w11).bind fun n12 =>
 (σ8.ld (.n (σ.next + 1)) 0).bind fun w13 =>
 (AV.asI .u64 w13).bind fun n14 =>
 (σ8.ld (.n (σ.next + 1)) 1).bind fun w15 =>
 (AV.asI .u64 w15).bind fun n16 =>
 (k159 [(.agg [(.i .u64 n10), (.i .u64 n12)]), (.agg [(.i .u64 n14), (.i .u64 n16)])] σ8).bind fun r17 =>
 (AV.asI .i64 r17.1).bind fun n18 =>
 some ((.b (decide (n18 < 0))), r17.2)
 else none
noncomputable def wide_Less {O : Type} : Sm O := wide_Less_c wide_Cmp
theorem wide_Less_ent : Entered Try.prog 133 := Try.call133
theorem wide_Less_run {O : Type} (k159 : Sm O) : run (O := O) Try.prog [(159, k159)] Try.f133 (.n .z .z) = wide_Less_c k159 := by kernel_rfl
theorem wide_Less_sound {O : Type} {RO : O → Loc → (Nat → Option Obj) → Prop} : FSound RO Try.prog 133 (wide_Less) :=
   have h : FSound RO Try.prog 133 (wide_Less_c wide_Cmp) := (wide_Less_run wide_Cmp) ▸ run_sound (gcons wide_Cmp_ent (wide_Cmp_sound) <| gnil) mixed Try.func133 (by kernel_rfl) _
   h

/-- haymow/wide.Sub -/
noncomputable def wide_Sub_c {O : Type} (k133 k134 : Sm O) : Sm O := fun xs σ =>
 bif Nat.beq xs.length 2 then
 (AV.asAgg 2 (xs.getD 0 .u)).bind fun c0 =>
 (AV.asI .u64 (c0.getD 0 .u)).bind fun n1 =>
 (AV.asI .u64 (c0.getD 1 .u)).bind fun n2 =>
 (AV.asAgg 2 (xs.getD 1 .u)).bind fun c3 =>
 (AV.asI .u64 (c3.getD 0 .u)).bind fun n4 =>
 (AV.asI .u64 (c3.getD 1 .u)).bind fun n5 =>
 let σ6 := σ.bump 3
 let σ7 := σ6.put σ.next (.cells true 38 [(.i .u64 n1), (.i .u64 n2)])
 let σ8 := σ7.put (σ.next + 1) (.cells true 38 [(.i .u64 n4), (.i .u64 n5)])
 let σ9 := σ8.put ((σ.next + 1) + 1) (.cells true 38 [(.i .u64 0), (.i .u64 0)])
 (σ9.ld (.n σ.next) 0).bind fun w10 =>
 (AV.asI .u64 w10).bind fun n11 =>
 (σ9.ld (.n σ.next) 1).bind fun w12 =>
 (AV.asI .u64 w12).bind fun n13 =>
 (σ9.ld (.n (σ.next + 1)) 0).bind fun w14 =>
 (AV.asI .u64 w14).bind fun n15 =>
 (σ9.ld (.n (σ.next + 1)) 1).bind fun w16 =>
 (AV.asI .u64 w16).bind fun n17 =>
 (k133 [(.agg [(.i .u64 n11), (.i .u64 n13)]), (.agg [(.i .u64 n15), (.i .u64 n17)])] σ9).bind fun r18 =>
 (AV.asB r18.1).bind fun b19 =>
 (bif b19 then
 (r18.2.st (.n ((σ.next + 1) + 1)) 0 [(.i .u64 0), (.i .u64 0)]).bind fun σ20 =>
 (σ20.ld (.n ((σ.next + 1) + 1)) 0).bind fun w21 =>
 (AV.asI .u64 w21).bind fun n22 =>
 (σ20.ld (.n ((σ.next + 1) + 1)) 1).bind fun w23 =>
 (AV.asI .u64 w23).bind fun n24 =>
 some ((.tup [(.agg [(.i .u64 n22), (.i .u64 n24)]), (.b false)]), σ20)
 else (r18.2.ld (.n σ.next) 1).bind fun w25 =>
 (AV.asI .u64 w25).bind fun n26 =>
 (r18.2.ld (.n (σ.next + 1)) 1).bind fun w27 =>
 (AV.asI .u64 w27).bind fun n28 =>
 (k134 [(.i .u64 n26), (.i .u64 n28), (.i .u64 0)] r18.2).bind fun r29 =>
 (AV.asTup 2 r29.1).bind fun c30 =>
 (AV.asI .u64 (c30.getD 0 .u)).bind fun n31 =>
 (AV.asI .u64 (c30.getD 1 .u)).bind fun n32 =>
 (r29.2.ld (.n σ.next) 0).bind fun w33 =>
 (AV.asI .u64 w33).bind fun n34 =>
 (r29.2.ld (.n (σ.next + 1)) 0).bind fun w35 =>
 (AV.asI .u64 w35).bind fun n36 =>
 (k134 [(.i .u64 n34), (.i .u64 n36), (.i .u64 n32)] r29.2).bind fun r37 =>
 (AV.asTup 2 r37.1).bind fun c38 =>
 (AV.asI .u64 (c38.getD 0 .u)).bind fun n39 =>
 (AV.asI .u64 (c38.getD 1 .u)).bind fun n40 =>
 (r37.2.st (.n ((σ.next + 1) + 1)) 0 [(.i .u64 n39), (.i .u64 n31)]).bind fun σ41 =>
 (σ41.ld (.n ((σ.next + 1) + 1)) 0).bind fun w42 =>
 (AV.asI .u64 w42).bind fun n43 =>
 (σ41.ld (.n ((σ.next + 1) + 1)) 1).bind fun w44 =>
 (AV.asI .u64 w44).bind fun n45 =>
 some ((.tup [(.agg [(.i .u64 n43), (.i .u64 n45)]), (.b true)]), σ41))
 else none
noncomputable def wide_Sub {O : Type} : Sm O := wide_Sub_c wide_Less bits_Sub64
theorem wide_Sub_ent : Entered Try.prog 77 := Try.call77
theorem wide_Sub_run {O : Type} (k133 k134 : Sm O) : run (O := O) Try.prog [(133, k133), (134, k134)] Try.f77 (.n .z (.n (.n .z (.n .z .z)) (.n .z (.n .z .z)))) = wide_Sub_c k133 k134 := by kernel_rfl
theorem wide_Sub_sound {O : Type} {RO : O → Loc → (Nat → Option Obj) → Prop} : FSound RO Try.prog 77 (wide_Sub) :=
   have h : FSound RO Try.prog 77 (wide_Sub_c wide_Less bits_Sub64) := (wide_Sub_run wide_Less bits_Sub64) ▸ run_sound (gcons wide_Less_ent (wide_Less_sound) <| gext bits_Sub64_ext <| gnil) mixed Try.func77 (by kernel_rfl) _
   h

/-- (*haymow/meter.Meter).Since -/
noncomputable def meter_Meter__Since_c {O : Type} (k12 k77 : Sm O) : Sm O := fun xs σ =>
 bif Nat.beq xs.length 2 then
 (AV.asP (xs.getD 0 .u)).bind fun p0 =>
 (AV.asAgg 2 (xs.getD 1 .u)).bind fun c1 =>
 (AV.asI .u64 (c1.getD 0 .u)).bind fun n2 =>
 (AV.asI .u64 (c1.getD 1 .u)).bind fun n3 =>
 let σ4 := σ.bump 2
 let σ5 := σ4.put σ.next (.cells true 38 [(.i .u64 n2), (.i .u64 n3)])
 let σ6 := σ5.put (σ.next + 1) (.cells true 38 [(.i .u64 0), (.i .u64 0)])
 let σ7 := σ6.bump 1
 (σ7.ld (.n σ.next) 0).bind fun w8 =>
 (AV.asI .u64 w8).bind fun n9 =>
 (σ7.ld (.n σ.next) 1).bind fun w10 =>
 (AV.asI .u64 w10).bind fun n11 =>
 (k12 [(.p p0)] σ7).bind fun r12 =>
 (AV.asAgg 2 r12.1).bind fun c13 =>
 (AV.asI .u64 (c13.getD 0 .u)).bind fun n14 =>
 (AV.asI .u64 (c13.getD 1 .u)).bind fun n15 =>
 (chkE (r12.2.ld (.n σ.next) 0) (some (.i .u64 n9))).bind fun _ =>
 (chkE (r12.2.ld (.n σ.next) 1) (some (.i .u64 n11))).bind fun _ =>
 (k77 [(.agg [(.i .u64 n14), (.i .u64 n15)]), (.agg [(.i .u64 n9), (.i .u64 n11)])] r12.2).bind fun r16 =>
 (AV.asTup 2 r16.1).bind fun c17 =>
 (AV.asAgg 2 (c17.getD 0 .u)).bind fun c18 =>
 (AV.asI .u64 (c18.getD 0 .u)).bind fun n19 =>
 (AV.asI .u64 (c18.getD 1 .u)).bind fun n20 =>
 (AV.asB (c17.getD 1 .u)).bind fun b21 =>
 let σ22 := r16.2.put σ6.next (.cells true 38 [(.i .u64 0), (.i .u64 0)])
 (σ22.st (.n σ6.next) 0 [(.i .u64 n19), (.i .u64 n20)]).bind fun σ23 =>
 (σ23.ld (.n σ6.next) 0).bind fun w24 =>
 (AV.asI .u64 w24).bind fun n25 =>
 (σ23.ld (.n σ6.next) 1).bind fun w26 =>
 (AV.asI .u64 w26).bind fun n27 =>
 (σ23.st (.n (σ.next + 1)) 0 [(.i .u64 n25), (.i .u64 n27)]).bind fun σ28 =>
 (σ28.ld (.n (σ.next + 1)) 0).bind fun w29 =>
 (AV.asI .u64 w29).bind fun n30 =>
 (σ28.ld (.n (σ.next + 1)) 1).bind fun w31 =>
 (AV.asI .u64 w31).bind fun n32 =>
 some ((.agg [(.i .u64 n30), (.i .u64 n32)]), σ28)
 else none
noncomputable def meter_Meter__Since {O : Type} : Sm O := meter_Meter__Since_c meter_Meter__Steps wide_Sub
theorem meter_Meter__Since_ent : Entered Try.prog 18 := Try.call18
theorem meter_Meter__Since_run {O : Type} (k12 k77 : Sm O) : run (O := O) Try.prog [(12, k12), (77, k77)] Try.f18 (.n .z (.n (.d [] [0, 2, 1, 3, 4, 5, 6, 7, 8, 9] [0, 1, 0, 7, 15, 31, 31, 0, 191, 511]) .z)) = meter_Meter__Since_c k12 k77 := by kernel_rfl
theorem meter_Meter__Since_sound {O : Type} {RO : O → Loc → (Nat → Option Obj) → Prop} : FSound RO Try.prog 18 (meter_Meter__Since) :=
   have h : FSound RO Try.prog 18 (meter_Meter__Since_c meter_Meter__Steps wide_Sub) := (meter_Meter__Since_run meter_Meter__Steps wide_Sub) ▸ run_sound (gcons meter_Meter__Steps_ent (meter_Meter__Steps_sound) <| gcons wide_Sub_ent (wide_Sub_sound) <| gnil) mixed Try.func18 (by kernel_rfl) _
   h

/-- haymow/haymowref01.Parts -/
noncomputable def haymowref01_Parts_c {O : Type} : Sm O := fun xs σ =>
 bif Nat.beq xs.length 1 then
 (AV.asAgg 2 (xs.getD 0 .u)).bind fun c0 =>
 (AV.asI .u64 (c0.getD 0 .u)).bind fun n1 =>
 (AV.asI .u64 (c0.getD 1 .u)).bind fun n2 =>
 let σ3 := σ.bump 2
 let σ4 := σ3.put σ.next (.cells true 38 [(.i .u64 n1), (.i .u64 n2)])
 let σ5 := σ4.put (σ.next + 1) (.cells true 155 [(.i .u64 0), (.i .u64 0), (.i .u64 0), (.i .u64 0), (.i .u64 0), (.i .u64 0)])
 (σ5.ld (.n σ.next) 1).bind fun w6 =>
 (AV.asI .u64 w6).bind fun n7 =>
 (σ5.ld (.n σ.next) 1).bind fun w8 =>
 (AV.asI .u64 w8).bind fun n9 =>
 (σ5.ld (.n σ.next) 0).bind fun w10 =>
 (AV.asI .u64 w10).bind fun n11 =>
 (σ5.ld (.n σ.next) 0).bind fun w12 =>
 (AV.asI .u64 w12).bind fun n13 =>
 (σ5.st (.n (σ.next + 1)) 0 [(.i .u64 (Int.tmod n7 4294967296)), (.i .u64 (IntKind.u64.wrap (Int.tdiv n9 4294967296))), (.i .u64 (Int.tmod n11 4294967296)), (.i .u64 (IntKind.u64.wrap (Int.tdiv n13 4294967296))), (.i .u64 0), (.i .u64 0)]).bind fun σ14 =>
 (σ14.ld (.n (σ.next + 1)) 0).bind fun w15 =>
 (AV.asI .u64 w15).bind fun n16 =>
 (σ14.ld (.n (σ.next + 1)) 1).bind fun w17 =>
 (AV.asI .u64 w17).bind fun n18 =>
 (σ14.ld (.n (σ.next + 1)) 2).bind fun w19 =>
 (AV.asI .u64 w19).bind fun n20 =>
 (σ14.ld (.n (σ.next + 1)) 3).bind fun w21 =>
 (AV.asI .u64 w21).bind fun n22 =>
 (σ14.ld (.n (σ.next + 1)) 4).bind fun w23 =>
 (AV.asI .u64 w23).bind fun n24 =>
 (σ14.ld (.n (σ.next + 1)) 5).bind fun w25 =>
 (AV.asI .u64 w25).bind fun n26 =>
 some ((.agg [(.i .u64 n16), (.i .u64 n18), (.i .u64 n20), (.i .u64 n22), (.i .u64 n24), (.i .u64 n26)]), σ14)
 else none
noncomputable def haymowref01_Parts {O : Type} : Sm O := haymowref01_Parts_c
theorem haymowref01_Parts_ent : Entered Try.prog 76 := Try.call76
theorem haymowref01_Parts_run {O : Type} : run (O := O) Try.prog [] Try.f76 (.n .z .z) = haymowref01_Parts_c  := by kernel_rfl
theorem haymowref01_Parts_sound {O : Type} {RO : O → Loc → (Nat → Option Obj) → Prop} : FSound RO Try.prog 76 (haymowref01_Parts) :=
   have h : FSound RO Try.prog 76 (haymowref01_Parts_c) := (haymowref01_Parts_run) ▸ run_sound (gnil) mixed Try.func76 (by kernel_rfl) _
   h

/-- haymow/haymowref01.Cmp -/
noncomputable def haymowref01_Cmp_L1 {O : Type} (σ8 : AH O) : List AV × AH O → Option ((List AV × AH O) ⊕ ((List AV × AH O) ⊕ (AV × AH O))) := (fun r38 =>
 (AV.asI .i64 (r38.1.getD 0 .u)).bind fun n39 =>
 (bif (decide (n39 ≥ 0)) then
 (bif ((decide ((0 : Int) ≤ n39)) && (decide (n39 < 6))) then
 (r38.2.ld (.n σ8.next) (0 + (n39.toNat * 1))).bind fun w40 =>
 (AV.asI .u64 w40).bind fun n41 =>
 (bif ((decide ((0 : Int) ≤ n39)) && (decide (n39 < 6))) then
 (r38.2.ld (.n (σ8.next + 1)) (0 + (n39.toNat * 1))).bind fun w42 =>
 (AV.asI .u64 w42).bind fun n43 =>
 (bif (decide (n41 < n43)) then
 ((some ((.i .i64 (-1)), r38.2) : Option (AV × AH O)).map fun r => Sum.inr (Sum.inr r))
 else (bif ((decide ((0 : Int) ≤ n39)) && (decide (n39 < 6))) then
 (r38.2.ld (.n σ8.next) (0 + (n39.toNat * 1))).bind fun w44 =>
 (AV.asI .u64 w44).bind fun n45 =>
 (bif ((decide ((0 : Int) ≤ n39)) && (decide (n39 < 6))) then
 (r38.2.ld (.n (σ8.next + 1)) (0 + (n39.toNat * 1))).bind fun w46 =>
 (AV.asI .u64 w46).bind fun n47 =>
 (bif (decide (n45 > n47)) then
 ((some ((.i .i64 1), r38.2) : Option (AV × AH O)).map fun r => Sum.inr (Sum.inr r))
 else some (Sum.inl ([(.i .i64 (IntKind.i64.wrap (n39 - 1)))], r38.2)))
 else none)
 else none))
 else none)
 else none)
 else some (Sum.inr (Sum.inl ([], r38.2)))))
noncomputable def haymowref01_Cmp_c {O : Type} (k76 : Sm O) : Sm O := fun xs σ =>
 bif Nat.beq xs.length 2 then
 (AV.asAgg 2 (xs.getD 0 .u)).bind fun c0 =>
 (AV.asI .u64 (c0.getD 0 .u)).bind fun n1 =>
 (AV.asI .u64 (c0.getD 1 .u)).bind fun n2 =>
 (AV.asAgg 2 (xs.getD 1 .u)).bind fun c3 =>
 (AV.asI .u64 (c3.getD 0 .u)).bind fun n4 =>
 (AV.asI .u64 (c3.getD 1 .u)).bind fun n5 =>
 let σ6 := σ.bump 2
 let σ7 := σ6.put σ.next (.cells true 38 [(.i .u64 n1), (.i .u64 n2)])
 let σ8 := σ7.put (σ.next + 1) (.cells true 38 [(.i .u64 n4), (.i .u64 n5)])
 let σ9 := σ8.bump 2
 (σ9.ld (.n σ.next) 0).bind fun w10 =>
 (AV.asI .u64 w10).bind fun n11 =>
 (σ9.ld (.n σ.next) 1).bind fun w12 =>
 (AV.asI .u64 w12).bind fun n13 =>
 (σ9.ld (.n (σ.next + 1)) 0).bind fun w14 =>
 (AV.asI .u64 w14).bind fun n15 =>
 (σ9.ld (.n (σ.next + 1)) 1).bind fun w16 =>
 (AV.asI .u64 w16).bind fun n17 =>
 (k76 [(.agg [(.i .u64 n11), (.i .u64 n13)])] σ9).bind fun r18 =>
 (AV.asAgg 6 r18.1).bind fun c19 =>
 (AV.asI .u64 (c19.getD 0 .u)).bind fun n20 =>
 (AV.asI .u64 (c19.getD 1 .u)).bind fun n21 =>
 (AV.asI .u64 (c19.getD 2 .u)).bind fun n22 =>
 (AV.asI .u64 (c19.getD 3 .u)).bind fun n23 =>
 (AV.asI .u64 (c19.getD 4 .u)).bind fun n24 =>
 (AV.asI .u64 (c19.getD 5 .u)).bind fun n25 =>
 (chkE (r18.2.ld (.n (σ.next + 1)) 0) (some (.i .u64 n15))).bind fun _ =>
 (chkE (r18.2.ld (.n (σ.next + 1)) 1) (some (.i .u64 n17))).bind fun _ =>
 (k76 [(.agg [(.i .u64 n15), (.i .u64 n17)])] r18.2).bind fun r26 =>
 (AV.asAgg 6 r26.1).bind fun c27 =>
 (AV.asI .u64 (c27.getD 0 .u)).bind fun n28 =>
 (AV.asI .u64 (c27.getD 1 .u)).bind fun n29 =>
 (AV.asI .u64 (c27.getD 2 .u)).bind fun n30 =>
 (AV.asI .u64 (c27.getD 3 .u)).bind fun n31 =>
 (AV.asI .u64 (c27.getD 4 .u)).bind fun n32 =>
 (AV.asI .u64 (c27.getD 5 .u)).bind fun n33 =>
 let σ34 := r26.2.put σ8.next (.cells true 155 [(.i .u64 0), (.i .u64 0), (.i .u64 0), (.i .u64 0), (.i .u64 0), (.i .u64 0)])
 let σ35 := σ34.put (σ8.next + 1) (.cells true 155 [(.i .u64 0), (.i .u64 0), (.i .u64 0), (.i .u64 0), (.i .u64 0), (.i .u64 0)])
 (σ35.st (.n σ8.next) 0 [(.i .u64 n20), (.i .u64 n21), (.i .u64 n22), (.i .u64 n23), (.i .u64 n24), (.i .u64 n25)]).bind fun σ36 =>
 (σ36.st (.n (σ8.next + 1)) 0 [(.i .u64 n28), (.i .u64 n29), (.i .u64 n30), (.i .u64 n31), (.i .u64 n32), (.i .u64 n33)]).bind fun σ37 =>
 bindS (S := List AV × AH O) (R := (AV × AH O)) (loopF (S := List AV × AH O) (T := (List AV × AH O) ⊕ (AV × AH O)) (haymowref01_Cmp_L1 σ8) ([(.i .i64 3)], σ37)) fun r48 =>
 some ((.i .i64 0), r48.2)
 else none
noncomputable def haymowref01_Cmp {O : Type} : Sm O := haymowref01_Cmp_c haymowref01_Parts
theorem haymowref01_Cmp_ent : Entered Try.prog 17 := Try.call17
theorem haymowref01_Cmp_run {O : Type} (k76 : Sm O) : run (O := O) Try.prog [(76, k76)] Try.f17 (.n .z (.n (.d [] [0, 2, 1, 3, 4, 5, 6, 7] [0, 1, 0, 7, 0, 0, 63, 127]) (.n (.n .z (.n (.lp true 0 [(7, .one (.i .i64))] [] (.n (.n .z .z) (.n (.n (.n (.n (.d [] [0, 1, 2, 3, 4, 5, 6] [0, 1, 3, 0, 8, 24, 63]) (.n .z .z)) (.n (.d [] [0, 1, 2, 3, 4, 5, 6] [0, 1, 3, 0, 8, 24, 63]) (.n .z .z))) .z) .z))) .z)) .z))) = haymowref01_Cmp_c k76 := by kernel_rfl
theorem haymowref01_Cmp_sound {O : Type} {RO : O → Loc → (Nat → Option Obj) → Prop} : FSound RO Try.prog 17 (haymowref01_Cmp) :=
   have h : FSound RO Try.prog 17 (haymowref01_Cmp_c haymowref01_Parts) := (haymowref01_Cmp_run haymowref01_Parts) ▸ run_sound (gcons haymowref01_Parts_ent (haymowref01_Parts_sound) <| gnil) mixed Try.func17 (by kernel_rfl) _
   h

/-- (*haymow/meter.Meter).Held -/
noncomputable def meter_Meter__Held_c {O : Type} : Sm O := fun xs σ =>
 bif Nat.beq xs.length 1 then
 (AV.asP (xs.getD 0 .u)).bind fun p0 =>
 (bif (Option.isNone p0) then
 some ((.i .i64 0), σ)
 else Option.bind p0 fun q1 =>
 (σ.ld q1.1 (q1.2 + 4)).bind fun w2 =>
 (AV.asI .i64 w2).bind fun n3 =>
 some ((.i .i64 n3), σ))
 else none
noncomputable def meter_Meter__Held {O : Type} : Sm O := meter_Meter__Held_c
theorem meter_Meter__Held_ent : Entered Try.prog 19 := Try.call19
theorem meter_Meter__Held_run {O : Type} : run (O := O) Try.prog [] Try.f19 (.n .z (.n (.n .z (.n .z .z)) .z)) = meter_Meter__Held_c  := by kernel_rfl
theorem meter_Meter__Held_sound {O : Type} {RO : O → Loc → (Nat → Option Obj) → Prop} : FSound RO Try.prog 19 (meter_Meter__Held) :=
   have h : FSound RO Try.prog 19 (meter_Meter__Held_c) := (meter_Meter__Held_run) ▸ run_sound (gnil) mixed Try.func19 (by kernel_rfl) _
   h

/-- (*haymow/handles.Handles).Count -/
noncomputable def handles_Handles__Count_c {O : Type} : Sm O := fun xs σ =>
 bif Nat.beq xs.length 1 then
 (AV.asP (xs.getD 0 .u)).bind fun p0 =>
 Option.bind p0 fun q1 =>
 (σ.ld q1.1 ((q1.2 + 1) + 2)).bind fun w2 =>
 (AV.asI .i64 w2).bind fun n3 =>
 some ((.i .i64 n3), σ)
 else none
noncomputable def handles_Handles__Count {O : Type} : Sm O := handles_Handles__Count_c
theorem handles_Handles__Count_ent : Entered Try.prog 20 := Try.call20
theorem handles_Handles__Count_run {O : Type} : run (O := O) Try.prog [] Try.f20 (.n .z .z) = handles_Handles__Count_c  := by kernel_rfl
theorem handles_Handles__Count_sound {O : Type} {RO : O → Loc → (Nat → Option Obj) → Prop} : FSound RO Try.prog 20 (handles_Handles__Count) :=
   have h : FSound RO Try.prog 20 (handles_Handles__Count_c) := (handles_Handles__Count_run) ▸ run_sound (gnil) mixed Try.func20 (by kernel_rfl) _
   h

/-- a round of a loop in (*haymow/handles.Handles).Tokens$1 -/
noncomputable def handles_Handles__Tokens_1_R0_c {O : Type} (k65 k64 ky0 : Sm O) : Sm O := roundW 136000 1 fun env0 ys0 blk0 σ =>
 (AV.asP (env0 2)).bind fun p0 =>
 (AV.asI .i64 (ys0.getD 0 .u)).bind fun n1 =>
 (busyL σ blk0).bind fun σ2 =>
 Option.bind p0 fun q3 =>
 (σ2.ld q3.1 q3.2).bind fun w4 =>
 (AV.asF w4).bind fun f5 =>
 Option.bind p0 fun q6 =>
 (AV.asPS (env0 1)).bind fun q7 =>
 (σ2.ld q7.1 q7.2).bind fun w8 =>
 (AV.asP w8).bind fun p9 =>
 (AV.asPS (env0 1)).bind fun q10 =>
 Option.bind p9 fun q11 =>
 (σ2.ld q11.1 q11.2).bind fun w12 =>
 (AV.asP w12).bind fun p13 =>
 (k65 [(.p p13), (.i .i64 n1)] σ2).bind fun r14 =>
 (AV.asI .i64 r14.1).bind fun n15 =>
 (chkE (r14.2.ld q6.1 q6.2) (some (.fn f5))).bind fun _ =>
 (k64 [(.i .i64 n1), (.i .i64 n15)] r14.2).bind fun r16 =>
 (AV.asI .i64 r16.1).bind fun n17 =>
 (chkE (r16.2.ld q6.1 q6.2) (some (.fn f5))).bind fun _ =>
 (callV [(65, k65), (64, k64), (1000000, ky0)] f5 [(.i .i64 n17)] r16.2).bind fun r18 =>
 (AV.asB r18.1).bind fun b19 =>
 (bif (!b19) then
 (markL r18.2 blk0 (.done none)).bind fun σ => some (.b false, σ)
 else (markL r18.2 blk0 .ready).bind fun σ => some (.b true, σ))
noncomputable def handles_Handles__Tokens_1_R0 {O : Type} (ky0 : Sm O) : Sm O := handles_Handles__Tokens_1_R0_c pool_Pool__Gen handles_token ky0
theorem handles_Handles__Tokens_1_R0_run {O : Type} (k65 k64 ky0 : Sm O) : roundAt (O := O) Try.prog [(65, k65), (64, k64), (1000000, ky0)] 136 Try.f136 0 [(1, .one .any), (2, .one .p)] [(11, .one (.i .i64))] (.n .z (.n (.n (.d [] [0, 1, 2, 3, 4, 5, 6, 7, 8, 9, 10] [0, 0, 0, 4, 12, 28, 0, 124, 254, 511, 1023]) .z) .z)) = handles_Handles__Tokens_1_R0_c k65 k64 ky0 := by kernel_rfl
theorem handles_Handles__Tokens_1_R0_sound {O : Type} {RO : O → Loc → (Nat → Option Obj) → Prop} {ky0 : Sm O} (hy : YSound RO Try.prog ky0) : YSound RO Try.prog (handles_Handles__Tokens_1_R0 ky0) :=
   have h : YSound RO Try.prog (handles_Handles__Tokens_1_R0_c pool_Pool__Gen handles_token ky0) := (handles_Handles__Tokens_1_R0_run pool_Pool__Gen handles_token ky0) ▸ roundAt_sound (gcons pool_Pool__Gen_ent (pool_Pool__Gen_sound) <| gcons handles_token_ent (handles_token_sound) <| gyld hy <| gnil) mixed Try.func136 _ _ _ _
   h
/-- (*haymow/handles.Handles).Tokens$1 -/
noncomputable def handles_Handles__Tokens_1_c {O : Type} (k62 k132 k65 k64 kr158 ky0 : Sm O) : Sm O := fun xs σ =>
 bif Nat.beq xs.length 2 then
 (AV.asF (xs.getD 0 .u)).bind fun f0 =>
 let σ1 := σ.bump 1
 let σ2 := σ1.put σ.next (.cells true 217 [(.fn f0)])
 (AV.asPS (xs.getD 1 .u)).bind fun q3 =>
 (σ2.ld q3.1 q3.2).bind fun w4 =>
 (AV.asP w4).bind fun p5 =>
 (AV.asPS (xs.getD 1 .u)).bind fun q6 =>
 (AV.asPS (xs.getD 1 .u)).bind fun q7 =>
 (σ2.ld q7.1 q7.2).bind fun w8 =>
 (AV.asP w8).bind fun p9 =>
 (AV.asPS (xs.getD 1 .u)).bind fun q10 =>
 Option.bind p9 fun q11 =>
 (σ2.ld q11.1 (q11.2 + 1)).bind fun w12 =>
 (AV.asI .i64 w12).bind fun n13 =>
 (σ2.ld q11.1 ((q11.2 + 1) + 1)).bind fun w14 =>
 (AV.asI .i64 w14).bind fun n15 =>
 (σ2.ld q11.1 (((q11.2 + 1) + 1) + 1)).bind fun w16 =>
 (AV.asI .i64 w16).bind fun n17 =>
 (k62 [(.p p5)] σ2).bind fun r18 =>
 (AV.asAgg 5 r18.1).bind fun c19 =>
 (AV.asP (c19.getD 0 .u)).bind fun p20 =>
 (AV.asI .i64 (c19.getD 1 .u)).bind fun n21 =>
 (AV.asI .i64 (c19.getD 2 .u)).bind fun n22 =>
 (AV.asI .i64 (c19.getD 3 .u)).bind fun n23 =>
 (AV.asI .i64 (c19.getD 4 .u)).bind fun n24 =>
 (chkE (r18.2.ld q10.1 q10.2) (some (.p p9))).bind fun _ =>
 (chkE (r18.2.ld q11.1 (q11.2 + 1)) (some (.i .i64 n13))).bind fun _ =>
 (chkE (r18.2.ld q11.1 ((q11.2 + 1) + 1)) (some (.i .i64 n15))).bind fun _ =>
 (chkE (r18.2.ld q11.1 (((q11.2 + 1) + 1) + 1)) (some (.i .i64 n17))).bind fun _ =>
 (k132 [(.agg [(.p p20), (.i .i64 n21), (.i .i64 n22), (.i .i64 n23), (.i .i64 n24)]), (.agg [(.i .i64 n13), (.i .i64 n15), (.i .i64 n17)])] r18.2).bind fun r25 =>
 (AV.asF r25.1).bind fun f26 =>
 (rangeV [(62, k62), (132, k132), (65, k65), (64, k64), (2000158, kr158), (1000000, ky0)] f26 136000 [(1, (xs.getD 1 .u)), (2, (.p (some ((.n σ.next), 0))))] r25.2).bind fun r27 =>
 (lstN r27.2 r25.2.next).bind fun st28 =>
 let σ29 := r27.2.kill r25.2.next
 (bif Nat.beq st28 0 then
 some ((.tup []), σ29)
 else (bif Nat.beq st28 3 then
 some ((.tup []), σ29)
 else none))
 else none
noncomputable def handles_Handles__Tokens_1 {O : Type} (ky0 : Sm O) : Sm O := handles_Handles__Tokens_1_c handles_Handles__table chain_Table__All pool_Pool__Gen handles_token (chain_Table__All_1 (handles_Handles__Tokens_1_R0 ky0)) ky0
theorem handles_Handles__Tokens_1_ent : Entered Try.prog 136 := Try.call136
theorem handles_Handles__Tokens_1_run {O : Type} (k62 k132 k65 k64 kr158 ky0 : Sm O) : run (O := O) Try.prog [(62, k62), (132, k132), (65, k65), (64, k64), (2000158, kr158), (1000000, ky0)] Try.f136 (.n .z (.n (.d [] [0, 2, 3, 4, 5, 1, 6] [0, 1, 0, 4, 12, 28, 63]) (.n (.rf 136000 [1, 2] [3]) .z))) = handles_Handles__Tokens_1_c k62 k132 k65 k64 kr158 ky0 := by kernel_rfl
theorem handles_Handles__Tokens_1_sound {O : Type} {RO : O → Loc → (Nat → Option Obj) → Prop} {ky0 : Sm O} (hy : YSound RO Try.prog ky0) : FSound RO Try.prog 136 (handles_Handles__Tokens_1 ky0) :=
   have h : FSound RO Try.prog 136 (handles_Handles__Tokens_1_c handles_Handles__table chain_Table__All pool_Pool__Gen handles_token (chain_Table__All_1 (handles_Handles__Tokens_1_R0 ky0)) ky0) := (handles_Handles__Tokens_1_run handles_Handles__table chain_Table__All pool_Pool__Gen handles_token (chain_Table__All_1 (handles_Handles__Tokens_1_R0 ky0)) ky0) ▸ run_soundR (gcons handles_Handles__table_ent (handles_Handles__table_sound) <| gcons chain_Table__All_ent (chain_Table__All_sound) <| gcons pool_Pool__Gen_ent (pool_Pool__Gen_sound) <| gcons handles_token_ent (handles_token_sound) <| grf (c := 158) chain_Table__All_1_ent (chain_Table__All_1_sound (handles_Handles__Tokens_1_R0_sound hy)) <| gyld hy <| gnil) mixed Try.func136 (by kernel_rfl) _ (by kernel_rfl)
   h

/-- (*haymow/handles.Handles).Tokens -/
noncomputable def handles_Handles__Tokens_c {O : Type} : Sm O := fun xs σ =>
 bif Nat.beq xs.length 1 then
 (AV.asP (xs.getD 0 .u)).bind fun p0 =>
 let σ1 := σ.bump 1
 let σ2 := σ1.put σ.next (.cells true 25 [(.p p0)])
 some ((.fn (some (.func 136, [], [(.p (some ((.n σ.next), 0)))]))), σ2)
 else none
noncomputable def handles_Handles__Tokens {O : Type} : Sm O := handles_Handles__Tokens_c
theorem handles_Handles__Tokens_ent : Entered Try.prog 80 := Try.call80
theorem handles_Handles__Tokens_run {O : Type} : run (O := O) Try.prog [] Try.f80 (.n .z .z) = handles_Handles__Tokens_c  := by kernel_rfl
theorem handles_Handles__Tokens_sound {O : Type} {RO : O → Loc → (Nat → Option Obj) → Prop} : FSound RO Try.prog 80 (handles_Handles__Tokens) :=
   have h : FSound RO Try.prog 80 (handles_Handles__Tokens_c) := (handles_Handles__Tokens_run) ▸ run_sound (gnil) mixed Try.func80 (by kernel_rfl) _
   h

/-- a round of a loop in haymow/haymowlaw18.told -/
noncomputable def law18_told_R0_c {O : Type} : Sm O := roundW 22000 1 fun env0 ys0 blk0 σ =>
 (AV.asP (env0 2)).bind fun p0 =>
 (AV.asP (env0 3)).bind fun p1 =>
 (AV.asP (env0 5)).bind fun p2 =>
 (AV.asI .i64 (ys0.getD 0 .u)).bind fun n3 =>
 (busyL σ blk0).bind fun σ4 =>
 Option.bind p2 fun q5 =>
 (σ4.ld q5.1 q5.2).bind fun w6 =>
 (AV.asSl w6).bind fun l7 =>
 (bif (decide ((l7.2 : Int) > 100)) then
 Option.bind p2 fun q8 =>
 (σ4.ld q8.1 q8.2).bind fun w9 =>
 (AV.asSl w9).bind fun l10 =>
 Option.bind p0 fun q11 =>
 (σ4.st q11.1 q11.2 [(.sl l10.1 l10.2)]).bind fun σ12 =>
 Option.bind p1 fun q13 =>
 (σ12.st q13.1 q13.2 [(.b false)]).bind fun σ14 =>
 (markL σ14 blk0 (.done none)).bind fun σ => some (.b false, σ)
 else let σ15 := σ4.bump 2
 Option.bind p2 fun q16 =>
 (σ15.ld q16.1 q16.2).bind fun w17 =>
 (AV.asSl w17).bind fun l18 =>
 let σ19 := σ15.put σ4.next (.cells true 3 [(.i .i64 n3)])
 (σ19.rdSl (.loc (.n σ4.next) 0 1) 1 1).bind fun new20 =>
 (bif (Nat.ble ((l18.2 + 1) * 9) 35184372088832) then
 (σ19.appSl (σ4.next + 1) 3 1 l18.1 l18.2 1 new20).bind fun r21 =>
 (AV.asSl r21.1).bind fun l22 =>
 Option.bind p2 fun q23 =>
 (r21.2.st q23.1 q23.2 [(.sl l22.1 l22.2)]).bind fun σ24 =>
 (markL σ24 blk0 .ready).bind fun σ => some (.b true, σ)
 else none))
noncomputable def law18_told_R0 {O : Type} : Sm O := law18_told_R0_c
theorem law18_told_R0_run {O : Type} : roundAt (O := O) Try.prog [] 22 Try.f22 0 [(2, .one .p), (3, .one .p), (5, .one .p)] [(12, .one (.i .i64))] (.n .z (.n (.n (.n .z (.n .z .z)) .z) .z)) = law18_told_R0_c  := by kernel_rfl
theorem law18_told_R0_sound {O : Type} {RO : O → Loc → (Nat → Option Obj) → Prop} : YSound RO Try.prog (law18_told_R0) :=
   have h : YSound RO Try.prog (law18_told_R0_c) := (law18_told_R0_run) ▸ roundAt_sound (gnil) mixed Try.func22 _ _ _ _
   h
/-- haymow/haymowlaw18.told -/
noncomputable def law18_told_c {O : Type} (k80 kr136 : Sm O) : Sm O := fun xs σ =>
 bif Nat.beq xs.length 1 then
 (AV.asP (xs.getD 0 .u)).bind fun p0 =>
 let σ1 := σ.bump 2
 let σ2 := σ1.put σ.next (.cells true 29 [(.sl .nil 0)])
 let σ3 := σ2.put (σ.next + 1) (.cells true 4 [(.b false)])
 (k80 [(.p p0)] σ3).bind fun r4 =>
 (AV.asF r4.1).bind fun f5 =>
 (bif (Option.isNone f5) then
 (r4.2.st (.n σ.next) 0 [(.sl .nil 0)]).bind fun σ6 =>
 (σ6.st (.n (σ.next + 1)) 0 [(.b false)]).bind fun σ7 =>
 (σ7.ld (.n σ.next) 0).bind fun w8 =>
 (AV.asSl w8).bind fun l9 =>
 (σ7.ld (.n (σ.next + 1)) 0).bind fun w10 =>
 (AV.asB w10).bind fun b11 =>
 some ((.tup [(.sl l9.1 l9.2), (.b b11)]), σ7)
 else let σ12 := r4.2.bump 1
 let σ13 := σ12.put r4.2.next (.cells true 29 [(.sl .nil 0)])
 (rangeV [(80, k80), (2000136, kr136)] f5 22000 [(2, (.p (some ((.n σ.next), 0)))), (3, (.p (some ((.n (σ.next + 1)), 0)))), (5, (.p (some ((.n r4.2.next), 0))))] σ13).bind fun r14 =>
 (lstN r14.2 σ13.next).bind fun st15 =>
 let σ16 := r14.2.kill σ13.next
 (bif Nat.beq st15 0 then
 (σ16.ld (.n r4.2.next) 0).bind fun w17 =>
 (AV.asSl w17).bind fun l18 =>
 (σ16.st (.n σ.next) 0 [(.sl l18.1 l18.2)]).bind fun σ19 =>
 (σ19.st (.n (σ.next + 1)) 0 [(.b true)]).bind fun σ20 =>
 (σ20.ld (.n σ.next) 0).bind fun w21 =>
 (AV.asSl w21).bind fun l22 =>
 (σ20.ld (.n (σ.next + 1)) 0).bind fun w23 =>
 (AV.asB w23).bind fun b24 =>
 some ((.tup [(.sl l22.1 l22.2), (.b b24)]), σ20)
 else (bif Nat.beq st15 3 then
 (σ16.ld (.n σ.next) 0).bind fun w25 =>
 (AV.asSl w25).bind fun l26 =>
 (σ16.ld (.n (σ.next + 1)) 0).bind fun w27 =>
 (AV.asB w27).bind fun b28 =>
 some ((.tup [(.sl l26.1 l26.2), (.b b28)]), σ16)
 else none)))
 else none
noncomputable def law18_told {O : Type} : Sm O := law18_told_c handles_Handles__Tokens (handles_Handles__Tokens_1 (law18_told_R0))
theorem law18_told_ent : Entered Try.prog 22 := Try.call22
theorem law18_told_run {O : Type} (k80 kr136 : Sm O) : run (O := O) Try.prog [(80, k80), (2000136, kr136)] Try.f22 (.n .z (.n .z (.n (.n .z (.n .z .z)) (.n .z (.n (.n .z (.n (.rf 22000 [2, 3, 5] [3]) .z)) .z))))) = law18_told_c k80 kr136 := by kernel_rfl
theorem law18_told_sound {O : Type} {RO : O → Loc → (Nat → Option Obj) → Prop} : FSound RO Try.prog 22 (law18_told) :=
   have h : FSound RO Try.prog 22 (law18_told_c handles_Handles__Tokens (handles_Handles__Tokens_1 (law18_told_R0))) := (law18_told_run handles_Handles__Tokens (handles_Handles__Tokens_1 (law18_told_R0))) ▸ run_soundR (gcons handles_Handles__Tokens_ent (handles_Handles__Tokens_sound) <| grf (c := 136) handles_Handles__Tokens_1_ent (handles_Handles__Tokens_1_sound (law18_told_R0_sound)) <| gnil) mixed Try.func22 (by kernel_rfl) _ (by kernel_rfl)
   h

/-- haymow/haymowref02.Same -/
noncomputable def haymowref02_Same_L1 {O : Type} (l0 : SA × Nat) (l1 : SA × Nat) : List AV × AH O → Option ((List AV × AH O) ⊕ ((List AV × AH O) ⊕ (AV × AH O))) := (fun r2 =>
 (AV.asI .i64 (r2.1.getD 0 .u)).bind fun n3 =>
 (bif (decide (n3 < (l0.2 : Int))) then
 (bif ((decide ((0 : Int) ≤ n3)) && (decide (n3 < (l0.2 : Int)))) then
 (SA.ref l0.1).bind fun q4 =>
 (r2.2.ld q4.1 (q4.2 + (n3.toNat * 1))).bind fun w5 =>
 (AV.asI .i64 w5).bind fun n6 =>
 (bif ((decide ((0 : Int) ≤ n3)) && (decide (n3 < (l1.2 : Int)))) then
 (SA.ref l1.1).bind fun q7 =>
 (r2.2.ld q7.1 (q7.2 + (n3.toNat * 1))).bind fun w8 =>
 (AV.asI .i64 w8).bind fun n9 =>
 (bif ((n6 : Int) != n9) then
 ((some ((.b false), r2.2) : Option (AV × AH O)).map fun r => Sum.inr (Sum.inr r))
 else some (Sum.inl ([(.i .i64 (IntKind.i64.wrap (n3 + 1)))], r2.2)))
 else none)
 else none)
 else some (Sum.inr (Sum.inl ([], r2.2)))))
noncomputable def haymowref02_Same_c {O : Type} : Sm O := fun xs σ =>
 bif Nat.beq xs.length 2 then
 (AV.asSl (xs.getD 0 .u)).bind fun l0 =>
 (AV.asSl (xs.getD 1 .u)).bind fun l1 =>
 (bif (((l0.2 : Int) : Int) != (l1.2 : Int)) then
 some ((.b false), σ)
 else bindS (S := List AV × AH O) (R := (AV × AH O)) (loopF (S := List AV × AH O) (T := (List AV × AH O) ⊕ (AV × AH O)) (haymowref02_Same_L1 l0 l1) ([(.i .i64 0)], σ)) fun r10 =>
 some ((.b true), r10.2))
 else none
noncomputable def haymowref02_Same {O : Type} : Sm O := haymowref02_Same_c
theorem haymowref02_Same_ent : Entered Try.prog 23 := Try.call23
theorem haymowref02_Same_run {O : Type} : run (O := O) Try.prog [] Try.f23 (.n .z (.n (.n .z (.n .z .z)) (.n (.n .z (.n (.lp true 0 [(5, .one (.i .i64))] [] (.n (.n .z .z) (.n (.n (.n (.d [] [0, 1, 2, 3, 4, 5, 6, 7, 8] [0, 0, 3, 7, 0, 0, 48, 112, 255]) (.n .z .z)) .z) .z))) .z)) .z))) = haymowref02_Same_c  := by kernel_rfl
theorem haymowref02_Same_sound {O : Type} {RO : O → Loc → (Nat → Option Obj) → Prop} : FSound RO Try.prog 23 (haymowref02_Same) :=
   have h : FSound RO Try.prog 23 (haymowref02_Same_c) := (haymowref02_Same_run) ▸ run_sound (gnil) mixed Try.func23 (by kernel_rfl) _
   h

/-- haymow/haymowlaw18.HandlesPlay -/
noncomputable def law18_HandlesPlay_L2 {O : Type} (r3 : AV × AH O) (k21 : Sm O) (p6 : Option (Bid × Nat)) : List AV × AH O → Option ((List AV × AH O) ⊕ ((List AV × AH O) ⊕ (AV × AH O))) := (fun r147 =>
 (AV.asSl (r147.1.getD 0 .u)).bind fun l148 =>
 (AV.asI .i64 (r147.1.getD 1 .u)).bind fun n149 =>
 (r147.2.ld (.n r3.2.next) 4).bind fun w150 =>
 (AV.asSl w150).bind fun l151 =>
 (bif (decide (n149 < (l151.2 : Int))) then
 (r147.2.ld (.n r3.2.next) 4).bind fun w152 =>
 (AV.asSl w152).bind fun l153 =>
 (bif ((decide ((0 : Int) ≤ n149)) && (decide (n149 < (l153.2 : Int)))) then
 (SA.ref l153.1).bind fun q154 =>
 (r147.2.ld q154.1 (q154.2 + (n149.toNat * 2))).bind fun w155 =>
 (AV.asI .i64 w155).bind fun n156 =>
 (k21 [(.p p6), (.i .i64 n156)] r147.2).bind fun r157 =>
 (AV.asTup 2 r157.1).bind fun c158 =>
 (AV.asI .u64 (c158.getD 0 .u)).bind fun n159 =>
 (AV.asI .i64 (c158.getD 1 .u)).bind fun n160 =>
 (r157.2.ld (.n r3.2.next) 4).bind fun w161 =>
 (AV.asSl w161).bind fun l162 =>
 (bif ((decide ((0 : Int) ≤ n149)) && (decide (n149 < (l162.2 : Int)))) then
 (SA.ref l162.1).bind fun q163 =>
 (r157.2.ld q163.1 ((q163.2 + (n149.toNat * 2)) + 1)).bind fun w164 =>
 (AV.asI .u64 w164).bind fun n165 =>
 ((bif (((n159 : Int) != n165) == false) then
 some ([(.b ((n160 : Int) != 0))], r157.2)
 else some ([(.b true)], r157.2)) : Option (List AV × AH O)).bind fun r166 =>
 (AV.asB (r166.1.getD 0 .u)).bind fun b167 =>
 (bif b167 then
 ((some ((.b false), r166.2) : Option (AV × AH O)).map fun r => Sum.inr (Sum.inr r))
 else let σ168 := r166.2.bump 2
 (σ168.ld (.n r3.2.next) 4).bind fun w169 =>
 (AV.asSl w169).bind fun l170 =>
 (bif ((decide ((0 : Int) ≤ n149)) && (decide (n149 < (l170.2 : Int)))) then
 (SA.ref l170.1).bind fun q171 =>
 (σ168.ld q171.1 (q171.2 + (n149.toNat * 2))).bind fun w172 =>
 (AV.asI .i64 w172).bind fun n173 =>
 let σ174 := σ168.put r166.2.next (.cells true 3 [(.i .i64 n173)])
 (σ174.rdSl (.loc (.n r166.2.next) 0 1) 1 1).bind fun new175 =>
 (bif (Nat.ble ((l148.2 + 1) * 9) 35184372088832) then
 (σ174.appSl (r166.2.next + 1) 3 1 l148.1 l148.2 1 new175).bind fun r176 =>
 (AV.asSl r176.1).bind fun l177 =>
 some (Sum.inl ([(.sl l177.1 l177.2), (.i .i64 (IntKind.i64.wrap (n149 + 1)))], r176.2))
 else none)
 else none))
 else none)
 else none)
 else some (Sum.inr (Sum.inl ([(.sl l148.1 l148.2)], r147.2)))))
noncomputable def law18_HandlesPlay_L1 {O : Type} (l0 : SA × Nat) (p5 : Option (Bid × Nat)) (k12 : Sm O) (k13 : Sm O) (p6 : Option (Bid × Nat)) (r3 : AV × AH O) (k14 : Sm O) (k16 : Sm O) (k15 : Sm O) (k18 : Sm O) (k17 : Sm O) (k19 : Sm O) (k20 : Sm O) : List AV × AH O → Option ((List AV × AH O) ⊕ ((List AV × AH O) ⊕ (AV × AH O))) := (fun r18 =>
 (AV.asSl (r18.1.getD 0 .u)).bind fun l19 =>
 (AV.asI .i64 (r18.1.getD 1 .u)).bind fun n20 =>
 (bif (decide (n20 < (l0.2 : Int))) then
 let σ21 := r18.2.bump 1
 Option.bind p5 fun q22 =>
 (σ21.ld q22.1 q22.2).bind fun w23 =>
 (AV.asP w23).bind fun p24 =>
 (k12 [(.p p24)] σ21).bind fun r25 =>
 (AV.asAgg 2 r25.1).bind fun c26 =>
 (AV.asI .u64 (c26.getD 0 .u)).bind fun n27 =>
 (AV.asI .u64 (c26.getD 1 .u)).bind fun n28 =>
 let σ29 := r25.2.put r18.2.next (.cells true 38 [(.i .u64 0), (.i .u64 0)])
 (σ29.st (.n r18.2.next) 0 [(.i .u64 n27), (.i .u64 n28)]).bind fun σ30 =>
 (bif ((decide ((0 : Int) ≤ n20)) && (decide (n20 < (l0.2 : Int)))) then
 (SA.ref l0.1).bind fun q31 =>
 (σ30.ld q31.1 (q31.2 + (n20.toNat * 4))).bind fun w32 =>
 (AV.asI .i64 w32).bind fun n33 =>
 ((bif ((n33 : Int) == 0) then
 (bif ((decide ((0 : Int) ≤ n20)) && (decide (n20 < (l0.2 : Int)))) then
 (SA.ref l0.1).bind fun q34 =>
 (σ30.ld q34.1 ((q34.2 + (n20.toNat * 4)) + 3)).bind fun w35 =>
 (AV.asI .u64 w35).bind fun n36 =>
 (k13 [(.p p6), (.i .u64 n36)] σ30).bind fun r37 =>
 (AV.asTup 2 r37.1).bind fun c38 =>
 (AV.asI .i64 (c38.getD 0 .u)).bind fun n39 =>
 (AV.asI .i64 (c38.getD 1 .u)).bind fun n40 =>
 (r37.2.ld (.n r3.2.next) 0).bind fun w41 =>
 (AV.asI .i64 w41).bind fun n42 =>
 (r37.2.ld (.n r3.2.next) 1).bind fun w43 =>
 (AV.asSl w43).bind fun l44 =>
 (r37.2.ld (.n r3.2.next) 2).bind fun w45 =>
 (AV.asSl w45).bind fun l46 =>
 (r37.2.ld (.n r3.2.next) 3).bind fun w47 =>
 (AV.asI .i64 w47).bind fun n48 =>
 (r37.2.ld (.n r3.2.next) 4).bind fun w49 =>
 (AV.asSl w49).bind fun l50 =>
 (bif ((decide ((0 : Int) ≤ n20)) && (decide (n20 < (l0.2 : Int)))) then
 (SA.ref l0.1).bind fun q51 =>
 (r37.2.ld q51.1 ((q51.2 + (n20.toNat * 4)) + 3)).bind fun w52 =>
 (AV.asI .u64 w52).bind fun n53 =>
 (k14 [(.agg [(.i .i64 n42), (.sl l44.1 l44.2), (.sl l46.1 l46.2), (.i .i64 n48), (.sl l50.1 l50.2)]), (.i .u64 n53)] r37.2).bind fun r54 =>
 (AV.asTup 2 r54.1).bind fun c55 =>
 (AV.asAgg 5 (c55.getD 0 .u)).bind fun c56 =>
 (AV.asI .i64 (c56.getD 0 .u)).bind fun n57 =>
 (AV.asSl (c56.getD 1 .u)).bind fun l58 =>
 (AV.asSl (c56.getD 2 .u)).bind fun l59 =>
 (AV.asI .i64 (c56.getD 3 .u)).bind fun n60 =>
 (AV.asSl (c56.getD 4 .u)).bind fun l61 =>
 (AV.asI .i64 (c55.getD 1 .u)).bind fun n62 =>
 (r54.2.st (.n r3.2.next) 0 [(.i .i64 n57), (.sl l58.1 l58.2), (.sl l59.1 l59.2), (.i .i64 n60), (.sl l61.1 l61.2)]).bind fun σ63 =>
 ((bif (((n39 : Int) == n62) == true) then
 some ([(.b ((n40 : Int) == 0))], σ63)
 else some ([(.b false)], σ63)) : Option (List AV × AH O)).bind fun r64 =>
 (AV.asB (r64.1.getD 0 .u)).bind fun b65 =>
 let σ66 := r64.2.bump 2
 let σ67 := σ66.put r64.2.next (.cells true 3 [(.i .i64 n62)])
 (σ67.rdSl (.loc (.n r64.2.next) 0 1) 1 1).bind fun new68 =>
 (bif (Nat.ble ((l19.2 + 1) * 9) 35184372088832) then
 (σ67.appSl (r64.2.next + 1) 3 1 l19.1 l19.2 1 new68).bind fun r69 =>
 (AV.asSl r69.1).bind fun l70 =>
 some ([(.b b65), (.sl l70.1 l70.2), (.i .u64 16)], r69.2)
 else none)
 else none)
 else none)
 else (σ30.ld (.n r3.2.next) 0).bind fun w71 =>
 (AV.asI .i64 w71).bind fun n72 =>
 (σ30.ld (.n r3.2.next) 1).bind fun w73 =>
 (AV.asSl w73).bind fun l74 =>
 (σ30.ld (.n r3.2.next) 2).bind fun w75 =>
 (AV.asSl w75).bind fun l76 =>
 (σ30.ld (.n r3.2.next) 3).bind fun w77 =>
 (AV.asI .i64 w77).bind fun n78 =>
 (σ30.ld (.n r3.2.next) 4).bind fun w79 =>
 (AV.asSl w79).bind fun l80 =>
 (bif ((decide ((0 : Int) ≤ n20)) && (decide (n20 < (l0.2 : Int)))) then
 (SA.ref l0.1).bind fun q81 =>
 (σ30.ld q81.1 (q81.2 + (n20.toNat * 4))).bind fun w82 =>
 (AV.asI .i64 w82).bind fun n83 =>
 (σ30.ld q81.1 ((q81.2 + (n20.toNat * 4)) + 1)).bind fun w84 =>
 (AV.asI .i64 w84).bind fun n85 =>
 (σ30.ld q81.1 (((q81.2 + (n20.toNat * 4)) + 1) + 1)).bind fun w86 =>
 (AV.asB w86).bind fun b87 =>
 (σ30.ld q81.1 ((((q81.2 + (n20.toNat * 4)) + 1) + 1) + 1)).bind fun w88 =>
 (AV.asI .u64 w88).bind fun n89 =>
 (bif ((decide ((0 : Int) ≤ n20)) && (decide (n20 < (l0.2 : Int)))) then
 (SA.ref l0.1).bind fun q90 =>
 (σ30.ld q90.1 (q90.2 + (n20.toNat * 4))).bind fun w91 =>
 (AV.asI .i64 w91).bind fun n92 =>
 (σ30.ld q90.1 ((q90.2 + (n20.toNat * 4)) + 1)).bind fun w93 =>
 (AV.asI .i64 w93).bind fun n94 =>
 (σ30.ld q90.1 (((q90.2 + (n20.toNat * 4)) + 1) + 1)).bind fun w95 =>
 (AV.asB w95).bind fun b96 =>
 (σ30.ld q90.1 ((((q90.2 + (n20.toNat * 4)) + 1) + 1) + 1)).bind fun w97 =>
 (AV.asI .u64 w97).bind fun n98 =>
 (k16 [(.sl l19.1 l19.2), (.agg [(.i .i64 n92), (.i .i64 n94), (.b b96), (.i .u64 n98)])] σ30).bind fun r99 =>
 (AV.asI .i64 r99.1).bind fun n100 =>
 (chkE (r99.2.ld (.n r3.2.next) 0) (some (.i .i64 n72))).bind fun _ =>
 (chkE (r99.2.ld (.n r3.2.next) 1) (some (.sl l74.1 l74.2))).bind fun _ =>
 (chkE (r99.2.ld (.n r3.2.next) 2) (some (.sl l76.1 l76.2))).bind fun _ =>
 (chkE (r99.2.ld (.n r3.2.next) 3) (some (.i .i64 n78))).bind fun _ =>
 (chkE (r99.2.ld (.n r3.2.next) 4) (some (.sl l80.1 l80.2))).bind fun _ =>
 (chkE (r99.2.ld q81.1 (q81.2 + (n20.toNat * 4))) (some (.i .i64 n83))).bind fun _ =>
 (chkE (r99.2.ld q81.1 ((q81.2 + (n20.toNat * 4)) + 1)) (some (.i .i64 n85))).bind fun _ =>
 (chkE (r99.2.ld q81.1 (((q81.2 + (n20.toNat * 4)) + 1) + 1)) (some (.b b87))).bind fun _ =>
 (chkE (r99.2.ld q81.1 ((((q81.2 + (n20.toNat * 4)) + 1) + 1) + 1)) (some (.i .u64 n89))).bind fun _ =>
 (k15 [(.p p6), (.agg [(.i .i64 n72), (.sl l74.1 l74.2), (.sl l76.1 l76.2), (.i .i64 n78), (.sl l80.1 l80.2)]), (.agg [(.i .i64 n83), (.i .i64 n85), (.b b87), (.i .u64 n89)]), (.i .i64 n100)] r99.2).bind fun r101 =>
 (AV.asTup 3 r101.1).bind fun c102 =>
 (AV.asAgg 5 (c102.getD 0 .u)).bind fun c103 =>
 (AV.asI .i64 (c103.getD 0 .u)).bind fun n104 =>
 (AV.asSl (c103.getD 1 .u)).bind fun l105 =>
 (AV.asSl (c103.getD 2 .u)).bind fun l106 =>
 (AV.asI .i64 (c103.getD 3 .u)).bind fun n107 =>
 (AV.asSl (c103.getD 4 .u)).bind fun l108 =>
 (AV.asI .u64 (c102.getD 1 .u)).bind fun n109 =>
 (AV.asB (c102.getD 2 .u)).bind fun b110 =>
 (r101.2.st (.n r3.2.next) 0 [(.i .i64 n104), (.sl l105.1 l105.2), (.sl l106.1 l106.2), (.i .i64 n107), (.sl l108.1 l108.2)]).bind fun σ111 =>
 some ([(.b b110), (.sl l19.1 l19.2), (.i .u64 n109)], σ111)
 else none)
 else none)) : Option (List AV × AH O)).bind fun r112 =>
 (AV.asB (r112.1.getD 0 .u)).bind fun b113 =>
 (AV.asSl (r112.1.getD 1 .u)).bind fun l114 =>
 (AV.asI .u64 (r112.1.getD 2 .u)).bind fun n115 =>
 ((bif ((!b113) == false) then
 Option.bind p5 fun q116 =>
 (r112.2.ld q116.1 q116.2).bind fun w117 =>
 (AV.asP w117).bind fun p118 =>
 (r112.2.ld (.n r18.2.next) 0).bind fun w119 =>
 (AV.asI .u64 w119).bind fun n120 =>
 (r112.2.ld (.n r18.2.next) 1).bind fun w121 =>
 (AV.asI .u64 w121).bind fun n122 =>
 (k18 [(.p p118), (.agg [(.i .u64 n120), (.i .u64 n122)])] r112.2).bind fun r123 =>
 (AV.asAgg 2 r123.1).bind fun c124 =>
 (AV.asI .u64 (c124.getD 0 .u)).bind fun n125 =>
 (AV.asI .u64 (c124.getD 1 .u)).bind fun n126 =>
 (k17 [(.agg [(.i .u64 n125), (.i .u64 n126)]), (.agg [(.i .u64 0), (.i .u64 n115)])] r123.2).bind fun r127 =>
 (AV.asI .i64 r127.1).bind fun n128 =>
 some ([(.b (decide (n128 > 0)))], r127.2)
 else some ([(.b true)], r112.2)) : Option (List AV × AH O)).bind fun r129 =>
 (AV.asB (r129.1.getD 0 .u)).bind fun b130 =>
 ((bif (b130 == false) then
 Option.bind p5 fun q131 =>
 (r129.2.ld q131.1 q131.2).bind fun w132 =>
 (AV.asP w132).bind fun p133 =>
 (r129.2.ld (.n r3.2.next) 3).bind fun w134 =>
 (AV.asI .i64 w134).bind fun n135 =>
 (k19 [(.p p133)] r129.2).bind fun r136 =>
 (AV.asI .i64 r136.1).bind fun n137 =>
 (chkE (r136.2.ld (.n r3.2.next) 3) (some (.i .i64 n135))).bind fun _ =>
 some ([(.b ((n137 : Int) != (IntKind.i64.wrap (4 * n135))))], r136.2)
 else some ([(.b true)], r129.2)) : Option (List AV × AH O)).bind fun r138 =>
 (AV.asB (r138.1.getD 0 .u)).bind fun b139 =>
 ((bif (b139 == false) then
 (r138.2.ld (.n r3.2.next) 4).bind fun w140 =>
 (AV.asSl w140).bind fun l141 =>
 (k20 [(.p p6)] r138.2).bind fun r142 =>
 (AV.asI .i64 r142.1).bind fun n143 =>
 (chkE (r142.2.ld (.n r3.2.next) 4) (some (.sl l141.1 l141.2))).bind fun _ =>
 some ([(.b ((n143 : Int) != (l141.2 : Int)))], r142.2)
 else some ([(.b true)], r138.2)) : Option (List AV × AH O)).bind fun r144 =>
 (AV.asB (r144.1.getD 0 .u)).bind fun b145 =>
 (bif b145 then
 ((some ((.b false), r144.2) : Option (AV × AH O)).map fun r => Sum.inr (Sum.inr r))
 else some (Sum.inl ([(.sl l114.1 l114.2), (.i .i64 (IntKind.i64.wrap (n20 + 1)))], r144.2)))
 else none)
 else some (Sum.inr (Sum.inl ([], r18.2)))))
noncomputable def law18_HandlesPlay_c {O : Type} (k9 k10 k11 k12 k13 k14 k16 k15 k18 k17 k19 k20 k21 k22 k23 : Sm O) : Sm O := fun xs σ =>
 bif Nat.beq xs.length 1 then
 (AV.asSl (xs.getD 0 .u)).bind fun l0 =>
 (k9 [] σ).bind fun r1 =>
 (AV.asB r1.1).bind fun b2 =>
 (bif (!b2) then
 some ((.b false), r1.2)
 else (bif (decide ((l0.2 : Int) > 60)) then
 some ((.b true), r1.2)
 else (k10 [] r1.2).bind fun r3 =>
 (AV.asTup 3 r3.1).bind fun c4 =>
 (AV.asP (c4.getD 0 .u)).bind fun p5 =>
 (AV.asP (c4.getD 1 .u)).bind fun p6 =>
 (AV.asB (c4.getD 2 .u)).bind fun b7 =>
 (bif (!b7) then
 some ((.b false), r3.2)
 else let σ8 := r3.2.bump 1
 (k11 [] σ8).bind fun r9 =>
 (AV.asAgg 5 r9.1).bind fun c10 =>
 (AV.asI .i64 (c10.getD 0 .u)).bind fun n11 =>
 (AV.asSl (c10.getD 1 .u)).bind fun l12 =>
 (AV.asSl (c10.getD 2 .u)).bind fun l13 =>
 (AV.asI .i64 (c10.getD 3 .u)).bind fun n14 =>
 (AV.asSl (c10.getD 4 .u)).bind fun l15 =>
 let σ16 := r9.2.put r3.2.next (.cells true 34 [(.i .i64 0), (.sl .nil 0), (.sl .nil 0), (.i .i64 0), (.sl .nil 0)])
 (σ16.st (.n r3.2.next) 0 [(.i .i64 n11), (.sl l12.1 l12.2), (.sl l13.1 l13.2), (.i .i64 n14), (.sl l15.1 l15.2)]).bind fun σ17 =>
 bindS (S := List AV × AH O) (R := (AV × AH O)) (loopF (S := List AV × AH O) (T := (List AV × AH O) ⊕ (AV × AH O)) (law18_HandlesPlay_L1 l0 p5 k12 k13 p6 r3 k14 k16 k15 k18 k17 k19 k20) ([(.sl .nil 0), (.i .i64 0)], σ17)) fun r146 =>
 bindS (S := List AV × AH O) (R := (AV × AH O)) (loopF (S := List AV × AH O) (T := (List AV × AH O) ⊕ (AV × AH O)) (law18_HandlesPlay_L2 r3 k21 p6) ([(.sl .nil 0), (.i .i64 0)], r146.2)) fun r178 =>
 (AV.asSl (r178.1.getD 0 .u)).bind fun l179 =>
 (k22 [(.p p6)] r178.2).bind fun r180 =>
 (AV.asTup 2 r180.1).bind fun c181 =>
 (AV.asSl (c181.getD 0 .u)).bind fun l182 =>
 (AV.asB (c181.getD 1 .u)).bind fun b183 =>
 ((bif (b183 == true) then
 (k23 [(.sl l182.1 l182.2), (.sl l179.1 l179.2)] r180.2).bind fun r184 =>
 (AV.asB r184.1).bind fun b185 =>
 some ([(.b b185)], r184.2)
 else some ([(.b false)], r180.2)) : Option (List AV × AH O)).bind fun r186 =>
 (AV.asB (r186.1.getD 0 .u)).bind fun b187 =>
 some ((.b b187), r186.2))))
 else none
noncomputable def law18_HandlesPlay {O : Type} : Sm O := law18_HandlesPlay_c law18_awake law18_made haymowref18_New meter_Meter__Steps handles_Handles__Add haymowref18_Add law18_token law18_do meter_Meter__Since haymowref01_Cmp meter_Meter__Held handles_Handles__Count handles_Handles__Get law18_told haymowref02_Same
theorem law18_HandlesPlay_ent : Entered Try.prog 3 := Try.call3
theorem law18_HandlesPlay_run {O : Type} (k9 k10 k11 k12 k13 k14 k16 k15 k18 k17 k19 k20 k21 k22 k23 : Sm O) : run (O := O) Try.prog [(9, k9), (10, k10), (11, k11), (12, k12), (13, k13), (14, k14), (16, k16), (15, k15), (18, k18), (17, k17), (19, k19), (20, k20), (21, k21), (22, k22), (23, k23)] Try.f3 (.n .z (.n (.n .z (.n .z .z)) (.n (.n .z (.n .z .z)) (.n .z (.n (.n .z (.n .z .z)) (.n .z (.n .z (.n (.n .z (.n (.lp true 0 [(7, .one .sl), (8, .one (.i .i64))] [] (.n (.n .z .z) (.n (.n (.n .z (.n (.n .z (.j false [(5, .one .b), (7, .one .sl), (10, .one (.i .u64))] (.n .z (.n .z (.n (.d [] [0, 1, 2, 3, 4, 5, 6, 7, 8, 9, 10, 11] [0, 0, 0, 6, 14, 30, 63, 127, 255, 255, 511, 2047]) (.n (.g [(3, 2, [(76, .one .b)])]) .z)))) (.d [] [0, 1, 2, 3, 4, 5, 6, 7, 8, 9, 10, 11, 12, 13, 14, 15, 16, 17, 18, 19] [0, 0, 0, 0, 12, 28, 0, 0, 0, 384, 896, 1984, 4095, 8191, 16383, 16383, 16383, 32767, 196607, 524287]))) (.n (.d [(2, 10, [(111, .one .b)]), (14, 10, [(123, .one .b)]), (26, 6, [(131, .one .b)])] [0, 1, 2, 3, 4, 5, 6, 7, 9, 10, 8, 11, 12, 13, 14, 15, 16, 17, 18, 20, 21, 22, 23, 19, 24, 25, 26, 27, 29, 30, 31, 28, 32, 33] [0, 1, 3, 7, 15, 31, 63, 7, 255, 7, 519, 2047, 4095, 8191, 16383, 32767, 65535, 131071, 262143, 524287, 32767, 1081343, 3178495, 7372799, 16777215, 33554431, 67108863, 134217727, 268435455, 134217727, 671088639, 1744830463, 4294967295, 8589934591]) (.n .z .z)))) .z) .z))) .z)) (.n .z (.n (.n .z (.n (.lp true 2 [(14, .one .sl), (15, .one (.i .i64))] [(14, .one .sl)] (.n (.n .z .z) (.n (.n (.n .z (.n (.n (.g [(8, 2, [(161, .one .b)])]) (.n .z .z)) .z)) .z) .z))) .z)) (.n .z (.n (.g [(1, 3, [(181, .one .b)])]) .z)))))))))))) = law18_HandlesPlay_c k9 k10 k11 k12 k13 k14 k16 k15 k18 k17 k19 k20 k21 k22 k23 := by kernel_rfl
theorem law18_HandlesPlay_sound {O : Type} {RO : O → Loc → (Nat → Option Obj) → Prop} : FSound RO Try.prog 3 (law18_HandlesPlay) :=
   have h : FSound RO Try.prog 3 (law18_HandlesPlay_c law18_awake law18_made haymowref18_New meter_Meter__Steps handles_Handles__Add haymowref18_Add law18_token law18_do meter_Meter__Since haymowref01_Cmp meter_Meter__Held handles_Handles__Count handles_Handles__Get law18_told haymowref02_Same) := (law18_HandlesPlay_run law18_awake law18_made haymowref18_New meter_Meter__Steps handles_Handles__Add haymowref18_Add law18_token law18_do meter_Meter__Since haymowref01_Cmp meter_Meter__Held handles_Handles__Count handles_Handles__Get law18_told haymowref02_Same) ▸ run_sound (gcons law18_awake_ent (law18_awake_sound) <| gcons law18_made_ent (law18_made_sound) <| gcons haymowref18_New_ent (haymowref18_New_sound) <| gcons meter_Meter__Steps_ent (meter_Meter__Steps_sound) <| gcons handles_Handles__Add_ent (handles_Handles__Add_sound) <| gcons haymowref18_Add_ent (haymowref18_Add_sound) <| gcons law18_token_ent (law18_token_sound) <| gcons law18_do_ent (law18_do_sound) <| gcons meter_Meter__Since_ent (meter_Meter__Since_sound) <| gcons haymowref01_Cmp_ent (haymowref01_Cmp_sound) <| gcons meter_Meter__Held_ent (meter_Meter__Held_sound) <| gcons handles_Handles__Count_ent (handles_Handles__Count_sound) <| gcons handles_Handles__Get_ent (handles_Handles__Get_sound) <| gcons law18_told_ent (law18_told_sound) <| gcons haymowref02_Same_ent (haymowref02_Same_sound) <| gnil) mixed Try.func3 (by kernel_rfl) _
   h

end Go.Abs.Try
