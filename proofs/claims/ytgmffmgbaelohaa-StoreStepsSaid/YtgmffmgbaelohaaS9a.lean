/-
  What functions of the program do. No conditions.
-/
import Derived.Test.YtgmffmgbaelohaaAbsExtern
import Derived.Test.YtgmffmgbaelohaaProg
import Derived.KernelRfl
set_option linter.unusedVariables false
set_option linter.unusedSimpArgs false
set_option linter.constructorNameAsVariable false
set_option maxRecDepth 100000
namespace Go.Abs.Try
open Go Go.Abs Go.Proofs

theorem mixed : Try.prog.follows .mixedOrders = true := by kernel_rfl
abbrev T_int64 : Nat := 2
abbrev T_int : Nat := 3
abbrev T_bool : Nat := 4
abbrev T_uint8 : Nat := 5
abbrev T_abi_BoundsErrorCode : Nat := 6
abbrev T_runtime_boundsError : Nat := 8
abbrev T_string : Nat := 9
abbrev T_runtime_errorString : Nat := 10
abbrev T_runtime_plainError : Nat := 11
abbrev T_uintptr : Nat := 12
abbrev T_runtime_errorAddressString : Nat := 14
abbrev T_maps_unhashableTypeError : Nat := 19
abbrev T_int32 : Nat := 21
abbrev T_haymowref10_State : Nat := 31
abbrev T_haymowref18_State : Nat := 34
abbrev T_uint64 : Nat := 36
abbrev T_api_Wide : Nat := 38
abbrev T_mem_Mem : Nat := 43
abbrev T_law18_Op : Nat := 45
abbrev T_api_Errno : Nat := 46
abbrev T_ref_Ref : Nat := 49
abbrev T_haymowref18_Handle : Nat := 61
abbrev T_haymowref15_State : Nat := 91
abbrev T_law15_Op : Nat := 96
abbrev T_api_Shape : Nat := 106
abbrev T_api_Header : Nat := 115
abbrev T_meter_Kind : Nat := 127
abbrev T_chain_Chain : Nat := 130
abbrev T_handles_Handles : Nat := 132
abbrev T_chain_Table : Nat := 136
abbrev T_haymowref10_Entry : Nat := 144
abbrev T_haymowref01_Four : Nat := 155
abbrev T_meter_words : Nat := 159
abbrev T_meter_Meter : Nat := 161
abbrev T_iter_Seq_int_ : Nat := 163
abbrev T_large_Large : Nat := 168
abbrev T_store_parts : Nat := 188
abbrev T_store_Store : Nat := 190
abbrev T_ref_Kind : Nat := 195
abbrev T_pool_Pool : Nat := 204
abbrev T_uint : Nat := 210
abbrev T_mem_space : Nat := 219
abbrev T_semi_side : Nat := 228
abbrev T_semi_Semi : Nat := 230
abbrev T_field_Field : Nat := 238
abbrev T_runtime_TypeAssertionError : Nat := 252
abbrev T_runtime_PanicNilError : Nat := 255
abbrev T_uint32 : Nat := 256
abbrev T_abi_TFlag : Nat := 257
abbrev T_abi_Kind : Nat := 258
abbrev T_abi_NameOff : Nat := 261
abbrev T_abi_TypeOff : Nat := 262
abbrev T_abi_Type : Nat := 264
theorem bits_Add64_ext {O : Type} : ExternOK Try.prog 120 (bits_Add64 (O := O)) := add64_ext Try.func120 (by kernel_rfl) (by kernel_rfl) (by kernel_rfl) rfl

/-- haymow/meter.New -/
noncomputable def meter_New_c {O : Type} : Sm O := fun xs σ =>
 bif Nat.beq xs.length 0 then
 let σ0 := σ.bump 1
 let σ1 := σ0.put σ.next (.cells true 161 [(.i .u64 0), (.i .u64 0), (.i .u64 0), (.i .u64 0), (.i .i64 0), (.i .i64 0)])
 some ((.p (some ((.n σ.next), 0))), σ1)
 else none
noncomputable def meter_New {O : Type} : Sm O := meter_New_c
theorem meter_New_ent : Entered Try.prog 119 := Try.call119
theorem meter_New_run {O : Type} : run (O := O) Try.prog [] Try.f119 (.n .z .z) = meter_New_c  := by kernel_rfl
theorem meter_New_sound {O : Type} {RO : O → Loc → (Nat → Option Obj) → Prop} : FSound RO Try.prog 119 (meter_New) :=
   have h : FSound RO Try.prog 119 (meter_New_c) := (meter_New_run) ▸ run_sound (gnil) mixed Try.func119 (by kernel_rfl) _
   h

/-- haymow/mem.New -/
noncomputable def mem_New_c {O : Type} (k119 : Sm O) : Sm O := fun xs σ =>
 bif Nat.beq xs.length 0 then
 let σ0 := σ.bump 1
 (k119 [] σ0).bind fun r1 =>
 (AV.asP r1.1).bind fun p2 =>
 let σ3 := r1.2.put σ.next (.cells true 43 [(.p p2), (.sl .nil 0), (.i .i64 0), (.i .i64 0)])
 some ((.p (some ((.n σ.next), 0))), σ3)
 else none
noncomputable def mem_New {O : Type} : Sm O := mem_New_c meter_New
theorem mem_New_ent : Entered Try.prog 56 := Try.call56
theorem mem_New_run {O : Type} (k119 : Sm O) : run (O := O) Try.prog [(119, k119)] Try.f56 (.n .z .z) = mem_New_c k119 := by kernel_rfl
theorem mem_New_sound {O : Type} {RO : O → Loc → (Nat → Option Obj) → Prop} : FSound RO Try.prog 56 (mem_New) :=
   have h : FSound RO Try.prog 56 (mem_New_c meter_New) := (mem_New_run meter_New) ▸ run_sound (gcons meter_New_ent (meter_New_sound) <| gnil) mixed Try.func56 (by kernel_rfl) _
   h

/-- (*haymow/meter.words).open -/
noncomputable def meter_words__open_c {O : Type} : Sm O := fun xs σ =>
 bif Nat.beq xs.length 2 then
 (AV.asP (xs.getD 0 .u)).bind fun p0 =>
 (AV.asI .i64 (xs.getD 1 .u)).bind fun n1 =>
 Option.bind p0 fun q2 =>
 (σ.ld q2.1 q2.2).bind fun w3 =>
 (AV.asI .i64 w3).bind fun n4 =>
 Option.bind p0 fun q5 =>
 (σ.st q5.1 q5.2 [(.i .i64 (IntKind.i64.wrap (n4 + n1)))]).bind fun σ6 =>
 Option.bind p0 fun q7 =>
 (σ6.ld q7.1 (q7.2 + 1)).bind fun w8 =>
 (AV.asI .i64 w8).bind fun n9 =>
 Option.bind p0 fun q10 =>
 (σ6.ld q10.1 q10.2).bind fun w11 =>
 (AV.asI .i64 w11).bind fun n12 =>
 Option.bind p0 fun q13 =>
 (σ6.st q13.1 (q13.2 + 1) [(.i .i64 (if n12 > n9 then n12 else n9))]).bind fun σ14 =>
 some ((.tup []), σ14)
 else none
noncomputable def meter_words__open {O : Type} : Sm O := meter_words__open_c
theorem meter_words__open_ent : Entered Try.prog 160 := Try.call160
theorem meter_words__open_run {O : Type} : run (O := O) Try.prog [] Try.f160 (.n .z (.d [] [0, 1, 2, 3, 4, 5, 6, 7, 8, 9, 10, 11, 12] [0, 0, 2, 6, 14, 0, 32, 96, 224, 510, 1023, 2047, 4095])) = meter_words__open_c  := by kernel_rfl
theorem meter_words__open_sound {O : Type} {RO : O → Loc → (Nat → Option Obj) → Prop} : FSound RO Try.prog 160 (meter_words__open) :=
   have h : FSound RO Try.prog 160 (meter_words__open_c) := (meter_words__open_run) ▸ run_sound (gnil) mixed Try.func160 (by kernel_rfl) _
   h

/-- (*haymow/meter.Meter).Hold -/
noncomputable def meter_Meter__Hold_c {O : Type} (k160 : Sm O) : Sm O := fun xs σ =>
 bif Nat.beq xs.length 2 then
 (AV.asP (xs.getD 0 .u)).bind fun p0 =>
 (AV.asI .i64 (xs.getD 1 .u)).bind fun n1 =>
 ((bif ((Option.isNone p0) == false) then
 some ([(.b (decide (n1 < 0)))], σ)
 else some ([(.b true)], σ)) : Option (List AV × AH O)).bind fun r2 =>
 (AV.asB (r2.1.getD 0 .u)).bind fun b3 =>
 (bif b3 then
 some ((.i .i64 1), r2.2)
 else Option.bind p0 fun q4 =>
 (r2.2.ld q4.1 (q4.2 + 4)).bind fun w5 =>
 (AV.asI .i64 w5).bind fun n6 =>
 let c7 : Bool := (decide (n1 > (IntKind.i64.wrap (281474976710656 - n6))))
 (bif c7 then
 some ((.i .i64 3), r2.2)
 else Option.bind p0 fun q8 =>
 (k160 [(.p (some (q8.1, (q8.2 + 4)))), (.i .i64 n1)] r2.2).bind fun r9 =>
 (AV.asTup 0 r9.1).bind fun c10 =>
 some ((.i .i64 0), r9.2)))
 else none
noncomputable def meter_Meter__Hold {O : Type} : Sm O := meter_Meter__Hold_c meter_words__open
theorem meter_Meter__Hold_ent : Entered Try.prog 137 := Try.call137
theorem meter_Meter__Hold_run {O : Type} (k160 : Sm O) : run (O := O) Try.prog [(160, k160)] Try.f137 (.n .z (.n (.n (.n (.g [(2, 2, [(11, .one .b)])]) (.n .z (.n .z (.n .z .z)))) .z) (.n .z .z))) = meter_Meter__Hold_c k160 := by kernel_rfl
theorem meter_Meter__Hold_sound {O : Type} {RO : O → Loc → (Nat → Option Obj) → Prop} : FSound RO Try.prog 137 (meter_Meter__Hold) :=
   have h : FSound RO Try.prog 137 (meter_Meter__Hold_c meter_words__open) := (meter_Meter__Hold_run meter_words__open) ▸ run_sound (gcons meter_words__open_ent (meter_words__open_sound) <| gnil) mixed Try.func137 (by kernel_rfl) _
   h

/-- (*haymow/mem.Mem).Open -/
noncomputable def mem_Mem__Open_L1 {O : Type} (p0 : Option (Bid × Nat)) : List AV × AH O → Option ((List AV × AH O) ⊕ (List AV × AH O)) := (fun r8 =>
 (AV.asI .i64 (r8.1.getD 0 .u)).bind fun n9 =>
 Option.bind p0 fun q10 =>
 (r8.2.ld q10.1 (q10.2 + 1)).bind fun w11 =>
 (AV.asSl w11).bind fun l12 =>
 ((bif ((decide (n9 < (l12.2 : Int))) == true) then
 Option.bind p0 fun q13 =>
 (r8.2.ld q13.1 (q13.2 + 1)).bind fun w14 =>
 (AV.asSl w14).bind fun l15 =>
 (bif ((decide ((0 : Int) ≤ n9)) && (decide (n9 < (l15.2 : Int)))) then
 (SA.ref l15.1).bind fun q16 =>
 (r8.2.ld q16.1 ((q16.2 + (n9.toNat * 2)) + 1)).bind fun w17 =>
 (AV.asB w17).bind fun b18 =>
 some ([(.b b18)], r8.2)
 else none)
 else some ([(.b false)], r8.2)) : Option (List AV × AH O)).bind fun r19 =>
 (AV.asB (r19.1.getD 0 .u)).bind fun b20 =>
 (bif b20 then
 some (Sum.inl ([(.i .i64 (IntKind.i64.wrap (n9 + 1)))], r19.2))
 else some (Sum.inr ([(.i .i64 n9)], r19.2))))
noncomputable def mem_Mem__Open_c {O : Type} (k137 : Sm O) : Sm O := fun xs σ =>
 bif Nat.beq xs.length 2 then
 (AV.asP (xs.getD 0 .u)).bind fun p0 =>
 (AV.asI .i64 (xs.getD 1 .u)).bind fun n1 =>
 (bif (decide (n1 < 0)) then
 some ((.tup [(.i .i64 0), (.i .i64 1)]), σ)
 else (bif (decide (n1 > 4194304)) then
 some ((.tup [(.i .i64 0), (.i .i64 7)]), σ)
 else Option.bind p0 fun q2 =>
 (σ.ld q2.1 (q2.2 + 3)).bind fun w3 =>
 (AV.asI .i64 w3).bind fun n4 =>
 (bif (decide (n4 ≥ 262144)) then
 some ((.tup [(.i .i64 0), (.i .i64 3)]), σ)
 else Option.bind p0 fun q5 =>
 (σ.ld q5.1 (q5.2 + 2)).bind fun w6 =>
 (AV.asI .i64 w6).bind fun n7 =>
 (loopF (S := List AV × AH O) (T := List AV × AH O) (mem_Mem__Open_L1 p0) ([(.i .i64 n7)], σ)).bind fun r21 =>
 (AV.asI .i64 (r21.1.getD 0 .u)).bind fun n22 =>
 Option.bind p0 fun q23 =>
 (r21.2.ld q23.1 (q23.2 + 1)).bind fun w24 =>
 (AV.asSl w24).bind fun l25 =>
 ((bif ((n22 : Int) == (l25.2 : Int)) then
 let σ26 := r21.2.bump 2
 Option.bind p0 fun q27 =>
 (σ26.ld q27.1 (q27.2 + 1)).bind fun w28 =>
 (AV.asSl w28).bind fun l29 =>
 let σ30 := σ26.put r21.2.next (.cells true 219 [(.sl .nil 0), (.b false)])
 (σ30.rdSl (.loc (.n r21.2.next) 0 2) 1 2).bind fun new31 =>
 (bif (Nat.ble ((l29.2 + 1) * 33) 35184372088832) then
 (σ30.appSl (r21.2.next + 1) 219 2 l29.1 l29.2 1 new31).bind fun r32 =>
 (AV.asSl r32.1).bind fun l33 =>
 Option.bind p0 fun q34 =>
 (r32.2.st q34.1 (q34.2 + 1) [(.sl l33.1 l33.2)]).bind fun σ35 =>
 some ([], σ35)
 else none)
 else some ([], r21.2)) : Option (List AV × AH O)).bind fun r36 =>
 let σ37 := r36.2.bump 1
 Option.bind p0 fun q38 =>
 (σ37.ld q38.1 (q38.2 + 1)).bind fun w39 =>
 (AV.asSl w39).bind fun l40 =>
 (bif ((((decide ((0 : Int) ≤ n1)) && (decide (n1 ≤ n1))) && (decide ((n1 * 8) ≤ 140737488355328))) && (decide (n1 ≤ 140737488355328))) then
 let σ41 := σ37.put r36.2.next (.cells true 36 ((List.replicate n1.toNat [(.i .u64 0)]).flatten))
 (bif ((decide ((0 : Int) ≤ n22)) && (decide (n22 < (l40.2 : Int)))) then
 (SA.ref l40.1).bind fun q42 =>
 (σ41.st q42.1 (q42.2 + (n22.toNat * 2)) [(.sl (.loc (.n r36.2.next) 0 1) n1.toNat), (.b true)]).bind fun σ43 =>
 Option.bind p0 fun q44 =>
 (σ43.ld q44.1 (q44.2 + 3)).bind fun w45 =>
 (AV.asI .i64 w45).bind fun n46 =>
 Option.bind p0 fun q47 =>
 (σ43.st q47.1 (q47.2 + 2) [(.i .i64 (IntKind.i64.wrap (n22 + 1)))]).bind fun σ48 =>
 Option.bind p0 fun q49 =>
 (σ48.st q49.1 (q49.2 + 3) [(.i .i64 (IntKind.i64.wrap (n46 + 1)))]).bind fun σ50 =>
 Option.bind p0 fun q51 =>
 (σ50.ld q51.1 q51.2).bind fun w52 =>
 (AV.asP w52).bind fun p53 =>
 (k137 [(.p p53), (.i .i64 n1)] σ50).bind fun r54 =>
 (AV.asI .i64 r54.1).bind fun n55 =>
 some ((.tup [(.i .i64 n22), (.i .i64 0)]), r54.2)
 else none)
 else none))))
 else none
noncomputable def mem_Mem__Open {O : Type} : Sm O := mem_Mem__Open_c meter_Meter__Hold
theorem mem_Mem__Open_ent : Entered Try.prog 82 := Try.call82
theorem mem_Mem__Open_run {O : Type} (k137 : Sm O) : run (O := O) Try.prog [(137, k137)] Try.f82 (.n .z (.n (.n (.n .z (.n .z (.n .z (.n .z (.n .z (.n .z .z)))))) .z) (.n .z (.n (.n (.lp false 1 [(6, .one (.i .i64))] [(6, .one (.i .i64))] (.n (.n (.g [(7, 8, [(39, .one .b)])]) .z) .z)) .z) (.n (.n .z (.j false [] .z .z)) (.n (.d [] [0, 1, 2, 3, 4, 5, 6, 7, 8, 9] [0, 1, 3, 7, 0, 0, 32, 96, 255, 511]) (.n .z (.n .z .z)))))))) = mem_Mem__Open_c k137 := by kernel_rfl
theorem mem_Mem__Open_sound {O : Type} {RO : O → Loc → (Nat → Option Obj) → Prop} : FSound RO Try.prog 82 (mem_Mem__Open) :=
   have h : FSound RO Try.prog 82 (mem_Mem__Open_c meter_Meter__Hold) := (mem_Mem__Open_run meter_Meter__Hold) ▸ run_sound (gcons meter_Meter__Hold_ent (meter_Meter__Hold_sound) <| gnil) mixed Try.func82 (by kernel_rfl) _
   h

/-- haymow/semi.New -/
noncomputable def semi_New_c {O : Type} (k82 : Sm O) : Sm O := fun xs σ =>
 bif Nat.beq xs.length 2 then
 (AV.asP (xs.getD 0 .u)).bind fun p0 =>
 (AV.asI .i64 (xs.getD 1 .u)).bind fun n1 =>
 (bif (Option.isNone p0) then
 some ((.tup [(.p none), (.i .i64 1)]), σ)
 else (k82 [(.p p0), (.i .i64 n1)] σ).bind fun r2 =>
 (AV.asTup 2 r2.1).bind fun c3 =>
 (AV.asI .i64 (c3.getD 0 .u)).bind fun n4 =>
 (AV.asI .i64 (c3.getD 1 .u)).bind fun n5 =>
 (bif ((n5 : Int) != 0) then
 some ((.tup [(.p none), (.i .i64 n5)]), r2.2)
 else let σ6 := r2.2.bump 1
 let σ7 := σ6.put r2.2.next (.cells true 230 [(.p p0), (.i .i64 n4), (.i .i64 0), (.i .i64 0), (.i .i64 0), (.b false)])
 some ((.tup [(.p (some ((.n r2.2.next), 0))), (.i .i64 0)]), σ7)))
 else none
noncomputable def semi_New {O : Type} : Sm O := semi_New_c mem_Mem__Open
theorem semi_New_ent : Entered Try.prog 105 := Try.call105
theorem semi_New_run {O : Type} (k82 : Sm O) : run (O := O) Try.prog [(82, k82)] Try.f105 (.n .z (.n (.n .z (.n .z .z)) (.n .z (.n (.n .z (.n .z .z)) .z)))) = semi_New_c k82 := by kernel_rfl
theorem semi_New_sound {O : Type} {RO : O → Loc → (Nat → Option Obj) → Prop} : FSound RO Try.prog 105 (semi_New) :=
   have h : FSound RO Try.prog 105 (semi_New_c mem_Mem__Open) := (semi_New_run mem_Mem__Open) ▸ run_sound (gcons mem_Mem__Open_ent (mem_Mem__Open_sound) <| gnil) mixed Try.func105 (by kernel_rfl) _
   h

/-- haymow/pool.New -/
noncomputable def pool_New_c {O : Type} (k82 : Sm O) : Sm O := fun xs σ =>
 bif Nat.beq xs.length 2 then
 (AV.asP (xs.getD 0 .u)).bind fun p0 =>
 (AV.asI .i64 (xs.getD 1 .u)).bind fun n1 =>
 ((bif ((Option.isNone p0) == false) then
 some ([(.b (decide (n1 < 1)))], σ)
 else some ([(.b true)], σ)) : Option (List AV × AH O)).bind fun r2 =>
 (AV.asB (r2.1.getD 0 .u)).bind fun b3 =>
 ((bif (b3 == false) then
 some ([(.b (decide (n1 > 60)))], r2.2)
 else some ([(.b true)], r2.2)) : Option (List AV × AH O)).bind fun r4 =>
 (AV.asB (r4.1.getD 0 .u)).bind fun b5 =>
 (bif b5 then
 some ((.tup [(.p none), (.i .i64 1)]), r4.2)
 else (k82 [(.p p0), (.i .i64 0)] r4.2).bind fun r6 =>
 (AV.asTup 2 r6.1).bind fun c7 =>
 (AV.asI .i64 (c7.getD 0 .u)).bind fun n8 =>
 (AV.asI .i64 (c7.getD 1 .u)).bind fun n9 =>
 (bif ((n9 : Int) != 0) then
 some ((.tup [(.p none), (.i .i64 n9)]), r6.2)
 else let σ10 := r6.2.bump 1
 let σ11 := σ10.put r6.2.next (.cells true 204 [(.p p0), (.i .i64 n8), (.i .i64 n1), (.i .i64 0), (.i .i64 0), (.i .i64 0), (.i .i64 0)])
 some ((.tup [(.p (some ((.n r6.2.next), 0))), (.i .i64 0)]), σ11)))
 else none
noncomputable def pool_New {O : Type} : Sm O := pool_New_c mem_Mem__Open
theorem pool_New_ent : Entered Try.prog 81 := Try.call81
theorem pool_New_run {O : Type} (k82 : Sm O) : run (O := O) Try.prog [(82, k82)] Try.f81 (.n .z (.n (.n (.g [(2, 2, [(13, .one .b)]), (6, 2, [(17, .one .b)])]) (.n .z .z)) (.n .z (.n (.n .z (.n .z .z)) .z)))) = pool_New_c k82 := by kernel_rfl
theorem pool_New_sound {O : Type} {RO : O → Loc → (Nat → Option Obj) → Prop} : FSound RO Try.prog 81 (pool_New) :=
   have h : FSound RO Try.prog 81 (pool_New_c mem_Mem__Open) := (pool_New_run mem_Mem__Open) ▸ run_sound (gcons mem_Mem__Open_ent (mem_Mem__Open_sound) <| gnil) mixed Try.func81 (by kernel_rfl) _
   h

/-- haymow/large.New -/
noncomputable def large_New_c {O : Type} (k81 : Sm O) : Sm O := fun xs σ =>
 bif Nat.beq xs.length 1 then
 (AV.asP (xs.getD 0 .u)).bind fun p0 =>
 (k81 [(.p p0), (.i .i64 5)] σ).bind fun r1 =>
 (AV.asTup 2 r1.1).bind fun c2 =>
 (AV.asP (c2.getD 0 .u)).bind fun p3 =>
 (AV.asI .i64 (c2.getD 1 .u)).bind fun n4 =>
 (bif ((n4 : Int) != 0) then
 some ((.tup [(.p none), (.i .i64 n4)]), r1.2)
 else let σ5 := r1.2.bump 1
 let σ6 := σ5.put r1.2.next (.cells true 168 [(.p p0), (.p p3), (.i .i64 0), (.i .i64 0), (.i .i64 0), (.i .i64 0), (.i .i64 0), (.i .i64 0), (.i .u64 0), (.i .i64 0), (.i .i64 0)])
 some ((.tup [(.p (some ((.n r1.2.next), 0))), (.i .i64 0)]), σ6))
 else none
noncomputable def large_New {O : Type} : Sm O := large_New_c pool_New
theorem large_New_ent : Entered Try.prog 25 := Try.call25
theorem large_New_run {O : Type} (k81 : Sm O) : run (O := O) Try.prog [(81, k81)] Try.f25 (.n .z (.n .z (.n (.n .z (.n .z .z)) .z))) = large_New_c k81 := by kernel_rfl
theorem large_New_sound {O : Type} {RO : O → Loc → (Nat → Option Obj) → Prop} : FSound RO Try.prog 25 (large_New) :=
   have h : FSound RO Try.prog 25 (large_New_c pool_New) := (large_New_run pool_New) ▸ run_sound (gcons pool_New_ent (pool_New_sound) <| gnil) mixed Try.func25 (by kernel_rfl) _
   h

/-- haymow/store.New -/
noncomputable def store_New_c {O : Type} (k56 k105 k25 : Sm O) : Sm O := fun xs σ =>
 bif Nat.beq xs.length 2 then
 (AV.asI .i64 (xs.getD 0 .u)).bind fun n0 =>
 (AV.asI .i64 (xs.getD 1 .u)).bind fun n1 =>
 ((bif ((decide (n0 < 2)) == false) then
 some ([(.b (decide (n0 > 64)))], σ)
 else some ([(.b true)], σ)) : Option (List AV × AH O)).bind fun r2 =>
 (AV.asB (r2.1.getD 0 .u)).bind fun b3 =>
 (bif b3 then
 some ((.tup [(.p none), (.i .i64 1)]), r2.2)
 else (k56 [] r2.2).bind fun r4 =>
 (AV.asP r4.1).bind fun p5 =>
 (k105 [(.p p5), (.i .i64 n1)] r4.2).bind fun r6 =>
 (AV.asTup 2 r6.1).bind fun c7 =>
 (AV.asP (c7.getD 0 .u)).bind fun p8 =>
 (AV.asI .i64 (c7.getD 1 .u)).bind fun n9 =>
 (bif ((n9 : Int) != 0) then
 some ((.tup [(.p none), (.i .i64 n9)]), r6.2)
 else (k25 [(.p p5)] r6.2).bind fun r10 =>
 (AV.asTup 2 r10.1).bind fun c11 =>
 (AV.asP (c11.getD 0 .u)).bind fun p12 =>
 (AV.asI .i64 (c11.getD 1 .u)).bind fun n13 =>
 (bif ((n13 : Int) != 0) then
 some ((.tup [(.p none), (.i .i64 n13)]), r10.2)
 else let σ14 := r10.2.bump 1
 let σ15 := σ14.put r10.2.next (.cells true 190 [(.p p5), (.p p8), (.p p12), (.i .i64 n0)])
 some ((.tup [(.p (some ((.n r10.2.next), 0))), (.i .i64 0)]), σ15))))
 else none
noncomputable def store_New {O : Type} : Sm O := store_New_c mem_New semi_New large_New
theorem store_New_ent : Entered Try.prog 45 := Try.call45
theorem store_New_run {O : Type} (k56 k105 k25 : Sm O) : run (O := O) Try.prog [(56, k56), (105, k105), (25, k25)] Try.f45 (.n .z (.n (.n (.g [(2, 2, [(15, .one .b)])]) (.n .z .z)) (.n .z (.n .z (.n (.n .z (.n .z .z)) (.n .z (.n (.n .z (.n .z .z)) .z))))))) = store_New_c k56 k105 k25 := by kernel_rfl
theorem store_New_sound {O : Type} {RO : O → Loc → (Nat → Option Obj) → Prop} : FSound RO Try.prog 45 (store_New) :=
   have h : FSound RO Try.prog 45 (store_New_c mem_New semi_New large_New) := (store_New_run mem_New semi_New large_New) ▸ run_sound (gcons mem_New_ent (mem_New_sound) <| gcons semi_New_ent (semi_New_sound) <| gcons large_New_ent (large_New_sound) <| gnil) mixed Try.func45 (by kernel_rfl) _
   h

/-- (*haymow/store.Store).Mem -/
noncomputable def store_Store__Mem_c {O : Type} : Sm O := fun xs σ =>
 bif Nat.beq xs.length 1 then
 (AV.asP (xs.getD 0 .u)).bind fun p0 =>
 Option.bind p0 fun q1 =>
 (σ.ld q1.1 q1.2).bind fun w2 =>
 (AV.asP w2).bind fun p3 =>
 some ((.p p3), σ)
 else none
noncomputable def store_Store__Mem {O : Type} : Sm O := store_Store__Mem_c
theorem store_Store__Mem_ent : Entered Try.prog 49 := Try.call49
theorem store_Store__Mem_run {O : Type} : run (O := O) Try.prog [] Try.f49 (.n .z .z) = store_Store__Mem_c  := by kernel_rfl
theorem store_Store__Mem_sound {O : Type} {RO : O → Loc → (Nat → Option Obj) → Prop} : FSound RO Try.prog 49 (store_Store__Mem) :=
   have h : FSound RO Try.prog 49 (store_Store__Mem_c) := (store_Store__Mem_run) ▸ run_sound (gnil) mixed Try.func49 (by kernel_rfl) _
   h

/-- (*haymow/store.Store).Semi -/
noncomputable def store_Store__Semi_c {O : Type} : Sm O := fun xs σ =>
 bif Nat.beq xs.length 1 then
 (AV.asP (xs.getD 0 .u)).bind fun p0 =>
 Option.bind p0 fun q1 =>
 (σ.ld q1.1 (q1.2 + 1)).bind fun w2 =>
 (AV.asP w2).bind fun p3 =>
 some ((.p p3), σ)
 else none
noncomputable def store_Store__Semi {O : Type} : Sm O := store_Store__Semi_c
theorem store_Store__Semi_ent : Entered Try.prog 102 := Try.call102
theorem store_Store__Semi_run {O : Type} : run (O := O) Try.prog [] Try.f102 (.n .z .z) = store_Store__Semi_c  := by kernel_rfl
theorem store_Store__Semi_sound {O : Type} {RO : O → Loc → (Nat → Option Obj) → Prop} : FSound RO Try.prog 102 (store_Store__Semi) :=
   have h : FSound RO Try.prog 102 (store_Store__Semi_c) := (store_Store__Semi_run) ▸ run_sound (gnil) mixed Try.func102 (by kernel_rfl) _
   h

/-- (*haymow/store.Store).Large -/
noncomputable def store_Store__Large_c {O : Type} : Sm O := fun xs σ =>
 bif Nat.beq xs.length 1 then
 (AV.asP (xs.getD 0 .u)).bind fun p0 =>
 Option.bind p0 fun q1 =>
 (σ.ld q1.1 ((q1.2 + 1) + 1)).bind fun w2 =>
 (AV.asP w2).bind fun p3 =>
 some ((.p p3), σ)
 else none
noncomputable def store_Store__Large {O : Type} : Sm O := store_Store__Large_c
theorem store_Store__Large_ent : Entered Try.prog 103 := Try.call103
theorem store_Store__Large_run {O : Type} : run (O := O) Try.prog [] Try.f103 (.n .z .z) = store_Store__Large_c  := by kernel_rfl
theorem store_Store__Large_sound {O : Type} {RO : O → Loc → (Nat → Option Obj) → Prop} : FSound RO Try.prog 103 (store_Store__Large) :=
   have h : FSound RO Try.prog 103 (store_Store__Large_c) := (store_Store__Large_run) ▸ run_sound (gnil) mixed Try.func103 (by kernel_rfl) _
   h

/-- haymow/header.within -/
noncomputable def header_within_c {O : Type} : Sm O := fun xs σ =>
 bif Nat.beq xs.length 2 then
 (AV.asI .i64 (xs.getD 0 .u)).bind fun n0 =>
 (AV.asI .i64 (xs.getD 1 .u)).bind fun n1 =>
 ((bif ((decide (n0 ≥ 0)) == true) then
 some ([(.b (decide (n0 ≤ n1)))], σ)
 else some ([(.b false)], σ)) : Option (List AV × AH O)).bind fun r2 =>
 (AV.asB (r2.1.getD 0 .u)).bind fun b3 =>
 some ((.b b3), r2.2)
 else none
noncomputable def header_within {O : Type} : Sm O := header_within_c
theorem header_within_ent : Entered Try.prog 163 := Try.call163
theorem header_within_run {O : Type} : run (O := O) Try.prog [] Try.f163 (.n .z (.n (.g [(2, 3, [(11, .one .b)])]) .z)) = header_within_c  := by kernel_rfl
theorem header_within_sound {O : Type} {RO : O → Loc → (Nat → Option Obj) → Prop} : FSound RO Try.prog 163 (header_within) :=
   have h : FSound RO Try.prog 163 (header_within_c) := (header_within_run) ▸ run_sound (gnil) mixed Try.func163 (by kernel_rfl) _
   h

/-- haymow/header.Check -/
noncomputable def header_Check_c {O : Type} (k163 : Sm O) : Sm O := fun xs σ =>
 bif Nat.beq xs.length 1 then
 (AV.asAgg 5 (xs.getD 0 .u)).bind fun c0 =>
 (AV.asI .i64 (c0.getD 0 .u)).bind fun n1 =>
 (AV.asI .i64 (c0.getD 1 .u)).bind fun n2 =>
 (AV.asI .i64 (c0.getD 2 .u)).bind fun n3 =>
 (AV.asI .i64 (c0.getD 3 .u)).bind fun n4 =>
 (AV.asB (c0.getD 4 .u)).bind fun b5 =>
 let σ6 := σ.bump 1
 let σ7 := σ6.put σ.next (.cells true 115 [(.i .i64 n1), (.i .i64 n2), (.i .i64 n3), (.i .i64 n4), (.b b5)])
 (σ7.ld (.n σ.next) 0).bind fun w8 =>
 (AV.asI .i64 w8).bind fun n9 =>
 (k163 [(.i .i64 n9), (.i .i64 4095)] σ7).bind fun r10 =>
 (AV.asB r10.1).bind fun b11 =>
 ((bif ((!b11) == false) then
 (r10.2.ld (.n σ.next) 1).bind fun w12 =>
 (AV.asI .i64 w12).bind fun n13 =>
 (k163 [(.i .i64 n13), (.i .i64 4095)] r10.2).bind fun r14 =>
 (AV.asB r14.1).bind fun b15 =>
 some ([(.b (!b15))], r14.2)
 else some ([(.b true)], r10.2)) : Option (List AV × AH O)).bind fun r16 =>
 (AV.asB (r16.1.getD 0 .u)).bind fun b17 =>
 (bif b17 then
 some ((.i .i64 20), r16.2)
 else (r16.2.ld (.n σ.next) 2).bind fun w18 =>
 (AV.asI .i64 w18).bind fun n19 =>
 (k163 [(.i .i64 n19), (.i .i64 31)] r16.2).bind fun r20 =>
 (AV.asB r20.1).bind fun b21 =>
 (bif (!b21) then
 some ((.i .i64 21), r20.2)
 else (r20.2.ld (.n σ.next) 3).bind fun w22 =>
 (AV.asI .i64 w22).bind fun n23 =>
 (k163 [(.i .i64 n23), (.i .i64 7)] r20.2).bind fun r24 =>
 (AV.asB r24.1).bind fun b25 =>
 (bif (!b25) then
 some ((.i .i64 2), r24.2)
 else some ((.i .i64 0), r24.2))))
 else none
noncomputable def header_Check {O : Type} : Sm O := header_Check_c header_within
theorem header_Check_ent : Entered Try.prog 147 := Try.call147
theorem header_Check_run {O : Type} (k163 : Sm O) : run (O := O) Try.prog [(163, k163)] Try.f147 (.n .z (.n (.n (.n (.g [(5, 5, [(15, .one .b)])]) (.n .z (.n .z (.n .z (.n .z (.n .z .z)))))) .z) .z)) = header_Check_c k163 := by kernel_rfl
theorem header_Check_sound {O : Type} {RO : O → Loc → (Nat → Option Obj) → Prop} : FSound RO Try.prog 147 (header_Check) :=
   have h : FSound RO Try.prog 147 (header_Check_c header_within) := (header_Check_run header_within) ▸ run_sound (gcons header_within_ent (header_within_sound) <| gnil) mixed Try.func147 (by kernel_rfl) _
   h

/-- haymow/shape.Right -/
noncomputable def shape_Right_c {O : Type} (k147 : Sm O) : Sm O := fun xs σ =>
 bif Nat.beq xs.length 1 then
 (AV.asAgg 2 (xs.getD 0 .u)).bind fun c0 =>
 (AV.asI .i64 (c0.getD 0 .u)).bind fun n1 =>
 (AV.asI .i64 (c0.getD 1 .u)).bind fun n2 =>
 let σ3 := σ.bump 1
 let σ4 := σ3.put σ.next (.cells true 106 [(.i .i64 n1), (.i .i64 n2)])
 (σ4.ld (.n σ.next) 0).bind fun w5 =>
 (AV.asI .i64 w5).bind fun n6 =>
 (σ4.ld (.n σ.next) 1).bind fun w7 =>
 (AV.asI .i64 w7).bind fun n8 =>
 (k147 [(.agg [(.i .i64 n6), (.i .i64 n8), (.i .i64 0), (.i .i64 0), (.b false)])] σ4).bind fun r9 =>
 (AV.asI .i64 r9.1).bind fun n10 =>
 some ((.b ((n10 : Int) == 0)), r9.2)
 else none
noncomputable def shape_Right {O : Type} : Sm O := shape_Right_c header_Check
theorem shape_Right_ent : Entered Try.prog 153 := Try.call153
theorem shape_Right_run {O : Type} (k147 : Sm O) : run (O := O) Try.prog [(147, k147)] Try.f153 (.n .z .z) = shape_Right_c k147 := by kernel_rfl
theorem shape_Right_sound {O : Type} {RO : O → Loc → (Nat → Option Obj) → Prop} : FSound RO Try.prog 153 (shape_Right) :=
   have h : FSound RO Try.prog 153 (shape_Right_c header_Check) := (shape_Right_run header_Check) ▸ run_sound (gcons header_Check_ent (header_Check_sound) <| gnil) mixed Try.func153 (by kernel_rfl) _
   h

/-- haymow/header.Words -/
noncomputable def header_Words_c {O : Type} : Sm O := fun xs σ =>
 bif Nat.beq xs.length 1 then
 (AV.asAgg 5 (xs.getD 0 .u)).bind fun c0 =>
 (AV.asI .i64 (c0.getD 0 .u)).bind fun n1 =>
 (AV.asI .i64 (c0.getD 1 .u)).bind fun n2 =>
 (AV.asI .i64 (c0.getD 2 .u)).bind fun n3 =>
 (AV.asI .i64 (c0.getD 3 .u)).bind fun n4 =>
 (AV.asB (c0.getD 4 .u)).bind fun b5 =>
 let σ6 := σ.bump 1
 let σ7 := σ6.put σ.next (.cells true 115 [(.i .i64 n1), (.i .i64 n2), (.i .i64 n3), (.i .i64 n4), (.b b5)])
 (σ7.ld (.n σ.next) 0).bind fun w8 =>
 (AV.asI .i64 w8).bind fun n9 =>
 (σ7.ld (.n σ.next) 1).bind fun w10 =>
 (AV.asI .i64 w10).bind fun n11 =>
 let v12 : Int := (IntKind.i64.wrap ((IntKind.i64.wrap (1 + n9)) + n11))
 some ((.i .i64 v12), σ7)
 else none
noncomputable def header_Words {O : Type} : Sm O := header_Words_c
theorem header_Words_ent : Entered Try.prog 108 := Try.call108
theorem header_Words_run {O : Type} : run (O := O) Try.prog [] Try.f108 (.n .z .z) = header_Words_c  := by kernel_rfl
theorem header_Words_sound {O : Type} {RO : O → Loc → (Nat → Option Obj) → Prop} : FSound RO Try.prog 108 (header_Words) :=
   have h : FSound RO Try.prog 108 (header_Words_c) := (header_Words_run) ▸ run_sound (gnil) mixed Try.func108 (by kernel_rfl) _
   h

/-- haymow/shape.Words -/
noncomputable def shape_Words_c {O : Type} (k153 k108 : Sm O) : Sm O := fun xs σ =>
 bif Nat.beq xs.length 1 then
 (AV.asAgg 2 (xs.getD 0 .u)).bind fun c0 =>
 (AV.asI .i64 (c0.getD 0 .u)).bind fun n1 =>
 (AV.asI .i64 (c0.getD 1 .u)).bind fun n2 =>
 let σ3 := σ.bump 1
 let σ4 := σ3.put σ.next (.cells true 106 [(.i .i64 n1), (.i .i64 n2)])
 (σ4.ld (.n σ.next) 0).bind fun w5 =>
 (AV.asI .i64 w5).bind fun n6 =>
 (σ4.ld (.n σ.next) 1).bind fun w7 =>
 (AV.asI .i64 w7).bind fun n8 =>
 (k153 [(.agg [(.i .i64 n6), (.i .i64 n8)])] σ4).bind fun r9 =>
 (AV.asB r9.1).bind fun b10 =>
 (bif (!b10) then
 some ((.i .i64 0), r9.2)
 else (r9.2.ld (.n σ.next) 0).bind fun w11 =>
 (AV.asI .i64 w11).bind fun n12 =>
 (r9.2.ld (.n σ.next) 1).bind fun w13 =>
 (AV.asI .i64 w13).bind fun n14 =>
 (k108 [(.agg [(.i .i64 n12), (.i .i64 n14), (.i .i64 0), (.i .i64 0), (.b false)])] r9.2).bind fun r15 =>
 (AV.asI .i64 r15.1).bind fun n16 =>
 some ((.i .i64 n16), r15.2))
 else none
noncomputable def shape_Words {O : Type} : Sm O := shape_Words_c shape_Right header_Words
theorem shape_Words_ent : Entered Try.prog 146 := Try.call146
theorem shape_Words_run {O : Type} (k153 k108 : Sm O) : run (O := O) Try.prog [(153, k153), (108, k108)] Try.f146 (.n .z (.n (.n .z (.n .z .z)) .z)) = shape_Words_c k153 k108 := by kernel_rfl
theorem shape_Words_sound {O : Type} {RO : O → Loc → (Nat → Option Obj) → Prop} : FSound RO Try.prog 146 (shape_Words) :=
   have h : FSound RO Try.prog 146 (shape_Words_c shape_Right header_Words) := (shape_Words_run shape_Right header_Words) ▸ run_sound (gcons shape_Right_ent (shape_Right_sound) <| gcons header_Words_ent (header_Words_sound) <| gnil) mixed Try.func146 (by kernel_rfl) _
   h

/-- haymow/shape.Large -/
noncomputable def shape_Large_c {O : Type} (k146 : Sm O) : Sm O := fun xs σ =>
 bif Nat.beq xs.length 2 then
 (AV.asAgg 2 (xs.getD 0 .u)).bind fun c0 =>
 (AV.asI .i64 (c0.getD 0 .u)).bind fun n1 =>
 (AV.asI .i64 (c0.getD 1 .u)).bind fun n2 =>
 (AV.asI .i64 (xs.getD 1 .u)).bind fun n3 =>
 let σ4 := σ.bump 1
 let σ5 := σ4.put σ.next (.cells true 106 [(.i .i64 n1), (.i .i64 n2)])
 (σ5.ld (.n σ.next) 0).bind fun w6 =>
 (AV.asI .i64 w6).bind fun n7 =>
 (σ5.ld (.n σ.next) 1).bind fun w8 =>
 (AV.asI .i64 w8).bind fun n9 =>
 (k146 [(.agg [(.i .i64 n7), (.i .i64 n9)])] σ5).bind fun r10 =>
 (AV.asI .i64 r10.1).bind fun n11 =>
 some ((.b (decide (n11 > n3))), r10.2)
 else none
noncomputable def shape_Large {O : Type} : Sm O := shape_Large_c shape_Words
theorem shape_Large_ent : Entered Try.prog 106 := Try.call106
theorem shape_Large_run {O : Type} (k146 : Sm O) : run (O := O) Try.prog [(146, k146)] Try.f106 (.n .z .z) = shape_Large_c k146 := by kernel_rfl
theorem shape_Large_sound {O : Type} {RO : O → Loc → (Nat → Option Obj) → Prop} : FSound RO Try.prog 106 (shape_Large) :=
   have h : FSound RO Try.prog 106 (shape_Large_c shape_Words) := (shape_Large_run shape_Words) ▸ run_sound (gcons shape_Words_ent (shape_Words_sound) <| gnil) mixed Try.func106 (by kernel_rfl) _
   h

/-- haymow/header.fields -/
noncomputable def header_fields_L1 {O : Type} (n4 : Int) (n6 : Int) (n8 : Int) (n10 : Int) (n12 : Int) : List AV × AH O → Option ((List AV × AH O) ⊕ (List AV × AH O)) := (fun r13 =>
 (AV.asSl (r13.1.getD 0 .u)).bind fun l14 =>
 (AV.asI .i64 (r13.1.getD 1 .u)).bind fun n15 =>
 (AV.asI .i64 (r13.1.getD 2 .u)).bind fun n16 =>
 (bif (decide (n16 < 5)) then
 (bif ((decide ((0 : Int) ≤ n16)) && (decide (n16 < 5))) then
 (([(.i .i64 n4), (.i .i64 n6), (.i .i64 n8), (.i .i64 n10), (.i .i64 n12)] : List AV)[(n16.toNat * 1)]?).bind fun w17 =>
 (AV.asI .i64 w17).bind fun n18 =>
 let σ19 := r13.2.bump 2
 let σ20 := σ19.put r13.2.next (.cells true 238 [(.i .i64 n15), (.i .i64 n18)])
 (σ20.rdSl (.loc (.n r13.2.next) 0 2) 1 2).bind fun new21 =>
 (bif (Nat.ble ((l14.2 + 1) * 17) 35184372088832) then
 (σ20.appSl (r13.2.next + 1) 238 2 l14.1 l14.2 1 new21).bind fun r22 =>
 (AV.asSl r22.1).bind fun l23 =>
 some (Sum.inl ([(.sl l23.1 l23.2), (.i .i64 (IntKind.i64.wrap (n15 + n18))), (.i .i64 (IntKind.i64.wrap (n16 + 1)))], r22.2))
 else none)
 else none)
 else some (Sum.inr ([(.sl l14.1 l14.2)], r13.2))))
noncomputable def header_fields_c {O : Type} : Sm O := fun xs σ =>
 bif Nat.beq xs.length 0 then
 let σ0 := σ.bump 1
 let σ1 := σ0.put σ.next (.cells true 245 [(.i .i64 0), (.i .i64 0), (.i .i64 0), (.i .i64 0), (.i .i64 0)])
 (σ1.st (.n σ.next) 0 [(.i .i64 12), (.i .i64 12), (.i .i64 5), (.i .i64 3), (.i .i64 1)]).bind fun σ2 =>
 (σ2.ld (.n σ.next) 0).bind fun w3 =>
 (AV.asI .i64 w3).bind fun n4 =>
 (σ2.ld (.n σ.next) 1).bind fun w5 =>
 (AV.asI .i64 w5).bind fun n6 =>
 (σ2.ld (.n σ.next) 2).bind fun w7 =>
 (AV.asI .i64 w7).bind fun n8 =>
 (σ2.ld (.n σ.next) 3).bind fun w9 =>
 (AV.asI .i64 w9).bind fun n10 =>
 (σ2.ld (.n σ.next) 4).bind fun w11 =>
 (AV.asI .i64 w11).bind fun n12 =>
 (loopF (S := List AV × AH O) (T := List AV × AH O) (header_fields_L1 n4 n6 n8 n10 n12) ([(.sl .nil 0), (.i .i64 0), (.i .i64 0)], σ2)).bind fun r24 =>
 (AV.asSl (r24.1.getD 0 .u)).bind fun l25 =>
 let σ26 := r24.2.bump 2
 let σ27 := σ26.put r24.2.next (.cells true 238 [(.i .i64 62), (.i .i64 1)])
 (σ27.rdSl (.loc (.n r24.2.next) 0 2) 1 2).bind fun new28 =>
 (bif (Nat.ble ((l25.2 + 1) * 17) 35184372088832) then
 (σ27.appSl (r24.2.next + 1) 238 2 l25.1 l25.2 1 new28).bind fun r29 =>
 (AV.asSl r29.1).bind fun l30 =>
 some ((.sl l30.1 l30.2), r29.2)
 else none)
 else none
noncomputable def header_fields {O : Type} : Sm O := header_fields_c
theorem header_fields_ent : Entered Try.prog 149 := Try.call149
theorem header_fields_run {O : Type} : run (O := O) Try.prog [] Try.f149 (.n .z (.n .z (.n .z (.n .z (.n (.n .z (.n (.lp false 0 [(2, .one .sl), (3, .one (.i .i64)), (8, .one (.i .i64))] [(2, .one .sl)] (.n .z (.n .z (.n (.n (.n .z .z) .z) .z)))) .z)) .z))))) = header_fields_c  := by kernel_rfl
theorem header_fields_sound {O : Type} {RO : O → Loc → (Nat → Option Obj) → Prop} : FSound RO Try.prog 149 (header_fields) :=
   have h : FSound RO Try.prog 149 (header_fields_c) := (header_fields_run) ▸ run_sound (gnil) mixed Try.func149 (by kernel_rfl) _
   h

/-- haymow/field.Right -/
noncomputable def field_Right_c {O : Type} : Sm O := fun xs σ =>
 bif Nat.beq xs.length 1 then
 (AV.asAgg 2 (xs.getD 0 .u)).bind fun c0 =>
 (AV.asI .i64 (c0.getD 0 .u)).bind fun n1 =>
 (AV.asI .i64 (c0.getD 1 .u)).bind fun n2 =>
 let σ3 := σ.bump 1
 let σ4 := σ3.put σ.next (.cells true 238 [(.i .i64 n1), (.i .i64 n2)])
 (σ4.ld (.n σ.next) 1).bind fun w5 =>
 (AV.asI .i64 w5).bind fun n6 =>
 ((bif ((decide (n6 ≥ 1)) == true) then
 (σ4.ld (.n σ.next) 1).bind fun w7 =>
 (AV.asI .i64 w7).bind fun n8 =>
 some ([(.b (decide (n8 ≤ 64)))], σ4)
 else some ([(.b false)], σ4)) : Option (List AV × AH O)).bind fun r9 =>
 (AV.asB (r9.1.getD 0 .u)).bind fun b10 =>
 ((bif (b10 == true) then
 (r9.2.ld (.n σ.next) 0).bind fun w11 =>
 (AV.asI .i64 w11).bind fun n12 =>
 some ([(.b (decide (n12 ≥ 0)))], r9.2)
 else some ([(.b false)], r9.2)) : Option (List AV × AH O)).bind fun r13 =>
 (AV.asB (r13.1.getD 0 .u)).bind fun b14 =>
 ((bif (b14 == true) then
 (r13.2.ld (.n σ.next) 0).bind fun w15 =>
 (AV.asI .i64 w15).bind fun n16 =>
 (r13.2.ld (.n σ.next) 1).bind fun w17 =>
 (AV.asI .i64 w17).bind fun n18 =>
 some ([(.b (decide (n16 ≤ (IntKind.i64.wrap (64 - n18)))))], r13.2)
 else some ([(.b false)], r13.2)) : Option (List AV × AH O)).bind fun r19 =>
 (AV.asB (r19.1.getD 0 .u)).bind fun b20 =>
 some ((.b b20), r19.2)
 else none
noncomputable def field_Right {O : Type} : Sm O := field_Right_c
theorem field_Right_ent : Entered Try.prog 167 := Try.call167
theorem field_Right_run {O : Type} : run (O := O) Try.prog [] Try.f167 (.n .z (.n (.g [(3, 3, [(10, .one .b)]), (8, 3, [(15, .one .b)]), (13, 6, [(23, .one .b)])]) .z)) = field_Right_c  := by kernel_rfl
theorem field_Right_sound {O : Type} {RO : O → Loc → (Nat → Option Obj) → Prop} : FSound RO Try.prog 167 (field_Right) :=
   have h : FSound RO Try.prog 167 (field_Right_c) := (field_Right_run) ▸ run_sound (gnil) mixed Try.func167 (by kernel_rfl) _
   h

/-- haymow/field.Mask -/
noncomputable def field_Mask_c {O : Type} (k167 : Sm O) : Sm O := fun xs σ =>
 bif Nat.beq xs.length 1 then
 (AV.asAgg 2 (xs.getD 0 .u)).bind fun c0 =>
 (AV.asI .i64 (c0.getD 0 .u)).bind fun n1 =>
 (AV.asI .i64 (c0.getD 1 .u)).bind fun n2 =>
 let σ3 := σ.bump 1
 let σ4 := σ3.put σ.next (.cells true 238 [(.i .i64 n1), (.i .i64 n2)])
 (σ4.ld (.n σ.next) 0).bind fun w5 =>
 (AV.asI .i64 w5).bind fun n6 =>
 (σ4.ld (.n σ.next) 1).bind fun w7 =>
 (AV.asI .i64 w7).bind fun n8 =>
 (k167 [(.agg [(.i .i64 n6), (.i .i64 n8)])] σ4).bind fun r9 =>
 (AV.asB r9.1).bind fun b10 =>
 (bif (!b10) then
 some ((.i .u64 0), r9.2)
 else (r9.2.ld (.n σ.next) 1).bind fun w11 =>
 (AV.asI .i64 w11).bind fun n12 =>
 (bif (decide ((IntKind.i64.wrap (64 - n12)) < 0)) then
 none
 else let v13 : Int := (Int.fdiv 18446744073709551615 (2 ^ min (IntKind.i64.wrap (64 - n12)).toNat 64))
 (r9.2.ld (.n σ.next) 0).bind fun w14 =>
 (AV.asI .i64 w14).bind fun n15 =>
 (bif (decide (n15 < 0)) then
 none
 else some ((.i .u64 (IntKind.u64.wrap (v13 * 2 ^ min n15.toNat 64))), r9.2))))
 else none
noncomputable def field_Mask {O : Type} : Sm O := field_Mask_c field_Right
theorem field_Mask_ent : Entered Try.prog 168 := Try.call168
theorem field_Mask_run {O : Type} (k167 : Sm O) : run (O := O) Try.prog [(167, k167)] Try.f168 (.n .z (.n (.n .z (.n .z .z)) (.n (.d [] [0, 1, 2, 3, 4, 5, 6, 7] [0, 1, 3, 7, 0, 16, 63, 127]) .z))) = field_Mask_c k167 := by kernel_rfl
theorem field_Mask_sound {O : Type} {RO : O → Loc → (Nat → Option Obj) → Prop} : FSound RO Try.prog 168 (field_Mask) :=
   have h : FSound RO Try.prog 168 (field_Mask_c field_Right) := (field_Mask_run field_Right) ▸ run_sound (gcons field_Right_ent (field_Right_sound) <| gnil) mixed Try.func168 (by kernel_rfl) _
   h

/-- haymow/field.Apart -/
noncomputable def field_Apart_L1 {O : Type} (l0 : SA × Nat) (k168 : Sm O) : List AV × AH O → Option ((List AV × AH O) ⊕ ((List AV × AH O) ⊕ (AV × AH O))) := (fun r1 =>
 (AV.asI .u64 (r1.1.getD 0 .u)).bind fun n2 =>
 (AV.asI .i64 (r1.1.getD 1 .u)).bind fun n3 =>
 (bif (decide (n3 < (l0.2 : Int))) then
 let σ4 := r1.2.bump 1
 (bif ((decide ((0 : Int) ≤ n3)) && (decide (n3 < (l0.2 : Int)))) then
 (SA.ref l0.1).bind fun q5 =>
 (σ4.ld q5.1 (q5.2 + (n3.toNat * 2))).bind fun w6 =>
 (AV.asI .i64 w6).bind fun n7 =>
 (σ4.ld q5.1 ((q5.2 + (n3.toNat * 2)) + 1)).bind fun w8 =>
 (AV.asI .i64 w8).bind fun n9 =>
 let σ10 := σ4.put r1.2.next (.cells true 238 [(.i .i64 0), (.i .i64 0)])
 (σ10.st (.n r1.2.next) 0 [(.i .i64 n7), (.i .i64 n9)]).bind fun σ11 =>
 (σ11.ld (.n r1.2.next) 0).bind fun w12 =>
 (AV.asI .i64 w12).bind fun n13 =>
 (σ11.ld (.n r1.2.next) 1).bind fun w14 =>
 (AV.asI .i64 w14).bind fun n15 =>
 (k168 [(.agg [(.i .i64 n13), (.i .i64 n15)])] σ11).bind fun r16 =>
 (AV.asI .u64 r16.1).bind fun n17 =>
 ((bif (((n17 : Int) == 0) == false) then
 some ([(.b (((ibits .and .u64 n2 n17) : Int) != 0))], r16.2)
 else some ([(.b true)], r16.2)) : Option (List AV × AH O)).bind fun r18 =>
 (AV.asB (r18.1.getD 0 .u)).bind fun b19 =>
 (bif b19 then
 ((some ((.b false), r18.2) : Option (AV × AH O)).map fun r => Sum.inr (Sum.inr r))
 else some (Sum.inl ([(.i .u64 (ibits .or .u64 n2 n17)), (.i .i64 (IntKind.i64.wrap (n3 + 1)))], r18.2)))
 else none)
 else some (Sum.inr (Sum.inl ([], r1.2)))))
noncomputable def field_Apart_c {O : Type} (k168 : Sm O) : Sm O := fun xs σ =>
 bif Nat.beq xs.length 1 then
 (AV.asSl (xs.getD 0 .u)).bind fun l0 =>
 bindS (S := List AV × AH O) (R := (AV × AH O)) (loopF (S := List AV × AH O) (T := (List AV × AH O) ⊕ (AV × AH O)) (field_Apart_L1 l0 k168) ([(.i .u64 0), (.i .i64 0)], σ)) fun r20 =>
 some ((.b true), r20.2)
 else none
noncomputable def field_Apart {O : Type} : Sm O := field_Apart_c field_Mask
theorem field_Apart_ent : Entered Try.prog 164 := Try.call164
theorem field_Apart_run {O : Type} (k168 : Sm O) : run (O := O) Try.prog [(168, k168)] Try.f164 (.n .z (.n .z (.n (.n .z (.n (.lp true 0 [(3, .one (.i .u64)), (9, .one (.i .i64))] [] (.n .z (.n .z (.n (.n (.n .z (.n .z (.n (.n (.g [(2, 4, [(22, .one .b)])]) (.n .z .z)) .z))) .z) .z)))) .z)) .z))) = field_Apart_c k168 := by kernel_rfl
theorem field_Apart_sound {O : Type} {RO : O → Loc → (Nat → Option Obj) → Prop} : FSound RO Try.prog 164 (field_Apart) :=
   have h : FSound RO Try.prog 164 (field_Apart_c field_Mask) := (field_Apart_run field_Mask) ▸ run_sound (gcons field_Mask_ent (field_Mask_sound) <| gnil) mixed Try.func164 (by kernel_rfl) _
   h

/-- math/bits.Len64 -/
noncomputable def bits_Len64_c {O : Type} : Sm O := fun xs σ =>
 bif Nat.beq xs.length 1 then
 (AV.asI .u64 (xs.getD 0 .u)).bind fun n0 =>
 ((bif (decide (n0 ≥ 4294967296)) then
 some ([(.i .u64 (Int.fdiv n0 (2 ^ 32))), (.i .i64 32)], σ)
 else some ([(.i .u64 n0), (.i .i64 0)], σ)) : Option (List AV × AH O)).bind fun r1 =>
 (AV.asI .u64 (r1.1.getD 0 .u)).bind fun n2 =>
 (AV.asI .i64 (r1.1.getD 1 .u)).bind fun n3 =>
 ((bif (decide (n2 ≥ 65536)) then
 some ([(.i .u64 (Int.fdiv n2 (2 ^ 16))), (.i .i64 (IntKind.i64.wrap (n3 + 16)))], r1.2)
 else some ([(.i .u64 n2), (.i .i64 n3)], r1.2)) : Option (List AV × AH O)).bind fun r4 =>
 (AV.asI .u64 (r4.1.getD 0 .u)).bind fun n5 =>
 (AV.asI .i64 (r4.1.getD 1 .u)).bind fun n6 =>
 ((bif (decide (n5 ≥ 256)) then
 some ([(.i .u64 (Int.fdiv n5 (2 ^ 8))), (.i .i64 (IntKind.i64.wrap (n6 + 8)))], r4.2)
 else some ([(.i .u64 n5), (.i .i64 n6)], r4.2)) : Option (List AV × AH O)).bind fun r7 =>
 (AV.asI .u64 (r7.1.getD 0 .u)).bind fun n8 =>
 (AV.asI .i64 (r7.1.getD 1 .u)).bind fun n9 =>
 (bif (decide ((0 : Int) ≤ (IntKind.u8.wrap n8))) then
 (([0, 1, 2, 2, 3, 3, 3, 3, 4, 4, 4, 4, 4, 4, 4, 4, 5, 5, 5, 5, 5, 5, 5, 5, 5, 5, 5, 5, 5, 5, 5, 5, 6, 6, 6, 6, 6, 6, 6, 6, 6, 6, 6, 6, 6, 6, 6, 6, 6, 6, 6, 6, 6, 6, 6, 6, 6, 6, 6, 6, 6, 6, 6, 6, 7, 7, 7, 7, 7, 7, 7, 7, 7, 7, 7, 7, 7, 7, 7, 7, 7, 7, 7, 7, 7, 7, 7, 7, 7, 7, 7, 7, 7, 7, 7, 7, 7, 7, 7, 7, 7, 7, 7, 7, 7, 7, 7, 7, 7, 7, 7, 7, 7, 7, 7, 7, 7, 7, 7, 7, 7, 7, 7, 7, 7, 7, 7, 7, 8, 8, 8, 8, 8, 8, 8, 8, 8, 8, 8, 8, 8, 8, 8, 8, 8, 8, 8, 8, 8, 8, 8, 8, 8, 8, 8, 8, 8, 8, 8, 8, 8, 8, 8, 8, 8, 8, 8, 8, 8, 8, 8, 8, 8, 8, 8, 8, 8, 8, 8, 8, 8, 8, 8, 8, 8, 8, 8, 8, 8, 8, 8, 8, 8, 8, 8, 8, 8, 8, 8, 8, 8, 8, 8, 8, 8, 8, 8, 8, 8, 8, 8, 8, 8, 8, 8, 8, 8, 8, 8, 8, 8, 8, 8, 8, 8, 8, 8, 8, 8, 8, 8, 8, 8, 8, 8, 8, 8, 8, 8, 8, 8, 8, 8, 8, 8, 8, 8, 8, 8, 8, 8, 8, 8, 8, 8, 8] : List UInt8)[(IntKind.u8.wrap n8).toNat]?).bind fun y10 =>
 let v11 : Int := (IntKind.i64.wrap (n9 + (IntKind.i64.wrap (y10.toNat : Int))))
 some ((.i .i64 v11), r7.2)
 else none)
 else none
noncomputable def bits_Len64 {O : Type} : Sm O := bits_Len64_c
theorem bits_Len64_ent : Entered Try.prog 170 := Try.call170
theorem bits_Len64_run {O : Type} : run (O := O) Try.prog [] Try.f170 (.n .z (.n (.n .z (.j false [(0, .one (.i .u64)), (2, .one (.i .i64))] .z .z)) (.n (.n .z (.j false [(0, .one (.i .u64)), (2, .one (.i .i64))] .z .z)) (.n (.n .z (.j false [(0, .one (.i .u64)), (2, .one (.i .i64))] .z .z)) .z)))) = bits_Len64_c  := by kernel_rfl
theorem bits_Len64_sound {O : Type} {RO : O → Loc → (Nat → Option Obj) → Prop} : FSound RO Try.prog 170 (bits_Len64) :=
   have h : FSound RO Try.prog 170 (bits_Len64_c) := (bits_Len64_run) ▸ run_sound (gnil) mixed Try.func170 (by kernel_rfl) _
   h

/-- haymow/field.Put -/
noncomputable def field_Put_c {O : Type} (k167 k170 k168 : Sm O) : Sm O := fun xs σ =>
 bif Nat.beq xs.length 3 then
 (AV.asI .u64 (xs.getD 0 .u)).bind fun n0 =>
 (AV.asAgg 2 (xs.getD 1 .u)).bind fun c1 =>
 (AV.asI .i64 (c1.getD 0 .u)).bind fun n2 =>
 (AV.asI .i64 (c1.getD 1 .u)).bind fun n3 =>
 (AV.asI .u64 (xs.getD 2 .u)).bind fun n4 =>
 let σ5 := σ.bump 1
 let σ6 := σ5.put σ.next (.cells true 238 [(.i .i64 n2), (.i .i64 n3)])
 (σ6.ld (.n σ.next) 0).bind fun w7 =>
 (AV.asI .i64 w7).bind fun n8 =>
 (σ6.ld (.n σ.next) 1).bind fun w9 =>
 (AV.asI .i64 w9).bind fun n10 =>
 (k167 [(.agg [(.i .i64 n8), (.i .i64 n10)])] σ6).bind fun r11 =>
 (AV.asB r11.1).bind fun b12 =>
 (bif (!b12) then
 some ((.tup [(.i .u64 0), (.i .i64 1)]), r11.2)
 else (r11.2.ld (.n σ.next) 1).bind fun w13 =>
 (AV.asI .i64 w13).bind fun n14 =>
 (k170 [(.i .u64 n4)] r11.2).bind fun r15 =>
 (AV.asI .i64 r15.1).bind fun n16 =>
 (chkE (r15.2.ld (.n σ.next) 1) (some (.i .i64 n14))).bind fun _ =>
 (bif (decide (n16 > n14)) then
 some ((.tup [(.i .u64 0), (.i .i64 2)]), r15.2)
 else (r15.2.ld (.n σ.next) 0).bind fun w17 =>
 (AV.asI .i64 w17).bind fun n18 =>
 (r15.2.ld (.n σ.next) 1).bind fun w19 =>
 (AV.asI .i64 w19).bind fun n20 =>
 (r15.2.ld (.n σ.next) 0).bind fun w21 =>
 (AV.asI .i64 w21).bind fun n22 =>
 (bif (decide (n22 < 0)) then
 none
 else (k168 [(.agg [(.i .i64 n18), (.i .i64 n20)])] r15.2).bind fun r23 =>
 (AV.asI .u64 r23.1).bind fun n24 =>
 (chkE (r23.2.ld (.n σ.next) 0) (some (.i .i64 n22))).bind fun _ =>
 let v25 : Int := (ibits .or .u64 (ibits .andNot .u64 n0 n24) (IntKind.u64.wrap (n4 * 2 ^ min n22.toNat 64)))
 some ((.tup [(.i .u64 v25), (.i .i64 0)]), r23.2))))
 else none
noncomputable def field_Put {O : Type} : Sm O := field_Put_c field_Right bits_Len64 field_Mask
theorem field_Put_ent : Entered Try.prog 165 := Try.call165
theorem field_Put_run {O : Type} (k167 k170 k168 : Sm O) : run (O := O) Try.prog [(167, k167), (170, k170), (168, k168)] Try.f165 (.n .z (.n (.n (.n .z (.n .z (.n (.d [] [0, 2, 3, 1, 4, 5] [0, 1, 0, 4, 15, 31]) (.n .z .z)))) .z) (.n (.d [] [0, 1, 4, 5, 6, 7, 2, 3, 8, 9, 10] [0, 0, 2, 7, 0, 0, 32, 112, 255, 511, 1023]) .z))) = field_Put_c k167 k170 k168 := by kernel_rfl
theorem field_Put_sound {O : Type} {RO : O → Loc → (Nat → Option Obj) → Prop} : FSound RO Try.prog 165 (field_Put) :=
   have h : FSound RO Try.prog 165 (field_Put_c field_Right bits_Len64 field_Mask) := (field_Put_run field_Right bits_Len64 field_Mask) ▸ run_sound (gcons field_Right_ent (field_Right_sound) <| gcons bits_Len64_ent (bits_Len64_sound) <| gcons field_Mask_ent (field_Mask_sound) <| gnil) mixed Try.func165 (by kernel_rfl) _
   h

/-- haymow/field.Pack -/
noncomputable def field_Pack_L1 {O : Type} (l0 : SA × Nat) (l1 : SA × Nat) (k165 : Sm O) : List AV × AH O → Option ((List AV × AH O) ⊕ ((List AV × AH O) ⊕ (AV × AH O))) := (fun r6 =>
 (AV.asI .u64 (r6.1.getD 0 .u)).bind fun n7 =>
 (AV.asI .i64 (r6.1.getD 1 .u)).bind fun n8 =>
 (bif (decide (n8 < (l0.2 : Int))) then
 let σ9 := r6.2.bump 1
 (bif ((decide ((0 : Int) ≤ n8)) && (decide (n8 < (l0.2 : Int)))) then
 (SA.ref l0.1).bind fun q10 =>
 (σ9.ld q10.1 (q10.2 + (n8.toNat * 2))).bind fun w11 =>
 (AV.asI .i64 w11).bind fun n12 =>
 (σ9.ld q10.1 ((q10.2 + (n8.toNat * 2)) + 1)).bind fun w13 =>
 (AV.asI .i64 w13).bind fun n14 =>
 let σ15 := σ9.put r6.2.next (.cells true 238 [(.i .i64 0), (.i .i64 0)])
 (σ15.st (.n r6.2.next) 0 [(.i .i64 n12), (.i .i64 n14)]).bind fun σ16 =>
 (σ16.ld (.n r6.2.next) 0).bind fun w17 =>
 (AV.asI .i64 w17).bind fun n18 =>
 (σ16.ld (.n r6.2.next) 1).bind fun w19 =>
 (AV.asI .i64 w19).bind fun n20 =>
 (bif ((decide ((0 : Int) ≤ n8)) && (decide (n8 < (l1.2 : Int)))) then
 (SA.ref l1.1).bind fun q21 =>
 (σ16.ld q21.1 (q21.2 + (n8.toNat * 1))).bind fun w22 =>
 (AV.asI .u64 w22).bind fun n23 =>
 (k165 [(.i .u64 n7), (.agg [(.i .i64 n18), (.i .i64 n20)]), (.i .u64 n23)] σ16).bind fun r24 =>
 (AV.asTup 2 r24.1).bind fun c25 =>
 (AV.asI .u64 (c25.getD 0 .u)).bind fun n26 =>
 (AV.asI .i64 (c25.getD 1 .u)).bind fun n27 =>
 (bif ((n27 : Int) != 0) then
 ((some ((.tup [(.i .u64 0), (.i .i64 n27)]), r24.2) : Option (AV × AH O)).map fun r => Sum.inr (Sum.inr r))
 else some (Sum.inl ([(.i .u64 n26), (.i .i64 (IntKind.i64.wrap (n8 + 1)))], r24.2)))
 else none)
 else none)
 else some (Sum.inr (Sum.inl ([(.i .u64 n7)], r6.2)))))
noncomputable def field_Pack_c {O : Type} (k164 k165 : Sm O) : Sm O := fun xs σ =>
 bif Nat.beq xs.length 2 then
 (AV.asSl (xs.getD 0 .u)).bind fun l0 =>
 (AV.asSl (xs.getD 1 .u)).bind fun l1 =>
 (k164 [(.sl l0.1 l0.2)] σ).bind fun r2 =>
 (AV.asB r2.1).bind fun b3 =>
 ((bif ((!b3) == false) then
 some ([(.b (((l0.2 : Int) : Int) != (l1.2 : Int)))], r2.2)
 else some ([(.b true)], r2.2)) : Option (List AV × AH O)).bind fun r4 =>
 (AV.asB (r4.1.getD 0 .u)).bind fun b5 =>
 (bif b5 then
 some ((.tup [(.i .u64 0), (.i .i64 1)]), r4.2)
 else bindS (S := List AV × AH O) (R := (AV × AH O)) (loopF (S := List AV × AH O) (T := (List AV × AH O) ⊕ (AV × AH O)) (field_Pack_L1 l0 l1 k165) ([(.i .u64 0), (.i .i64 0)], r4.2)) fun r28 =>
 (AV.asI .u64 (r28.1.getD 0 .u)).bind fun n29 =>
 some ((.tup [(.i .u64 n29), (.i .i64 0)]), r28.2))
 else none
noncomputable def field_Pack {O : Type} : Sm O := field_Pack_c field_Apart field_Put
theorem field_Pack_ent : Entered Try.prog 148 := Try.call148
theorem field_Pack_run {O : Type} (k164 k165 : Sm O) : run (O := O) Try.prog [(164, k164), (165, k165)] Try.f148 (.n .z (.n (.n (.g [(3, 5, [(20, .one .b)])]) (.n .z .z)) (.n .z (.n (.n .z (.n (.lp true 0 [(6, .one (.i .u64)), (23, .one (.i .i64))] [(6, .one (.i .u64))] (.n .z (.n .z (.n (.n (.n .z (.n (.d [] [0, 1, 2, 3, 4, 5, 6, 7, 8, 9, 10, 11] [0, 0, 0, 0, 12, 28, 63, 127, 255, 255, 511, 2047]) (.n (.n .z (.n .z .z)) .z))) .z) .z)))) .z)) .z)))) = field_Pack_c k164 k165 := by kernel_rfl
theorem field_Pack_sound {O : Type} {RO : O → Loc → (Nat → Option Obj) → Prop} : FSound RO Try.prog 148 (field_Pack) :=
   have h : FSound RO Try.prog 148 (field_Pack_c field_Apart field_Put) := (field_Pack_run field_Apart field_Put) ▸ run_sound (gcons field_Apart_ent (field_Apart_sound) <| gcons field_Put_ent (field_Put_sound) <| gnil) mixed Try.func148 (by kernel_rfl) _
   h

/-- haymow/header.Pack -/
noncomputable def header_Pack_c {O : Type} (k147 k149 k148 : Sm O) : Sm O := fun xs σ =>
 bif Nat.beq xs.length 1 then
 (AV.asAgg 5 (xs.getD 0 .u)).bind fun c0 =>
 (AV.asI .i64 (c0.getD 0 .u)).bind fun n1 =>
 (AV.asI .i64 (c0.getD 1 .u)).bind fun n2 =>
 (AV.asI .i64 (c0.getD 2 .u)).bind fun n3 =>
 (AV.asI .i64 (c0.getD 3 .u)).bind fun n4 =>
 (AV.asB (c0.getD 4 .u)).bind fun b5 =>
 let σ6 := σ.bump 1
 let σ7 := σ6.put σ.next (.cells true 115 [(.i .i64 n1), (.i .i64 n2), (.i .i64 n3), (.i .i64 n4), (.b b5)])
 (σ7.ld (.n σ.next) 0).bind fun w8 =>
 (AV.asI .i64 w8).bind fun n9 =>
 (σ7.ld (.n σ.next) 1).bind fun w10 =>
 (AV.asI .i64 w10).bind fun n11 =>
 (σ7.ld (.n σ.next) 2).bind fun w12 =>
 (AV.asI .i64 w12).bind fun n13 =>
 (σ7.ld (.n σ.next) 3).bind fun w14 =>
 (AV.asI .i64 w14).bind fun n15 =>
 (σ7.ld (.n σ.next) 4).bind fun w16 =>
 (AV.asB w16).bind fun b17 =>
 (k147 [(.agg [(.i .i64 n9), (.i .i64 n11), (.i .i64 n13), (.i .i64 n15), (.b b17)])] σ7).bind fun r18 =>
 (AV.asI .i64 r18.1).bind fun n19 =>
 (bif ((n19 : Int) != 0) then
 some ((.tup [(.i .u64 0), (.i .i64 n19)]), r18.2)
 else (r18.2.ld (.n σ.next) 4).bind fun w20 =>
 (AV.asB w20).bind fun b21 =>
 ((bif b21 then
 some ([(.i .u64 1)], r18.2)
 else some ([(.i .u64 0)], r18.2)) : Option (List AV × AH O)).bind fun r22 =>
 (AV.asI .u64 (r22.1.getD 0 .u)).bind fun n23 =>
 let σ24 := r22.2.bump 1
 (σ24.ld (.n σ.next) 0).bind fun w25 =>
 (AV.asI .i64 w25).bind fun n26 =>
 (σ24.ld (.n σ.next) 1).bind fun w27 =>
 (AV.asI .i64 w27).bind fun n28 =>
 (σ24.ld (.n σ.next) 2).bind fun w29 =>
 (AV.asI .i64 w29).bind fun n30 =>
 (σ24.ld (.n σ.next) 3).bind fun w31 =>
 (AV.asI .i64 w31).bind fun n32 =>
 (k149 [] σ24).bind fun r33 =>
 (AV.asSl r33.1).bind fun l34 =>
 (chkE (r33.2.ld (.n σ.next) 0) (some (.i .i64 n26))).bind fun _ =>
 (chkE (r33.2.ld (.n σ.next) 1) (some (.i .i64 n28))).bind fun _ =>
 (chkE (r33.2.ld (.n σ.next) 2) (some (.i .i64 n30))).bind fun _ =>
 (chkE (r33.2.ld (.n σ.next) 3) (some (.i .i64 n32))).bind fun _ =>
 let σ35 := r33.2.put r22.2.next (.cells true 36 [(.i .u64 (IntKind.u64.wrap n26)), (.i .u64 (IntKind.u64.wrap n28)), (.i .u64 (IntKind.u64.wrap n30)), (.i .u64 (IntKind.u64.wrap n32)), (.i .u64 n23), (.i .u64 1)])
 (k148 [(.sl l34.1 l34.2), (.sl (.loc (.n r22.2.next) 0 1) 6)] σ35).bind fun r36 =>
 (AV.asTup 2 r36.1).bind fun c37 =>
 (AV.asI .u64 (c37.getD 0 .u)).bind fun n38 =>
 (AV.asI .i64 (c37.getD 1 .u)).bind fun n39 =>
 some ((.tup [(.i .u64 n38), (.i .i64 n39)]), r36.2))
 else none
noncomputable def header_Pack {O : Type} : Sm O := header_Pack_c header_Check header_fields field_Pack
theorem header_Pack_ent : Entered Try.prog 107 := Try.call107
theorem header_Pack_run {O : Type} (k147 k149 k148 : Sm O) : run (O := O) Try.prog [(147, k147), (149, k149), (148, k148)] Try.f107 (.n .z (.n (.n .z (.n .z (.n .z .z))) (.n .z (.n (.n .z (.j false [(5, .one (.i .u64))] .z .z)) (.n (.d [] [1, 2, 3, 4, 5, 6, 7, 8, 9, 10, 11, 12, 13, 14, 15, 0, 16, 17, 18, 19, 20, 21] [0, 0, 2, 6, 14, 0, 32, 96, 224, 0, 512, 1536, 0, 4096, 12288, 0, 65534, 131071, 262143, 262143, 1048575, 2097151]) .z))))) = header_Pack_c k147 k149 k148 := by kernel_rfl
theorem header_Pack_sound {O : Type} {RO : O → Loc → (Nat → Option Obj) → Prop} : FSound RO Try.prog 107 (header_Pack) :=
   have h : FSound RO Try.prog 107 (header_Pack_c header_Check header_fields field_Pack) := (header_Pack_run header_Check header_fields field_Pack) ▸ run_sound (gcons header_Check_ent (header_Check_sound) <| gcons header_fields_ent (header_fields_sound) <| gcons field_Pack_ent (field_Pack_sound) <| gnil) mixed Try.func107 (by kernel_rfl) _
   h

/-- (*haymow/pool.Pool).width -/
noncomputable def pool_Pool__width_c {O : Type} : Sm O := fun xs σ =>
 bif Nat.beq xs.length 1 then
 (AV.asP (xs.getD 0 .u)).bind fun p0 =>
 Option.bind p0 fun q1 =>
 (σ.ld q1.1 (q1.2 + 2)).bind fun w2 =>
 (AV.asI .i64 w2).bind fun n3 =>
 some ((.i .i64 (IntKind.i64.wrap (n3 + 1))), σ)
 else none
noncomputable def pool_Pool__width {O : Type} : Sm O := pool_Pool__width_c
theorem pool_Pool__width_ent : Entered Try.prog 155 := Try.call155
theorem pool_Pool__width_run {O : Type} : run (O := O) Try.prog [] Try.f155 (.n .z .z) = pool_Pool__width_c  := by kernel_rfl
theorem pool_Pool__width_sound {O : Type} {RO : O → Loc → (Nat → Option Obj) → Prop} : FSound RO Try.prog 155 (pool_Pool__width) :=
   have h : FSound RO Try.prog 155 (pool_Pool__width_c) := (pool_Pool__width_run) ▸ run_sound (gnil) mixed Try.func155 (by kernel_rfl) _
   h

/-- (*haymow/mem.Mem).at -/
noncomputable def mem_Mem__at_c {O : Type} : Sm O := fun xs σ =>
 bif Nat.beq xs.length 2 then
 (AV.asP (xs.getD 0 .u)).bind fun p0 =>
 (AV.asI .i64 (xs.getD 1 .u)).bind fun n1 =>
 ((bif ((decide (n1 < 0)) == false) then
 Option.bind p0 fun q2 =>
 (σ.ld q2.1 (q2.2 + 1)).bind fun w3 =>
 (AV.asSl w3).bind fun l4 =>
 some ([(.b (decide (n1 ≥ (l4.2 : Int))))], σ)
 else some ([(.b true)], σ)) : Option (List AV × AH O)).bind fun r5 =>
 (AV.asB (r5.1.getD 0 .u)).bind fun b6 =>
 ((bif (b6 == false) then
 Option.bind p0 fun q7 =>
 (r5.2.ld q7.1 (q7.2 + 1)).bind fun w8 =>
 (AV.asSl w8).bind fun l9 =>
 (bif ((decide ((0 : Int) ≤ n1)) && (decide (n1 < (l9.2 : Int)))) then
 (SA.ref l9.1).bind fun q10 =>
 (r5.2.ld q10.1 ((q10.2 + (n1.toNat * 2)) + 1)).bind fun w11 =>
 (AV.asB w11).bind fun b12 =>
 some ([(.b (!b12))], r5.2)
 else none)
 else some ([(.b true)], r5.2)) : Option (List AV × AH O)).bind fun r13 =>
 (AV.asB (r13.1.getD 0 .u)).bind fun b14 =>
 (bif b14 then
 some ((.p none), r13.2)
 else Option.bind p0 fun q15 =>
 (r13.2.ld q15.1 (q15.2 + 1)).bind fun w16 =>
 (AV.asSl w16).bind fun l17 =>
 (bif ((decide ((0 : Int) ≤ n1)) && (decide (n1 < (l17.2 : Int)))) then
 (SA.ref l17.1).bind fun q18 =>
 some ((.p (some (q18.1, (q18.2 + (n1.toNat * 2))))), r13.2)
 else none))
 else none
noncomputable def mem_Mem__at {O : Type} : Sm O := mem_Mem__at_c
theorem mem_Mem__at_ent : Entered Try.prog 138 := Try.call138
theorem mem_Mem__at_run {O : Type} : run (O := O) Try.prog [] Try.f138 (.n .z (.n (.n (.g [(2, 7, [(15, .one .b)]), (11, 9, [(26, .one .b)])]) (.n .z .z)) .z)) = mem_Mem__at_c  := by kernel_rfl
theorem mem_Mem__at_sound {O : Type} {RO : O → Loc → (Nat → Option Obj) → Prop} : FSound RO Try.prog 138 (mem_Mem__at) :=
   have h : FSound RO Try.prog 138 (mem_Mem__at_c) := (mem_Mem__at_run) ▸ run_sound (gnil) mixed Try.func138 (by kernel_rfl) _
   h

/-- (*haymow/mem.Mem).Grow -/
noncomputable def mem_Mem__Grow_c {O : Type} (k138 k137 : Sm O) : Sm O := fun xs σ =>
 bif Nat.beq xs.length 3 then
 (AV.asP (xs.getD 0 .u)).bind fun p0 =>
 (AV.asI .i64 (xs.getD 1 .u)).bind fun n1 =>
 (AV.asI .i64 (xs.getD 2 .u)).bind fun n2 =>
 (k138 [(.p p0), (.i .i64 n1)] σ).bind fun r3 =>
 (AV.asP r3.1).bind fun p4 =>
 (bif (Option.isNone p4) then
 some ((.i .i64 10), r3.2)
 else Option.bind p4 fun q5 =>
 (r3.2.ld q5.1 q5.2).bind fun w6 =>
 (AV.asSl w6).bind fun l7 =>
 (bif (decide (n2 < (l7.2 : Int))) then
 some ((.i .i64 1), r3.2)
 else (bif (decide (n2 > 4194304)) then
 some ((.i .i64 7), r3.2)
 else Option.bind p0 fun q8 =>
 (r3.2.ld q8.1 q8.2).bind fun w9 =>
 (AV.asP w9).bind fun p10 =>
 Option.bind p4 fun q11 =>
 (r3.2.ld q11.1 q11.2).bind fun w12 =>
 (AV.asSl w12).bind fun l13 =>
 (k137 [(.p p10), (.i .i64 (IntKind.i64.wrap (n2 - (l13.2 : Int))))] r3.2).bind fun r14 =>
 (AV.asI .i64 r14.1).bind fun n15 =>
 let σ16 := r14.2.bump 1
 (bif ((((decide ((0 : Int) ≤ n2)) && (decide (n2 ≤ n2))) && (decide ((n2 * 8) ≤ 140737488355328))) && (decide (n2 ≤ 140737488355328))) then
 let σ17 := σ16.put r14.2.next (.cells true 36 ((List.replicate n2.toNat [(.i .u64 0)]).flatten))
 Option.bind p4 fun q18 =>
 (σ17.ld q18.1 q18.2).bind fun w19 =>
 (AV.asSl w19).bind fun l20 =>
 (bif Nat.beq (min l20.2 n2.toNat) 0 then
 Option.bind p4 fun q24 =>
 (σ17.st q24.1 q24.2 [(.sl (.loc (.n r14.2.next) 0 1) n2.toNat)]).bind fun σ25 =>
 some ((.i .i64 0), σ25)
 else
 (σ17.rdSl l20.1 (min l20.2 n2.toNat) 1).bind fun c22 =>
 (σ17.wrSl (.loc (.n r14.2.next) 0 1) c22).bind fun σ23 =>
 Option.bind p4 fun q26 =>
 (σ23.st q26.1 q26.2 [(.sl (.loc (.n r14.2.next) 0 1) n2.toNat)]).bind fun σ27 =>
 some ((.i .i64 0), σ27))
 else none))))
 else none
noncomputable def mem_Mem__Grow {O : Type} : Sm O := mem_Mem__Grow_c mem_Mem__at meter_Meter__Hold
theorem mem_Mem__Grow_ent : Entered Try.prog 154 := Try.call154
theorem mem_Mem__Grow_run {O : Type} (k138 k137 : Sm O) : run (O := O) Try.prog [(138, k138), (137, k137)] Try.f154 (.n .z (.n .z (.n (.n (.n .z (.n .z (.n .z (.n .z (.n .z (.n .z .z)))))) .z) (.n (.d [] [0, 1, 2, 3, 4, 5, 6, 7, 8, 9, 10, 11] [0, 1, 3, 7, 0, 0, 32, 96, 224, 480, 1008, 2047]) (.n .z (.n .z (.n .z .z))))))) = mem_Mem__Grow_c k138 k137 := by kernel_rfl
theorem mem_Mem__Grow_sound {O : Type} {RO : O → Loc → (Nat → Option Obj) → Prop} : FSound RO Try.prog 154 (mem_Mem__Grow) :=
   have h : FSound RO Try.prog 154 (mem_Mem__Grow_c mem_Mem__at meter_Meter__Hold) := (mem_Mem__Grow_run mem_Mem__at meter_Meter__Hold) ▸ run_sound (gcons mem_Mem__at_ent (mem_Mem__at_sound) <| gcons meter_Meter__Hold_ent (meter_Meter__Hold_sound) <| gnil) mixed Try.func154 (by kernel_rfl) _
   h

/-- (*haymow/pool.Pool).grow -/
noncomputable def pool_Pool__grow_c {O : Type} (k155 k154 : Sm O) : Sm O := fun xs σ =>
 bif Nat.beq xs.length 1 then
 (AV.asP (xs.getD 0 .u)).bind fun p0 =>
 Option.bind p0 fun q1 =>
 (σ.ld q1.1 (q1.2 + 3)).bind fun w2 =>
 (AV.asI .i64 w2).bind fun n3 =>
 (bif (decide (n3 ≥ 1048576)) then
 some ((.i .i64 3), σ)
 else Option.bind p0 fun q4 =>
 (σ.ld q4.1 (q4.2 + 3)).bind fun w5 =>
 (AV.asI .i64 w5).bind fun n6 =>
 Option.bind p0 fun q7 =>
 (σ.ld q7.1 (q7.2 + 4)).bind fun w8 =>
 (AV.asI .i64 w8).bind fun n9 =>
 (bif (decide (n6 < n9)) then
 some ((.i .i64 0), σ)
 else Option.bind p0 fun q10 =>
 (σ.ld q10.1 (q10.2 + 4)).bind fun w11 =>
 (AV.asI .i64 w11).bind fun n12 =>
 let v13 : Int := (if (IntKind.i64.wrap (2 * n12)) > 8 then (IntKind.i64.wrap (2 * n12)) else 8)
 Option.bind p0 fun q14 =>
 (σ.ld q14.1 q14.2).bind fun w15 =>
 (AV.asP w15).bind fun p16 =>
 Option.bind p0 fun q17 =>
 (σ.ld q17.1 (q17.2 + 1)).bind fun w18 =>
 (AV.asI .i64 w18).bind fun n19 =>
 (k155 [(.p p0)] σ).bind fun r20 =>
 (AV.asI .i64 r20.1).bind fun n21 =>
 (chkE (r20.2.ld q14.1 q14.2) (some (.p p16))).bind fun _ =>
 (chkE (r20.2.ld q17.1 (q17.2 + 1)) (some (.i .i64 n19))).bind fun _ =>
 (k154 [(.p p16), (.i .i64 n19), (.i .i64 (IntKind.i64.wrap (v13 * n21)))] r20.2).bind fun r22 =>
 (AV.asI .i64 r22.1).bind fun n23 =>
 (bif ((n23 : Int) != 0) then
 some ((.i .i64 3), r22.2)
 else Option.bind p0 fun q24 =>
 (r22.2.st q24.1 (q24.2 + 4) [(.i .i64 v13)]).bind fun σ25 =>
 some ((.i .i64 0), σ25))))
 else none
noncomputable def pool_Pool__grow {O : Type} : Sm O := pool_Pool__grow_c pool_Pool__width mem_Mem__Grow
theorem pool_Pool__grow_ent : Entered Try.prog 122 := Try.call122
theorem pool_Pool__grow_run {O : Type} (k155 k154 : Sm O) : run (O := O) Try.prog [(155, k155), (154, k154)] Try.f122 (.n .z (.n (.n (.n .z (.n .z (.n (.d [] [0, 1, 2, 3, 4, 5, 6, 7, 8, 9] [0, 1, 3, 7, 0, 16, 48, 112, 255, 511]) (.n .z .z)))) .z) (.n .z (.n (.n (.d [] [0, 1, 2, 3, 4, 5, 6, 7, 8, 9, 10, 11, 12, 13] [0, 1, 3, 7, 0, 16, 48, 112, 0, 0, 512, 1792, 4095, 8191]) (.n .z (.n .z .z))) (.n .z .z))))) = pool_Pool__grow_c k155 k154 := by kernel_rfl
theorem pool_Pool__grow_sound {O : Type} {RO : O → Loc → (Nat → Option Obj) → Prop} : FSound RO Try.prog 122 (pool_Pool__grow) :=
   have h : FSound RO Try.prog 122 (pool_Pool__grow_c pool_Pool__width mem_Mem__Grow) := (pool_Pool__grow_run pool_Pool__width mem_Mem__Grow) ▸ run_sound (gcons pool_Pool__width_ent (pool_Pool__width_sound) <| gcons mem_Mem__Grow_ent (mem_Mem__Grow_sound) <| gnil) mixed Try.func122 (by kernel_rfl) _
   h

/-- (*haymow/pool.Pool).at -/
noncomputable def pool_Pool__at_c {O : Type} (k155 : Sm O) : Sm O := fun xs σ =>
 bif Nat.beq xs.length 3 then
 (AV.asP (xs.getD 0 .u)).bind fun p0 =>
 (AV.asI .i64 (xs.getD 1 .u)).bind fun n1 =>
 (AV.asI .i64 (xs.getD 2 .u)).bind fun n2 =>
 (k155 [(.p p0)] σ).bind fun r3 =>
 (AV.asI .i64 r3.1).bind fun n4 =>
 let v5 : Int := (IntKind.i64.wrap ((IntKind.i64.wrap (n1 - 1)) * n4))
 let v6 : Int := (IntKind.i64.wrap ((IntKind.i64.wrap (v5 + 1)) + n2))
 some ((.i .i64 v6), r3.2)
 else none
noncomputable def pool_Pool__at {O : Type} : Sm O := pool_Pool__at_c pool_Pool__width
theorem pool_Pool__at_ent : Entered Try.prog 123 := Try.call123
theorem pool_Pool__at_run {O : Type} (k155 : Sm O) : run (O := O) Try.prog [(155, k155)] Try.f123 (.n .z .z) = pool_Pool__at_c k155 := by kernel_rfl
theorem pool_Pool__at_sound {O : Type} {RO : O → Loc → (Nat → Option Obj) → Prop} : FSound RO Try.prog 123 (pool_Pool__at) :=
   have h : FSound RO Try.prog 123 (pool_Pool__at_c pool_Pool__width) := (pool_Pool__at_run pool_Pool__width) ▸ run_sound (gcons pool_Pool__width_ent (pool_Pool__width_sound) <| gnil) mixed Try.func123 (by kernel_rfl) _
   h

/-- (*haymow/mem.Mem).within -/
noncomputable def mem_Mem__within_c {O : Type} (k138 : Sm O) : Sm O := fun xs σ =>
 bif Nat.beq xs.length 4 then
 (AV.asP (xs.getD 0 .u)).bind fun p0 =>
 (AV.asI .i64 (xs.getD 1 .u)).bind fun n1 =>
 (AV.asI .i64 (xs.getD 2 .u)).bind fun n2 =>
 (AV.asI .i64 (xs.getD 3 .u)).bind fun n3 =>
 (k138 [(.p p0), (.i .i64 n1)] σ).bind fun r4 =>
 (AV.asP r4.1).bind fun p5 =>
 (bif (Option.isNone p5) then
 some ((.tup [(.sl .nil 0), (.i .i64 10)]), r4.2)
 else ((bif ((decide (n3 < 0)) == false) then
 some ([(.b (decide (n2 < 0)))], r4.2)
 else some ([(.b true)], r4.2)) : Option (List AV × AH O)).bind fun r6 =>
 (AV.asB (r6.1.getD 0 .u)).bind fun b7 =>
 ((bif (b7 == false) then
 Option.bind p5 fun q8 =>
 (r6.2.ld q8.1 q8.2).bind fun w9 =>
 (AV.asSl w9).bind fun l10 =>
 some ([(.b (decide (n2 > (l10.2 : Int))))], r6.2)
 else some ([(.b true)], r6.2)) : Option (List AV × AH O)).bind fun r11 =>
 (AV.asB (r11.1.getD 0 .u)).bind fun b12 =>
 ((bif (b12 == false) then
 Option.bind p5 fun q13 =>
 (r11.2.ld q13.1 q13.2).bind fun w14 =>
 (AV.asSl w14).bind fun l15 =>
 let c16 : Bool := (decide (n3 > (IntKind.i64.wrap ((l15.2 : Int) - n2))))
 some ([(.b c16)], r11.2)
 else some ([(.b true)], r11.2)) : Option (List AV × AH O)).bind fun r17 =>
 (AV.asB (r17.1.getD 0 .u)).bind fun b18 =>
 (bif b18 then
 some ((.tup [(.sl .nil 0), (.i .i64 11)]), r17.2)
 else Option.bind p5 fun q19 =>
 (r17.2.ld q19.1 q19.2).bind fun w20 =>
 (AV.asSl w20).bind fun l21 =>
 (bif (((decide ((0 : Int) ≤ n2)) && (decide (n2 ≤ (IntKind.i64.wrap (n2 + n3))))) && (decide ((IntKind.i64.wrap (n2 + n3)) ≤ (l21.2 : Int)))) then
 (SA.adv l21.1 n2.toNat 1).bind fun a22 =>
 some ((.tup [(.sl a22 ((IntKind.i64.wrap (n2 + n3)).toNat - n2.toNat)), (.i .i64 0)]), r17.2)
 else none)))
 else none
noncomputable def mem_Mem__within {O : Type} : Sm O := mem_Mem__within_c mem_Mem__at
theorem mem_Mem__within_ent : Entered Try.prog 142 := Try.call142
theorem mem_Mem__within_run {O : Type} (k138 : Sm O) : run (O := O) Try.prog [(138, k138)] Try.f142 (.n .z (.n .z (.n (.n (.n .z (.n .z (.n (.g [(2, 2, [(23, .one .b)]), (6, 7, [(32, .one .b)]), (15, 9, [(43, .one .b)])]) (.n .z .z)))) .z) .z))) = mem_Mem__within_c k138 := by kernel_rfl
theorem mem_Mem__within_sound {O : Type} {RO : O → Loc → (Nat → Option Obj) → Prop} : FSound RO Try.prog 142 (mem_Mem__within) :=
   have h : FSound RO Try.prog 142 (mem_Mem__within_c mem_Mem__at) := (mem_Mem__within_run mem_Mem__at) ▸ run_sound (gcons mem_Mem__at_ent (mem_Mem__at_sound) <| gnil) mixed Try.func142 (by kernel_rfl) _
   h

/-- haymow/wide.Of -/
noncomputable def wide_Of_c {O : Type} : Sm O := fun xs σ =>
 bif Nat.beq xs.length 1 then
 (AV.asI .u64 (xs.getD 0 .u)).bind fun n0 =>
 let σ1 := σ.bump 1
 let σ2 := σ1.put σ.next (.cells true 38 [(.i .u64 0), (.i .u64 0)])
 (σ2.st (.n σ.next) 0 [(.i .u64 0), (.i .u64 n0)]).bind fun σ3 =>
 (σ3.ld (.n σ.next) 0).bind fun w4 =>
 (AV.asI .u64 w4).bind fun n5 =>
 (σ3.ld (.n σ.next) 1).bind fun w6 =>
 (AV.asI .u64 w6).bind fun n7 =>
 some ((.agg [(.i .u64 n5), (.i .u64 n7)]), σ3)
 else none
noncomputable def wide_Of {O : Type} : Sm O := wide_Of_c
theorem wide_Of_ent : Entered Try.prog 162 := Try.call162
theorem wide_Of_run {O : Type} : run (O := O) Try.prog [] Try.f162 (.n .z .z) = wide_Of_c  := by kernel_rfl
theorem wide_Of_sound {O : Type} {RO : O → Loc → (Nat → Option Obj) → Prop} : FSound RO Try.prog 162 (wide_Of) :=
   have h : FSound RO Try.prog 162 (wide_Of_c) := (wide_Of_run) ▸ run_sound (gnil) mixed Try.func162 (by kernel_rfl) _
   h

/-- haymow/wide.Most -/
noncomputable def wide_Most_c {O : Type} : Sm O := fun xs σ =>
 bif Nat.beq xs.length 0 then
 let σ0 := σ.bump 1
 let σ1 := σ0.put σ.next (.cells true 38 [(.i .u64 0), (.i .u64 0)])
 (σ1.st (.n σ.next) 0 [(.i .u64 18446744073709551615), (.i .u64 18446744073709551615)]).bind fun σ2 =>
 (σ2.ld (.n σ.next) 0).bind fun w3 =>
 (AV.asI .u64 w3).bind fun n4 =>
 (σ2.ld (.n σ.next) 1).bind fun w5 =>
 (AV.asI .u64 w5).bind fun n6 =>
 some ((.agg [(.i .u64 n4), (.i .u64 n6)]), σ2)
 else none
noncomputable def wide_Most {O : Type} : Sm O := wide_Most_c
theorem wide_Most_ent : Entered Try.prog 121 := Try.call121
theorem wide_Most_run {O : Type} : run (O := O) Try.prog [] Try.f121 (.n .z .z) = wide_Most_c  := by kernel_rfl
theorem wide_Most_sound {O : Type} {RO : O → Loc → (Nat → Option Obj) → Prop} : FSound RO Try.prog 121 (wide_Most) :=
   have h : FSound RO Try.prog 121 (wide_Most_c) := (wide_Most_run) ▸ run_sound (gnil) mixed Try.func121 (by kernel_rfl) _
   h

/-- haymow/wide.Add -/
noncomputable def wide_Add_c {O : Type} (k120 k121 : Sm O) : Sm O := fun xs σ =>
 bif Nat.beq xs.length 2 then
 (AV.asAgg 2 (xs.getD 0 .u)).bind fun c0 =>
 (AV.asI .u64 (c0.getD 0 .u)).bind fun n1 =>
 (AV.asI .u64 (c0.getD 1 .u)).bind fun n2 =>
 (AV.asAgg 2 (xs.getD 1 .u)).bind fun c3 =>
 (AV.asI .u64 (c3.getD 0 .u)).bind fun n4 =>
 (AV.asI .u64 (c3.getD 1 .u)).bind fun n5 =>
 let σ6 := σ.bump 3
 let σ7 := σ6.put σ.next (.cells true 38 [(.i .u64 n1), (.i .u64 n2)])
 let σ8 := σ7.put (σ.next + 1) (.cells true 38 [(.i .u64 n4), (.i .u64 n5)])
 let σ9 := σ8.put ((σ.next + 1) + 1) (.cells true 38 [(.i .u64 0), (.i .u64 0)])
 (σ9.ld (.n σ.next) 1).bind fun w10 =>
 (AV.asI .u64 w10).bind fun n11 =>
 (σ9.ld (.n (σ.next + 1)) 1).bind fun w12 =>
 (AV.asI .u64 w12).bind fun n13 =>
 (k120 [(.i .u64 n11), (.i .u64 n13), (.i .u64 0)] σ9).bind fun r14 =>
 (AV.asTup 2 r14.1).bind fun c15 =>
 (AV.asI .u64 (c15.getD 0 .u)).bind fun n16 =>
 (AV.asI .u64 (c15.getD 1 .u)).bind fun n17 =>
 (r14.2.ld (.n σ.next) 0).bind fun w18 =>
 (AV.asI .u64 w18).bind fun n19 =>
 (r14.2.ld (.n (σ.next + 1)) 0).bind fun w20 =>
 (AV.asI .u64 w20).bind fun n21 =>
 (k120 [(.i .u64 n19), (.i .u64 n21), (.i .u64 n17)] r14.2).bind fun r22 =>
 (AV.asTup 2 r22.1).bind fun c23 =>
 (AV.asI .u64 (c23.getD 0 .u)).bind fun n24 =>
 (AV.asI .u64 (c23.getD 1 .u)).bind fun n25 =>
 (bif ((n25 : Int) != 0) then
 (k121 [] r22.2).bind fun r26 =>
 (AV.asAgg 2 r26.1).bind fun c27 =>
 (AV.asI .u64 (c27.getD 0 .u)).bind fun n28 =>
 (AV.asI .u64 (c27.getD 1 .u)).bind fun n29 =>
 (r26.2.st (.n ((σ.next + 1) + 1)) 0 [(.i .u64 n28), (.i .u64 n29)]).bind fun σ30 =>
 (σ30.ld (.n ((σ.next + 1) + 1)) 0).bind fun w31 =>
 (AV.asI .u64 w31).bind fun n32 =>
 (σ30.ld (.n ((σ.next + 1) + 1)) 1).bind fun w33 =>
 (AV.asI .u64 w33).bind fun n34 =>
 some ((.tup [(.agg [(.i .u64 n32), (.i .u64 n34)]), (.b false)]), σ30)
 else (r22.2.st (.n ((σ.next + 1) + 1)) 0 [(.i .u64 n24), (.i .u64 n16)]).bind fun σ35 =>
 (σ35.ld (.n ((σ.next + 1) + 1)) 0).bind fun w36 =>
 (AV.asI .u64 w36).bind fun n37 =>
 (σ35.ld (.n ((σ.next + 1) + 1)) 1).bind fun w38 =>
 (AV.asI .u64 w38).bind fun n39 =>
 some ((.tup [(.agg [(.i .u64 n37), (.i .u64 n39)]), (.b true)]), σ35))
 else none
noncomputable def wide_Add {O : Type} : Sm O := wide_Add_c bits_Add64 wide_Most
theorem wide_Add_ent : Entered Try.prog 58 := Try.call58
theorem wide_Add_run {O : Type} (k120 k121 : Sm O) : run (O := O) Try.prog [(120, k120), (121, k121)] Try.f58 (.n .z (.n .z (.n .z (.n (.n .z (.n .z .z)) .z)))) = wide_Add_c k120 k121 := by kernel_rfl
theorem wide_Add_sound {O : Type} {RO : O → Loc → (Nat → Option Obj) → Prop} : FSound RO Try.prog 58 (wide_Add) :=
   have h : FSound RO Try.prog 58 (wide_Add_c bits_Add64 wide_Most) := (wide_Add_run bits_Add64 wide_Most) ▸ run_sound (gext bits_Add64_ext <| gcons wide_Most_ent (wide_Most_sound) <| gnil) mixed Try.func58 (by kernel_rfl) _
   h

/-- (*haymow/meter.Meter).Step -/
noncomputable def meter_Meter__Step_c {O : Type} (k162 k58 : Sm O) : Sm O := fun xs σ =>
 bif Nat.beq xs.length 3 then
 (AV.asP (xs.getD 0 .u)).bind fun p0 =>
 (AV.asI .i64 (xs.getD 1 .u)).bind fun n1 =>
 (AV.asI .i64 (xs.getD 2 .u)).bind fun n2 =>
 ((bif ((Option.isNone p0) == false) then
 some ([(.b (decide (n1 < 0)))], σ)
 else some ([(.b true)], σ)) : Option (List AV × AH O)).bind fun r3 =>
 (AV.asB (r3.1.getD 0 .u)).bind fun b4 =>
 ((bif (b4 == false) then
 some ([(.b (decide (n1 ≥ 2)))], r3.2)
 else some ([(.b true)], r3.2)) : Option (List AV × AH O)).bind fun r5 =>
 (AV.asB (r5.1.getD 0 .u)).bind fun b6 =>
 ((bif (b6 == false) then
 some ([(.b (decide (n2 < 1)))], r5.2)
 else some ([(.b true)], r5.2)) : Option (List AV × AH O)).bind fun r7 =>
 (AV.asB (r7.1.getD 0 .u)).bind fun b8 =>
 (bif b8 then
 some ((.tup []), r7.2)
 else Option.bind p0 fun q9 =>
 (bif ((decide ((0 : Int) ≤ n1)) && (decide (n1 < 2))) then
 (r7.2.ld q9.1 (q9.2 + (n1.toNat * 2))).bind fun w10 =>
 (AV.asI .u64 w10).bind fun n11 =>
 (r7.2.ld q9.1 ((q9.2 + (n1.toNat * 2)) + 1)).bind fun w12 =>
 (AV.asI .u64 w12).bind fun n13 =>
 Option.bind p0 fun q14 =>
 (k162 [(.i .u64 (IntKind.u64.wrap n2))] r7.2).bind fun r15 =>
 (AV.asAgg 2 r15.1).bind fun c16 =>
 (AV.asI .u64 (c16.getD 0 .u)).bind fun n17 =>
 (AV.asI .u64 (c16.getD 1 .u)).bind fun n18 =>
 (chkE (r15.2.ld q9.1 (q9.2 + (n1.toNat * 2))) (some (.i .u64 n11))).bind fun _ =>
 (chkE (r15.2.ld q9.1 ((q9.2 + (n1.toNat * 2)) + 1)) (some (.i .u64 n13))).bind fun _ =>
 (k58 [(.agg [(.i .u64 n11), (.i .u64 n13)]), (.agg [(.i .u64 n17), (.i .u64 n18)])] r15.2).bind fun r19 =>
 (AV.asTup 2 r19.1).bind fun c20 =>
 (AV.asAgg 2 (c20.getD 0 .u)).bind fun c21 =>
 (AV.asI .u64 (c21.getD 0 .u)).bind fun n22 =>
 (AV.asI .u64 (c21.getD 1 .u)).bind fun n23 =>
 (AV.asB (c20.getD 1 .u)).bind fun b24 =>
 (bif ((decide ((0 : Int) ≤ n1)) && (decide (n1 < 2))) then
 (r19.2.st q14.1 (q14.2 + (n1.toNat * 2)) [(.i .u64 n22), (.i .u64 n23)]).bind fun σ25 =>
 some ((.tup []), σ25)
 else none)
 else none))
 else none
noncomputable def meter_Meter__Step {O : Type} : Sm O := meter_Meter__Step_c wide_Of wide_Add
theorem meter_Meter__Step_ent : Entered Try.prog 143 := Try.call143
theorem meter_Meter__Step_run {O : Type} (k162 k58 : Sm O) : run (O := O) Try.prog [(162, k162), (58, k58)] Try.f143 (.n (.n (.g [(2, 2, [(11, .one .b)]), (6, 2, [(15, .one .b)]), (10, 2, [(19, .one .b)])]) .z) (.d [] [0, 1, 2, 3, 4, 5, 6, 7, 8, 9, 15, 16, 10, 11, 12, 13, 14, 17, 18] [0, 0, 0, 0, 4, 20, 60, 124, 0, 256, 768, 2044, 4092, 8188, 8188, 1, 32769, 114687, 245759])) = meter_Meter__Step_c k162 k58 := by kernel_rfl
theorem meter_Meter__Step_sound {O : Type} {RO : O → Loc → (Nat → Option Obj) → Prop} : FSound RO Try.prog 143 (meter_Meter__Step) :=
   have h : FSound RO Try.prog 143 (meter_Meter__Step_c wide_Of wide_Add) := (meter_Meter__Step_run wide_Of wide_Add) ▸ run_sound (gcons wide_Of_ent (wide_Of_sound) <| gcons wide_Add_ent (wide_Add_sound) <| gnil) mixed Try.func143 (by kernel_rfl) _
   h

/-- (*haymow/mem.Mem).Write -/
noncomputable def mem_Mem__Write_c {O : Type} (k142 k143 : Sm O) : Sm O := fun xs σ =>
 bif Nat.beq xs.length 4 then
 (AV.asP (xs.getD 0 .u)).bind fun p0 =>
 (AV.asI .i64 (xs.getD 1 .u)).bind fun n1 =>
 (AV.asI .i64 (xs.getD 2 .u)).bind fun n2 =>
 (AV.asI .u64 (xs.getD 3 .u)).bind fun n3 =>
 (k142 [(.p p0), (.i .i64 n1), (.i .i64 n2), (.i .i64 1)] σ).bind fun r4 =>
 (AV.asTup 2 r4.1).bind fun c5 =>
 (AV.asSl (c5.getD 0 .u)).bind fun l6 =>
 (AV.asI .i64 (c5.getD 1 .u)).bind fun n7 =>
 (bif ((n7 : Int) != 0) then
 some ((.i .i64 n7), r4.2)
 else Option.bind p0 fun q8 =>
 (r4.2.ld q8.1 q8.2).bind fun w9 =>
 (AV.asP w9).bind fun p10 =>
 (k143 [(.p p10), (.i .i64 1), (.i .i64 1)] r4.2).bind fun r11 =>
 (AV.asTup 0 r11.1).bind fun c12 =>
 (bif (decide ((0 : Int) < (l6.2 : Int))) then
 (SA.ref l6.1).bind fun q13 =>
 (r11.2.st q13.1 q13.2 [(.i .u64 n3)]).bind fun σ14 =>
 some ((.i .i64 0), σ14)
 else none))
 else none
noncomputable def mem_Mem__Write {O : Type} : Sm O := mem_Mem__Write_c mem_Mem__within meter_Meter__Step
theorem mem_Mem__Write_ent : Entered Try.prog 89 := Try.call89
theorem mem_Mem__Write_run {O : Type} (k142 k143 : Sm O) : run (O := O) Try.prog [(142, k142), (143, k143)] Try.f89 (.n .z (.n .z (.n (.n .z (.n .z .z)) (.n .z (.n .z .z))))) = mem_Mem__Write_c k142 k143 := by kernel_rfl
theorem mem_Mem__Write_sound {O : Type} {RO : O → Loc → (Nat → Option Obj) → Prop} : FSound RO Try.prog 89 (mem_Mem__Write) :=
   have h : FSound RO Try.prog 89 (mem_Mem__Write_c mem_Mem__within meter_Meter__Step) := (mem_Mem__Write_run mem_Mem__within meter_Meter__Step) ▸ run_sound (gcons mem_Mem__within_ent (mem_Mem__within_sound) <| gcons meter_Meter__Step_ent (meter_Meter__Step_sound) <| gnil) mixed Try.func89 (by kernel_rfl) _
   h

/-- (*haymow/mem.Mem).Read -/
noncomputable def mem_Mem__Read_c {O : Type} (k142 k143 : Sm O) : Sm O := fun xs σ =>
 bif Nat.beq xs.length 3 then
 (AV.asP (xs.getD 0 .u)).bind fun p0 =>
 (AV.asI .i64 (xs.getD 1 .u)).bind fun n1 =>
 (AV.asI .i64 (xs.getD 2 .u)).bind fun n2 =>
 (k142 [(.p p0), (.i .i64 n1), (.i .i64 n2), (.i .i64 1)] σ).bind fun r3 =>
 (AV.asTup 2 r3.1).bind fun c4 =>
 (AV.asSl (c4.getD 0 .u)).bind fun l5 =>
 (AV.asI .i64 (c4.getD 1 .u)).bind fun n6 =>
 (bif ((n6 : Int) != 0) then
 some ((.tup [(.i .u64 0), (.i .i64 n6)]), r3.2)
 else Option.bind p0 fun q7 =>
 (r3.2.ld q7.1 q7.2).bind fun w8 =>
 (AV.asP w8).bind fun p9 =>
 (k143 [(.p p9), (.i .i64 0), (.i .i64 1)] r3.2).bind fun r10 =>
 (AV.asTup 0 r10.1).bind fun c11 =>
 (bif (decide ((0 : Int) < (l5.2 : Int))) then
 (SA.ref l5.1).bind fun q12 =>
 (r10.2.ld q12.1 q12.2).bind fun w13 =>
 (AV.asI .u64 w13).bind fun n14 =>
 some ((.tup [(.i .u64 n14), (.i .i64 0)]), r10.2)
 else none))
 else none
noncomputable def mem_Mem__Read {O : Type} : Sm O := mem_Mem__Read_c mem_Mem__within meter_Meter__Step
theorem mem_Mem__Read_ent : Entered Try.prog 92 := Try.call92
theorem mem_Mem__Read_run {O : Type} (k142 k143 : Sm O) : run (O := O) Try.prog [(142, k142), (143, k143)] Try.f92 (.n .z (.n .z (.n (.n .z (.n .z .z)) (.n .z .z)))) = mem_Mem__Read_c k142 k143 := by kernel_rfl
theorem mem_Mem__Read_sound {O : Type} {RO : O → Loc → (Nat → Option Obj) → Prop} : FSound RO Try.prog 92 (mem_Mem__Read) :=
   have h : FSound RO Try.prog 92 (mem_Mem__Read_c mem_Mem__within meter_Meter__Step) := (mem_Mem__Read_run mem_Mem__within meter_Meter__Step) ▸ run_sound (gcons mem_Mem__within_ent (mem_Mem__within_sound) <| gcons meter_Meter__Step_ent (meter_Meter__Step_sound) <| gnil) mixed Try.func92 (by kernel_rfl) _
   h

/-- (*haymow/mem.Mem).Zero -/
noncomputable def mem_Mem__Zero_c {O : Type} (k142 k143 : Sm O) : Sm O := fun xs σ =>
 bif Nat.beq xs.length 4 then
 (AV.asP (xs.getD 0 .u)).bind fun p0 =>
 (AV.asI .i64 (xs.getD 1 .u)).bind fun n1 =>
 (AV.asI .i64 (xs.getD 2 .u)).bind fun n2 =>
 (AV.asI .i64 (xs.getD 3 .u)).bind fun n3 =>
 (k142 [(.p p0), (.i .i64 n1), (.i .i64 n2), (.i .i64 n3)] σ).bind fun r4 =>
 (AV.asTup 2 r4.1).bind fun c5 =>
 (AV.asSl (c5.getD 0 .u)).bind fun l6 =>
 (AV.asI .i64 (c5.getD 1 .u)).bind fun n7 =>
 (bif ((n7 : Int) != 0) then
 some ((.i .i64 n7), r4.2)
 else Option.bind p0 fun q8 =>
 (r4.2.ld q8.1 q8.2).bind fun w9 =>
 (AV.asP w9).bind fun p10 =>
 (k143 [(.p p10), (.i .i64 1), (.i .i64 n3)] r4.2).bind fun r11 =>
 (AV.asTup 0 r11.1).bind fun c12 =>
 (bif Nat.beq l6.2 0 then
 some ((.i .i64 0), r11.2)
 else
 (r11.2.wrSl l6.1 ((List.replicate l6.2 [(.i .u64 0)]).flatten)).bind fun σ13 =>
 some ((.i .i64 0), σ13)))
 else none
noncomputable def mem_Mem__Zero {O : Type} : Sm O := mem_Mem__Zero_c mem_Mem__within meter_Meter__Step
theorem mem_Mem__Zero_ent : Entered Try.prog 124 := Try.call124
theorem mem_Mem__Zero_run {O : Type} (k142 k143 : Sm O) : run (O := O) Try.prog [(142, k142), (143, k143)] Try.f124 (.n .z (.n .z (.n (.n .z (.n .z .z)) (.n .z (.n .z .z))))) = mem_Mem__Zero_c k142 k143 := by kernel_rfl
theorem mem_Mem__Zero_sound {O : Type} {RO : O → Loc → (Nat → Option Obj) → Prop} : FSound RO Try.prog 124 (mem_Mem__Zero) :=
   have h : FSound RO Try.prog 124 (mem_Mem__Zero_c mem_Mem__within meter_Meter__Step) := (mem_Mem__Zero_run mem_Mem__within meter_Meter__Step) ▸ run_sound (gcons mem_Mem__within_ent (mem_Mem__within_sound) <| gcons meter_Meter__Step_ent (meter_Meter__Step_sound) <| gnil) mixed Try.func124 (by kernel_rfl) _
   h

/-- (*haymow/pool.Pool).Take -/
noncomputable def pool_Pool__Take_c {O : Type} (k122 k123 k89 k92 k124 : Sm O) : Sm O := fun xs σ =>
 bif Nat.beq xs.length 1 then
 (AV.asP (xs.getD 0 .u)).bind fun p0 =>
 Option.bind p0 fun q1 =>
 (σ.ld q1.1 (q1.2 + 5)).bind fun w2 =>
 (AV.asI .i64 w2).bind fun n3 =>
 (bif ((n3 : Int) == 0) then
 (k122 [(.p p0)] σ).bind fun r4 =>
 (AV.asI .i64 r4.1).bind fun n5 =>
 (bif ((n5 : Int) != 0) then
 some ((.tup [(.i .i64 0), (.i .i64 n5)]), r4.2)
 else Option.bind p0 fun q6 =>
 (r4.2.ld q6.1 (q6.2 + 3)).bind fun w7 =>
 (AV.asI .i64 w7).bind fun n8 =>
 Option.bind p0 fun q9 =>
 (r4.2.st q9.1 (q9.2 + 3) [(.i .i64 (IntKind.i64.wrap (n8 + 1)))]).bind fun σ10 =>
 Option.bind p0 fun q11 =>
 (σ10.ld q11.1 (q11.2 + 3)).bind fun w12 =>
 (AV.asI .i64 w12).bind fun n13 =>
 Option.bind p0 fun q14 =>
 (σ10.ld q14.1 q14.2).bind fun w15 =>
 (AV.asP w15).bind fun p16 =>
 Option.bind p0 fun q17 =>
 (σ10.ld q17.1 (q17.2 + 1)).bind fun w18 =>
 (AV.asI .i64 w18).bind fun n19 =>
 (k123 [(.p p0), (.i .i64 n13), (.i .i64 (-1))] σ10).bind fun r20 =>
 (AV.asI .i64 r20.1).bind fun n21 =>
 (chkE (r20.2.ld q14.1 q14.2) (some (.p p16))).bind fun _ =>
 (chkE (r20.2.ld q17.1 (q17.2 + 1)) (some (.i .i64 n19))).bind fun _ =>
 (k89 [(.p p16), (.i .i64 n19), (.i .i64 n21), (.i .u64 1)] r20.2).bind fun r22 =>
 (AV.asI .i64 r22.1).bind fun n23 =>
 Option.bind p0 fun q24 =>
 (r22.2.ld q24.1 (q24.2 + 6)).bind fun w25 =>
 (AV.asI .i64 w25).bind fun n26 =>
 Option.bind p0 fun q27 =>
 (r22.2.st q27.1 (q27.2 + 6) [(.i .i64 (IntKind.i64.wrap (n26 + 1)))]).bind fun σ28 =>
 some ((.tup [(.i .i64 n13), (.i .i64 0)]), σ28))
 else Option.bind p0 fun q29 =>
 (σ.ld q29.1 q29.2).bind fun w30 =>
 (AV.asP w30).bind fun p31 =>
 Option.bind p0 fun q32 =>
 (σ.ld q32.1 (q32.2 + 1)).bind fun w33 =>
 (AV.asI .i64 w33).bind fun n34 =>
 (k123 [(.p p0), (.i .i64 n3), (.i .i64 0)] σ).bind fun r35 =>
 (AV.asI .i64 r35.1).bind fun n36 =>
 (chkE (r35.2.ld q29.1 q29.2) (some (.p p31))).bind fun _ =>
 (chkE (r35.2.ld q32.1 (q32.2 + 1)) (some (.i .i64 n34))).bind fun _ =>
 (k92 [(.p p31), (.i .i64 n34), (.i .i64 n36)] r35.2).bind fun r37 =>
 (AV.asTup 2 r37.1).bind fun c38 =>
 (AV.asI .u64 (c38.getD 0 .u)).bind fun n39 =>
 (AV.asI .i64 (c38.getD 1 .u)).bind fun n40 =>
 Option.bind p0 fun q41 =>
 (r37.2.ld q41.1 q41.2).bind fun w42 =>
 (AV.asP w42).bind fun p43 =>
 Option.bind p0 fun q44 =>
 (r37.2.ld q44.1 (q44.2 + 1)).bind fun w45 =>
 (AV.asI .i64 w45).bind fun n46 =>
 (k123 [(.p p0), (.i .i64 n3), (.i .i64 (-1))] r37.2).bind fun r47 =>
 (AV.asI .i64 r47.1).bind fun n48 =>
 (chkE (r47.2.ld q41.1 q41.2) (some (.p p43))).bind fun _ =>
 (chkE (r47.2.ld q44.1 (q44.2 + 1)) (some (.i .i64 n46))).bind fun _ =>
 (k92 [(.p p43), (.i .i64 n46), (.i .i64 n48)] r47.2).bind fun r49 =>
 (AV.asTup 2 r49.1).bind fun c50 =>
 (AV.asI .u64 (c50.getD 0 .u)).bind fun n51 =>
 (AV.asI .i64 (c50.getD 1 .u)).bind fun n52 =>
 Option.bind p0 fun q53 =>
 (r49.2.ld q53.1 q53.2).bind fun w54 =>
 (AV.asP w54).bind fun p55 =>
 Option.bind p0 fun q56 =>
 (r49.2.ld q56.1 (q56.2 + 1)).bind fun w57 =>
 (AV.asI .i64 w57).bind fun n58 =>
 (k123 [(.p p0), (.i .i64 n3), (.i .i64 (-1))] r49.2).bind fun r59 =>
 (AV.asI .i64 r59.1).bind fun n60 =>
 (chkE (r59.2.ld q53.1 q53.2) (some (.p p55))).bind fun _ =>
 (chkE (r59.2.ld q56.1 (q56.2 + 1)) (some (.i .i64 n58))).bind fun _ =>
 (k89 [(.p p55), (.i .i64 n58), (.i .i64 n60), (.i .u64 (ibits .or .u64 n51 1))] r59.2).bind fun r61 =>
 (AV.asI .i64 r61.1).bind fun n62 =>
 Option.bind p0 fun q63 =>
 (r61.2.ld q63.1 q63.2).bind fun w64 =>
 (AV.asP w64).bind fun p65 =>
 Option.bind p0 fun q66 =>
 (r61.2.ld q66.1 (q66.2 + 1)).bind fun w67 =>
 (AV.asI .i64 w67).bind fun n68 =>
 Option.bind p0 fun q69 =>
 (r61.2.ld q69.1 (q69.2 + 2)).bind fun w70 =>
 (AV.asI .i64 w70).bind fun n71 =>
 (k123 [(.p p0), (.i .i64 n3), (.i .i64 0)] r61.2).bind fun r72 =>
 (AV.asI .i64 r72.1).bind fun n73 =>
 (chkE (r72.2.ld q63.1 q63.2) (some (.p p65))).bind fun _ =>
 (chkE (r72.2.ld q66.1 (q66.2 + 1)) (some (.i .i64 n68))).bind fun _ =>
 (chkE (r72.2.ld q69.1 (q69.2 + 2)) (some (.i .i64 n71))).bind fun _ =>
 (k124 [(.p p65), (.i .i64 n68), (.i .i64 n73), (.i .i64 n71)] r72.2).bind fun r74 =>
 (AV.asI .i64 r74.1).bind fun n75 =>
 Option.bind p0 fun q76 =>
 (r74.2.st q76.1 (q76.2 + 5) [(.i .i64 (IntKind.i64.wrap n39))]).bind fun σ77 =>
 Option.bind p0 fun q78 =>
 (σ77.ld q78.1 (q78.2 + 6)).bind fun w79 =>
 (AV.asI .i64 w79).bind fun n80 =>
 Option.bind p0 fun q81 =>
 (σ77.st q81.1 (q81.2 + 6) [(.i .i64 (IntKind.i64.wrap (n80 + 1)))]).bind fun σ82 =>
 some ((.tup [(.i .i64 n3), (.i .i64 0)]), σ82))
 else none
noncomputable def pool_Pool__Take {O : Type} : Sm O := pool_Pool__Take_c pool_Pool__grow pool_Pool__at mem_Mem__Write mem_Mem__Read mem_Mem__Zero
theorem pool_Pool__Take_ent : Entered Try.prog 60 := Try.call60
theorem pool_Pool__Take_run {O : Type} (k122 k123 k89 k92 k124 : Sm O) : run (O := O) Try.prog [(122, k122), (123, k123), (89, k89), (92, k92), (124, k124)] Try.f60 (.n .z (.n .z (.n (.n .z (.n (.n (.n .z (.n .z (.n .z .z))) (.n .z (.n .z (.n (.d [] [0, 1, 2, 3, 4, 5, 6, 7, 8, 9, 10, 11] [0, 1, 3, 7, 0, 16, 48, 112, 0, 0, 768, 2047]) (.n .z .z))))) .z)) (.n (.d [] [0, 1, 2, 3, 4, 5, 6, 7, 8, 9, 10, 11, 12, 13, 14, 15, 16] [0, 1, 3, 7, 0, 16, 48, 112, 0, 0, 768, 2047, 4095, 8191, 8191, 16383, 65535]) (.n (.d [] [0, 1, 2, 3, 4, 5, 6, 7, 8, 9, 10, 11, 12, 13, 14, 15, 16] [0, 1, 3, 7, 0, 16, 48, 112, 0, 0, 768, 2047, 4095, 8191, 8191, 16383, 65535]) (.n (.d [] [0, 1, 2, 3, 4, 5, 6, 7, 8, 9, 11, 12, 10, 13] [0, 1, 3, 7, 0, 16, 48, 112, 0, 0, 768, 0, 2048, 8191]) (.n (.d [] [0, 1, 2, 3, 4, 5, 6, 7, 8, 9, 11, 12, 13, 14, 10, 15] [0, 1, 3, 7, 0, 16, 48, 112, 0, 0, 768, 0, 2048, 6144, 14336, 32767]) (.n .z (.n .z .z))))))))) = pool_Pool__Take_c k122 k123 k89 k92 k124 := by kernel_rfl
theorem pool_Pool__Take_sound {O : Type} {RO : O → Loc → (Nat → Option Obj) → Prop} : FSound RO Try.prog 60 (pool_Pool__Take) :=
   have h : FSound RO Try.prog 60 (pool_Pool__Take_c pool_Pool__grow pool_Pool__at mem_Mem__Write mem_Mem__Read mem_Mem__Zero) := (pool_Pool__Take_run pool_Pool__grow pool_Pool__at mem_Mem__Write mem_Mem__Read mem_Mem__Zero) ▸ run_sound (gcons pool_Pool__grow_ent (pool_Pool__grow_sound) <| gcons pool_Pool__at_ent (pool_Pool__at_sound) <| gcons mem_Mem__Write_ent (mem_Mem__Write_sound) <| gcons mem_Mem__Read_ent (mem_Mem__Read_sound) <| gcons mem_Mem__Zero_ent (mem_Mem__Zero_sound) <| gnil) mixed Try.func60 (by kernel_rfl) _
   h

/-- (*haymow/meter.Meter).Free -/
noncomputable def meter_Meter__Free_c {O : Type} : Sm O := fun xs σ =>
 bif Nat.beq xs.length 2 then
 (AV.asP (xs.getD 0 .u)).bind fun p0 =>
 (AV.asI .i64 (xs.getD 1 .u)).bind fun n1 =>
 ((bif ((Option.isNone p0) == false) then
 some ([(.b (decide (n1 < 0)))], σ)
 else some ([(.b true)], σ)) : Option (List AV × AH O)).bind fun r2 =>
 (AV.asB (r2.1.getD 0 .u)).bind fun b3 =>
 (bif b3 then
 some ((.i .i64 1), r2.2)
 else Option.bind p0 fun q4 =>
 (r2.2.ld q4.1 (q4.2 + 4)).bind fun w5 =>
 (AV.asI .i64 w5).bind fun n6 =>
 (bif (decide (n1 > n6)) then
 some ((.i .i64 4), r2.2)
 else Option.bind p0 fun q7 =>
 (r2.2.ld q7.1 (q7.2 + 4)).bind fun w8 =>
 (AV.asI .i64 w8).bind fun n9 =>
 Option.bind p0 fun q10 =>
 (r2.2.st q10.1 (q10.2 + 4) [(.i .i64 (IntKind.i64.wrap (n9 - n1)))]).bind fun σ11 =>
 some ((.i .i64 0), σ11)))
 else none
noncomputable def meter_Meter__Free {O : Type} : Sm O := meter_Meter__Free_c
theorem meter_Meter__Free_ent : Entered Try.prog 139 := Try.call139
theorem meter_Meter__Free_run {O : Type} : run (O := O) Try.prog [] Try.f139 (.n .z (.n (.n (.n (.g [(2, 2, [(11, .one .b)])]) (.n .z (.n .z (.n .z .z)))) .z) (.n .z .z))) = meter_Meter__Free_c  := by kernel_rfl
theorem meter_Meter__Free_sound {O : Type} {RO : O → Loc → (Nat → Option Obj) → Prop} : FSound RO Try.prog 139 (meter_Meter__Free) :=
   have h : FSound RO Try.prog 139 (meter_Meter__Free_c) := (meter_Meter__Free_run) ▸ run_sound (gnil) mixed Try.func139 (by kernel_rfl) _
   h

/-- (*haymow/mem.Mem).Close -/
noncomputable def mem_Mem__Close_c {O : Type} (k138 k139 : Sm O) : Sm O := fun xs σ =>
 bif Nat.beq xs.length 2 then
 (AV.asP (xs.getD 0 .u)).bind fun p0 =>
 (AV.asI .i64 (xs.getD 1 .u)).bind fun n1 =>
 (k138 [(.p p0), (.i .i64 n1)] σ).bind fun r2 =>
 (AV.asP r2.1).bind fun p3 =>
 (bif (Option.isNone p3) then
 some ((.i .i64 10), r2.2)
 else Option.bind p0 fun q4 =>
 (r2.2.ld q4.1 q4.2).bind fun w5 =>
 (AV.asP w5).bind fun p6 =>
 Option.bind p3 fun q7 =>
 (r2.2.ld q7.1 q7.2).bind fun w8 =>
 (AV.asSl w8).bind fun l9 =>
 (k139 [(.p p6), (.i .i64 (l9.2 : Int))] r2.2).bind fun r10 =>
 (AV.asI .i64 r10.1).bind fun n11 =>
 Option.bind p3 fun q12 =>
 (r10.2.st q12.1 q12.2 [(.sl .nil 0), (.b false)]).bind fun σ13 =>
 Option.bind p0 fun q14 =>
 (σ13.ld q14.1 (q14.2 + 2)).bind fun w15 =>
 (AV.asI .i64 w15).bind fun n16 =>
 Option.bind p0 fun q17 =>
 (σ13.ld q17.1 (q17.2 + 3)).bind fun w18 =>
 (AV.asI .i64 w18).bind fun n19 =>
 Option.bind p0 fun q20 =>
 (σ13.st q20.1 (q20.2 + 2) [(.i .i64 (if n1 < n16 then n1 else n16))]).bind fun σ21 =>
 Option.bind p0 fun q22 =>
 (σ21.st q22.1 (q22.2 + 3) [(.i .i64 (IntKind.i64.wrap (n19 - 1)))]).bind fun σ23 =>
 some ((.i .i64 0), σ23))
 else none
noncomputable def mem_Mem__Close {O : Type} : Sm O := mem_Mem__Close_c mem_Mem__at meter_Meter__Free
theorem mem_Mem__Close_ent : Entered Try.prog 83 := Try.call83
theorem mem_Mem__Close_run {O : Type} (k138 k139 : Sm O) : run (O := O) Try.prog [(138, k138), (139, k139)] Try.f83 (.n .z (.n .z (.n (.n .z (.n .z .z)) (.n (.d [] [0, 1, 2, 3, 4, 5, 6, 7, 8, 9] [0, 1, 3, 7, 0, 16, 48, 112, 240, 511]) (.n .z (.n (.d [] [0, 1, 2, 3, 4, 5, 6, 7, 8, 9, 10, 11, 12, 13, 14, 15, 16, 17, 18] [0, 0, 0, 4, 12, 28, 0, 124, 0, 256, 768, 1792, 3840, 4093, 12285, 28669, 65535, 131071, 262143]) .z)))))) = mem_Mem__Close_c k138 k139 := by kernel_rfl
theorem mem_Mem__Close_sound {O : Type} {RO : O → Loc → (Nat → Option Obj) → Prop} : FSound RO Try.prog 83 (mem_Mem__Close) :=
   have h : FSound RO Try.prog 83 (mem_Mem__Close_c mem_Mem__at meter_Meter__Free) := (mem_Mem__Close_run mem_Mem__at meter_Meter__Free) ▸ run_sound (gcons mem_Mem__at_ent (mem_Mem__at_sound) <| gcons meter_Meter__Free_ent (meter_Meter__Free_sound) <| gnil) mixed Try.func83 (by kernel_rfl) _
   h

/-- (*haymow/pool.Pool).look -/
noncomputable def pool_Pool__look_c {O : Type} (k123 k92 : Sm O) : Sm O := fun xs σ =>
 bif Nat.beq xs.length 2 then
 (AV.asP (xs.getD 0 .u)).bind fun p0 =>
 (AV.asI .i64 (xs.getD 1 .u)).bind fun n1 =>
 ((bif ((decide (n1 < 1)) == false) then
 Option.bind p0 fun q2 =>
 (σ.ld q2.1 (q2.2 + 3)).bind fun w3 =>
 (AV.asI .i64 w3).bind fun n4 =>
 some ([(.b (decide (n1 > n4)))], σ)
 else some ([(.b true)], σ)) : Option (List AV × AH O)).bind fun r5 =>
 (AV.asB (r5.1.getD 0 .u)).bind fun b6 =>
 (bif b6 then
 some ((.tup [(.i .u64 0), (.b false)]), r5.2)
 else Option.bind p0 fun q7 =>
 (r5.2.ld q7.1 q7.2).bind fun w8 =>
 (AV.asP w8).bind fun p9 =>
 Option.bind p0 fun q10 =>
 (r5.2.ld q10.1 (q10.2 + 1)).bind fun w11 =>
 (AV.asI .i64 w11).bind fun n12 =>
 (k123 [(.p p0), (.i .i64 n1), (.i .i64 (-1))] r5.2).bind fun r13 =>
 (AV.asI .i64 r13.1).bind fun n14 =>
 (chkE (r13.2.ld q7.1 q7.2) (some (.p p9))).bind fun _ =>
 (chkE (r13.2.ld q10.1 (q10.2 + 1)) (some (.i .i64 n12))).bind fun _ =>
 (k92 [(.p p9), (.i .i64 n12), (.i .i64 n14)] r13.2).bind fun r15 =>
 (AV.asTup 2 r15.1).bind fun c16 =>
 (AV.asI .u64 (c16.getD 0 .u)).bind fun n17 =>
 (AV.asI .i64 (c16.getD 1 .u)).bind fun n18 =>
 some ((.tup [(.i .u64 n17), (.b true)]), r15.2))
 else none
noncomputable def pool_Pool__look {O : Type} : Sm O := pool_Pool__look_c pool_Pool__at mem_Mem__Read
theorem pool_Pool__look_ent : Entered Try.prog 129 := Try.call129
theorem pool_Pool__look_run {O : Type} (k123 k92 : Sm O) : run (O := O) Try.prog [(123, k123), (92, k92)] Try.f129 (.n .z (.n (.n (.g [(2, 6, [(17, .one .b)])]) (.n .z .z)) (.n (.d [] [0, 1, 2, 3, 4, 5, 6, 7, 8, 9, 10, 11, 12, 13, 14, 15, 16] [0, 1, 3, 7, 0, 16, 48, 112, 0, 0, 768, 2047, 4095, 8191, 8191, 16383, 65535]) .z))) = pool_Pool__look_c k123 k92 := by kernel_rfl
theorem pool_Pool__look_sound {O : Type} {RO : O → Loc → (Nat → Option Obj) → Prop} : FSound RO Try.prog 129 (pool_Pool__look) :=
   have h : FSound RO Try.prog 129 (pool_Pool__look_c pool_Pool__at mem_Mem__Read) := (pool_Pool__look_run pool_Pool__at mem_Mem__Read) ▸ run_sound (gcons pool_Pool__at_ent (pool_Pool__at_sound) <| gcons mem_Mem__Read_ent (mem_Mem__Read_sound) <| gnil) mixed Try.func129 (by kernel_rfl) _
   h

/-- (*haymow/pool.Pool).Taken -/
noncomputable def pool_Pool__Taken_c {O : Type} (k129 : Sm O) : Sm O := fun xs σ =>
 bif Nat.beq xs.length 2 then
 (AV.asP (xs.getD 0 .u)).bind fun p0 =>
 (AV.asI .i64 (xs.getD 1 .u)).bind fun n1 =>
 (k129 [(.p p0), (.i .i64 n1)] σ).bind fun r2 =>
 (AV.asTup 2 r2.1).bind fun c3 =>
 (AV.asI .u64 (c3.getD 0 .u)).bind fun n4 =>
 (AV.asB (c3.getD 1 .u)).bind fun b5 =>
 ((bif (b5 == true) then
 some ([(.b (((ibits .and .u64 n4 1) : Int) == 1))], r2.2)
 else some ([(.b false)], r2.2)) : Option (List AV × AH O)).bind fun r6 =>
 (AV.asB (r6.1.getD 0 .u)).bind fun b7 =>
 some ((.b b7), r6.2)
 else none
noncomputable def pool_Pool__Taken {O : Type} : Sm O := pool_Pool__Taken_c pool_Pool__look
theorem pool_Pool__Taken_ent : Entered Try.prog 135 := Try.call135
theorem pool_Pool__Taken_run {O : Type} (k129 : Sm O) : run (O := O) Try.prog [(129, k129)] Try.f135 (.n .z (.n .z (.n (.g [(1, 3, [(18, .one .b)])]) .z))) = pool_Pool__Taken_c k129 := by kernel_rfl
theorem pool_Pool__Taken_sound {O : Type} {RO : O → Loc → (Nat → Option Obj) → Prop} : FSound RO Try.prog 135 (pool_Pool__Taken) :=
   have h : FSound RO Try.prog 135 (pool_Pool__Taken_c pool_Pool__look) := (pool_Pool__Taken_run pool_Pool__look) ▸ run_sound (gcons pool_Pool__look_ent (pool_Pool__look_sound) <| gnil) mixed Try.func135 (by kernel_rfl) _
   h

/-- (*haymow/pool.Pool).check -/
noncomputable def pool_Pool__check_c {O : Type} (k135 : Sm O) : Sm O := fun xs σ =>
 bif Nat.beq xs.length 3 then
 (AV.asP (xs.getD 0 .u)).bind fun p0 =>
 (AV.asI .i64 (xs.getD 1 .u)).bind fun n1 =>
 (AV.asI .i64 (xs.getD 2 .u)).bind fun n2 =>
 (k135 [(.p p0), (.i .i64 n1)] σ).bind fun r3 =>
 (AV.asB r3.1).bind fun b4 =>
 (bif (!b4) then
 some ((.i .i64 4), r3.2)
 else ((bif ((decide (n2 < 0)) == false) then
 Option.bind p0 fun q5 =>
 (r3.2.ld q5.1 (q5.2 + 2)).bind fun w6 =>
 (AV.asI .i64 w6).bind fun n7 =>
 some ([(.b (decide (n2 ≥ n7)))], r3.2)
 else some ([(.b true)], r3.2)) : Option (List AV × AH O)).bind fun r8 =>
 (AV.asB (r8.1.getD 0 .u)).bind fun b9 =>
 (bif b9 then
 some ((.i .i64 32), r8.2)
 else some ((.i .i64 0), r8.2)))
 else none
noncomputable def pool_Pool__check {O : Type} : Sm O := pool_Pool__check_c pool_Pool__Taken
theorem pool_Pool__check_ent : Entered Try.prog 125 := Try.call125
theorem pool_Pool__check_run {O : Type} (k135 : Sm O) : run (O := O) Try.prog [(135, k135)] Try.f125 (.n .z (.n (.n (.n .z (.n .z (.n (.g [(2, 6, [(22, .one .b)])]) (.n .z .z)))) .z) .z)) = pool_Pool__check_c k135 := by kernel_rfl
theorem pool_Pool__check_sound {O : Type} {RO : O → Loc → (Nat → Option Obj) → Prop} : FSound RO Try.prog 125 (pool_Pool__check) :=
   have h : FSound RO Try.prog 125 (pool_Pool__check_c pool_Pool__Taken) := (pool_Pool__check_run pool_Pool__Taken) ▸ run_sound (gcons pool_Pool__Taken_ent (pool_Pool__Taken_sound) <| gnil) mixed Try.func125 (by kernel_rfl) _
   h

/-- (*haymow/pool.Pool).Set -/
noncomputable def pool_Pool__Set_c {O : Type} (k125 k123 k89 : Sm O) : Sm O := fun xs σ =>
 bif Nat.beq xs.length 4 then
 (AV.asP (xs.getD 0 .u)).bind fun p0 =>
 (AV.asI .i64 (xs.getD 1 .u)).bind fun n1 =>
 (AV.asI .i64 (xs.getD 2 .u)).bind fun n2 =>
 (AV.asI .u64 (xs.getD 3 .u)).bind fun n3 =>
 (k125 [(.p p0), (.i .i64 n1), (.i .i64 n2)] σ).bind fun r4 =>
 (AV.asI .i64 r4.1).bind fun n5 =>
 (bif ((n5 : Int) != 0) then
 some ((.i .i64 n5), r4.2)
 else Option.bind p0 fun q6 =>
 (r4.2.ld q6.1 q6.2).bind fun w7 =>
 (AV.asP w7).bind fun p8 =>
 Option.bind p0 fun q9 =>
 (r4.2.ld q9.1 (q9.2 + 1)).bind fun w10 =>
 (AV.asI .i64 w10).bind fun n11 =>
 (k123 [(.p p0), (.i .i64 n1), (.i .i64 n2)] r4.2).bind fun r12 =>
 (AV.asI .i64 r12.1).bind fun n13 =>
 (chkE (r12.2.ld q6.1 q6.2) (some (.p p8))).bind fun _ =>
 (chkE (r12.2.ld q9.1 (q9.2 + 1)) (some (.i .i64 n11))).bind fun _ =>
 (k89 [(.p p8), (.i .i64 n11), (.i .i64 n13), (.i .u64 n3)] r12.2).bind fun r14 =>
 (AV.asI .i64 r14.1).bind fun n15 =>
 some ((.i .i64 n15), r14.2))
 else none
noncomputable def pool_Pool__Set {O : Type} : Sm O := pool_Pool__Set_c pool_Pool__check pool_Pool__at mem_Mem__Write
theorem pool_Pool__Set_ent : Entered Try.prog 61 := Try.call61
theorem pool_Pool__Set_run {O : Type} (k125 k123 k89 : Sm O) : run (O := O) Try.prog [(125, k125), (123, k123), (89, k89)] Try.f61 (.n .z (.n (.n .z (.n .z (.n .z .z))) (.n (.d [] [0, 1, 2, 3, 4, 5, 6, 7, 8, 9, 10, 12, 11, 13, 14] [0, 1, 3, 7, 0, 16, 48, 112, 0, 0, 0, 1792, 0, 8191, 16383]) .z))) = pool_Pool__Set_c k125 k123 k89 := by kernel_rfl
theorem pool_Pool__Set_sound {O : Type} {RO : O → Loc → (Nat → Option Obj) → Prop} : FSound RO Try.prog 61 (pool_Pool__Set) :=
   have h : FSound RO Try.prog 61 (pool_Pool__Set_c pool_Pool__check pool_Pool__at mem_Mem__Write) := (pool_Pool__Set_run pool_Pool__check pool_Pool__at mem_Mem__Write) ▸ run_sound (gcons pool_Pool__check_ent (pool_Pool__check_sound) <| gcons pool_Pool__at_ent (pool_Pool__at_sound) <| gcons mem_Mem__Write_ent (mem_Mem__Write_sound) <| gnil) mixed Try.func61 (by kernel_rfl) _
   h

/-- (*haymow/pool.Pool).Table -/
noncomputable def pool_Pool__Table_c {O : Type} (k155 : Sm O) : Sm O := fun xs σ =>
 bif Nat.beq xs.length 3 then
 (AV.asP (xs.getD 0 .u)).bind fun p0 =>
 (AV.asI .i64 (xs.getD 1 .u)).bind fun n1 =>
 (AV.asI .i64 (xs.getD 2 .u)).bind fun n2 =>
 let σ3 := σ.bump 1
 let σ4 := σ3.put σ.next (.cells true 136 [(.p none), (.i .i64 0), (.i .i64 0), (.i .i64 0), (.i .i64 0)])
 Option.bind p0 fun q5 =>
 (σ4.ld q5.1 q5.2).bind fun w6 =>
 (AV.asP w6).bind fun p7 =>
 Option.bind p0 fun q8 =>
 (σ4.ld q8.1 (q8.2 + 1)).bind fun w9 =>
 (AV.asI .i64 w9).bind fun n10 =>
 (k155 [(.p p0)] σ4).bind fun r11 =>
 (AV.asI .i64 r11.1).bind fun n12 =>
 (chkE (r11.2.ld q5.1 q5.2) (some (.p p7))).bind fun _ =>
 (chkE (r11.2.ld q8.1 (q8.2 + 1)) (some (.i .i64 n10))).bind fun _ =>
 (r11.2.st (.n σ.next) 0 [(.p p7), (.i .i64 n10), (.i .i64 n12), (.i .i64 (IntKind.i64.wrap (n1 + 1))), (.i .i64 (IntKind.i64.wrap (n2 + 1)))]).bind fun σ13 =>
 (σ13.ld (.n σ.next) 0).bind fun w14 =>
 (AV.asP w14).bind fun p15 =>
 (σ13.ld (.n σ.next) 1).bind fun w16 =>
 (AV.asI .i64 w16).bind fun n17 =>
 (σ13.ld (.n σ.next) 2).bind fun w18 =>
 (AV.asI .i64 w18).bind fun n19 =>
 (σ13.ld (.n σ.next) 3).bind fun w20 =>
 (AV.asI .i64 w20).bind fun n21 =>
 (σ13.ld (.n σ.next) 4).bind fun w22 =>
 (AV.asI .i64 w22).bind fun n23 =>
 some ((.agg [(.p p15), (.i .i64 n17), (.i .i64 n19), (.i .i64 n21), (.i .i64 n23)]), σ13)
 else none
noncomputable def pool_Pool__Table {O : Type} : Sm O := pool_Pool__Table_c pool_Pool__width
theorem pool_Pool__Table_ent : Entered Try.prog 126 := Try.call126
theorem pool_Pool__Table_run {O : Type} (k155 : Sm O) : run (O := O) Try.prog [(155, k155)] Try.f126 (.n .z (.n (.d [] [0, 1, 2, 3, 4, 5, 6, 7, 8, 10, 11, 12, 13, 9, 14, 15] [0, 1, 3, 7, 0, 16, 48, 112, 0, 256, 0, 1024, 0, 4096, 16383, 32767]) .z)) = pool_Pool__Table_c k155 := by kernel_rfl
theorem pool_Pool__Table_sound {O : Type} {RO : O → Loc → (Nat → Option Obj) → Prop} : FSound RO Try.prog 126 (pool_Pool__Table) :=
   have h : FSound RO Try.prog 126 (pool_Pool__Table_c pool_Pool__width) := (pool_Pool__Table_run pool_Pool__width) ▸ run_sound (gcons pool_Pool__width_ent (pool_Pool__width_sound) <| gnil) mixed Try.func126 (by kernel_rfl) _
   h

/-- (*haymow/large.Large).table -/
noncomputable def large_Large__table_c {O : Type} (k126 : Sm O) : Sm O := fun xs σ =>
 bif Nat.beq xs.length 1 then
 (AV.asP (xs.getD 0 .u)).bind fun p0 =>
 let σ1 := σ.bump 1
 let σ2 := σ1.put σ.next (.cells true 136 [(.p none), (.i .i64 0), (.i .i64 0), (.i .i64 0), (.i .i64 0)])
 Option.bind p0 fun q3 =>
 (σ2.ld q3.1 (q3.2 + 1)).bind fun w4 =>
 (AV.asP w4).bind fun p5 =>
 (k126 [(.p p5), (.i .i64 2), (.i .i64 3)] σ2).bind fun r6 =>
 (AV.asAgg 5 r6.1).bind fun c7 =>
 (AV.asP (c7.getD 0 .u)).bind fun p8 =>
 (AV.asI .i64 (c7.getD 1 .u)).bind fun n9 =>
 (AV.asI .i64 (c7.getD 2 .u)).bind fun n10 =>
 (AV.asI .i64 (c7.getD 3 .u)).bind fun n11 =>
 (AV.asI .i64 (c7.getD 4 .u)).bind fun n12 =>
 (r6.2.st (.n σ.next) 0 [(.p p8), (.i .i64 n9), (.i .i64 n10), (.i .i64 n11), (.i .i64 n12)]).bind fun σ13 =>
 (σ13.ld (.n σ.next) 0).bind fun w14 =>
 (AV.asP w14).bind fun p15 =>
 (σ13.ld (.n σ.next) 1).bind fun w16 =>
 (AV.asI .i64 w16).bind fun n17 =>
 (σ13.ld (.n σ.next) 2).bind fun w18 =>
 (AV.asI .i64 w18).bind fun n19 =>
 (σ13.ld (.n σ.next) 3).bind fun w20 =>
 (AV.asI .i64 w20).bind fun n21 =>
 (σ13.ld (.n σ.next) 4).bind fun w22 =>
 (AV.asI .i64 w22).bind fun n23 =>
 some ((.agg [(.p p15), (.i .i64 n17), (.i .i64 n19), (.i .i64 n21), (.i .i64 n23)]), σ13)
 else none
noncomputable def large_Large__table {O : Type} : Sm O := large_Large__table_c pool_Pool__Table
theorem large_Large__table_ent : Entered Try.prog 84 := Try.call84
theorem large_Large__table_run {O : Type} (k126 : Sm O) : run (O := O) Try.prog [(126, k126)] Try.f84 (.n .z .z) = large_Large__table_c k126 := by kernel_rfl
theorem large_Large__table_sound {O : Type} {RO : O → Loc → (Nat → Option Obj) → Prop} : FSound RO Try.prog 84 (large_Large__table) :=
   have h : FSound RO Try.prog 84 (large_Large__table_c pool_Pool__Table) := (large_Large__table_run pool_Pool__Table) ▸ run_sound (gcons pool_Pool__Table_ent (pool_Pool__Table_sound) <| gnil) mixed Try.func84 (by kernel_rfl) _
   h

/-- (haymow/chain.Table).Right$1 -/
noncomputable def chain_Table__Right_1_c {O : Type} : Sm O := fun xs σ =>
 bif Nat.beq xs.length 2 then
 (AV.asI .i64 (xs.getD 0 .u)).bind fun n0 =>
 ((bif ((decide (n0 ≥ 0)) == true) then
 (AV.asPS (xs.getD 1 .u)).bind fun q1 =>
 (σ.ld q1.1 (q1.2 + 2)).bind fun w2 =>
 (AV.asI .i64 w2).bind fun n3 =>
 some ([(.b (decide (n0 < n3)))], σ)
 else some ([(.b false)], σ)) : Option (List AV × AH O)).bind fun r4 =>
 (AV.asB (r4.1.getD 0 .u)).bind fun b5 =>
 some ((.b b5), r4.2)
 else none
noncomputable def chain_Table__Right_1 {O : Type} : Sm O := chain_Table__Right_1_c
theorem chain_Table__Right_1_ent : Entered Try.prog 161 := Try.call161
theorem chain_Table__Right_1_run {O : Type} : run (O := O) Try.prog [] Try.f161 (.n .z (.n (.g [(2, 4, [(11, .one .b)])]) .z)) = chain_Table__Right_1_c  := by kernel_rfl
theorem chain_Table__Right_1_sound {O : Type} {RO : O → Loc → (Nat → Option Obj) → Prop} : FSound RO Try.prog 161 (chain_Table__Right_1) :=
   have h : FSound RO Try.prog 161 (chain_Table__Right_1_c) := (chain_Table__Right_1_run) ▸ run_sound (gnil) mixed Try.func161 (by kernel_rfl) _
   h

/-- (haymow/chain.Table).Right -/
noncomputable def chain_Table__Right_c {O : Type} (k161 : Sm O) : Sm O := fun xs σ =>
 bif Nat.beq xs.length 1 then
 (AV.asAgg 5 (xs.getD 0 .u)).bind fun c0 =>
 (AV.asP (c0.getD 0 .u)).bind fun p1 =>
 (AV.asI .i64 (c0.getD 1 .u)).bind fun n2 =>
 (AV.asI .i64 (c0.getD 2 .u)).bind fun n3 =>
 (AV.asI .i64 (c0.getD 3 .u)).bind fun n4 =>
 (AV.asI .i64 (c0.getD 4 .u)).bind fun n5 =>
 let σ6 := σ.bump 1
 let σ7 := σ6.put σ.next (.cells true 136 [(.p p1), (.i .i64 n2), (.i .i64 n3), (.i .i64 n4), (.i .i64 n5)])
 (σ7.ld (.n σ.next) 0).bind fun w8 =>
 (AV.asP w8).bind fun p9 =>
 ((bif ((!(Option.isNone p9)) == true) then
 (σ7.ld (.n σ.next) 2).bind fun w10 =>
 (AV.asI .i64 w10).bind fun n11 =>
 some ([(.b (decide (n11 ≥ 2)))], σ7)
 else some ([(.b false)], σ7)) : Option (List AV × AH O)).bind fun r12 =>
 (AV.asB (r12.1.getD 0 .u)).bind fun b13 =>
 ((bif (b13 == true) then
 (r12.2.ld (.n σ.next) 2).bind fun w14 =>
 (AV.asI .i64 w14).bind fun n15 =>
 some ([(.b (decide (n15 ≤ 64)))], r12.2)
 else some ([(.b false)], r12.2)) : Option (List AV × AH O)).bind fun r16 =>
 (AV.asB (r16.1.getD 0 .u)).bind fun b17 =>
 ((bif (b17 == true) then
 (r16.2.ld (.n σ.next) 3).bind fun w18 =>
 (AV.asI .i64 w18).bind fun n19 =>
 (k161 [(.i .i64 n19), (.p (some ((.n σ.next), 0)))] r16.2).bind fun r20 =>
 (AV.asB r20.1).bind fun b21 =>
 some ([(.b b21)], r20.2)
 else some ([(.b false)], r16.2)) : Option (List AV × AH O)).bind fun r22 =>
 (AV.asB (r22.1.getD 0 .u)).bind fun b23 =>
 ((bif (b23 == true) then
 (r22.2.ld (.n σ.next) 4).bind fun w24 =>
 (AV.asI .i64 w24).bind fun n25 =>
 (k161 [(.i .i64 n25), (.p (some ((.n σ.next), 0)))] r22.2).bind fun r26 =>
 (AV.asB r26.1).bind fun b27 =>
 some ([(.b b27)], r26.2)
 else some ([(.b false)], r22.2)) : Option (List AV × AH O)).bind fun r28 =>
 (AV.asB (r28.1.getD 0 .u)).bind fun b29 =>
 ((bif (b29 == true) then
 (r28.2.ld (.n σ.next) 3).bind fun w30 =>
 (AV.asI .i64 w30).bind fun n31 =>
 (r28.2.ld (.n σ.next) 4).bind fun w32 =>
 (AV.asI .i64 w32).bind fun n33 =>
 some ([(.b ((n31 : Int) != n33))], r28.2)
 else some ([(.b false)], r28.2)) : Option (List AV × AH O)).bind fun r34 =>
 (AV.asB (r34.1.getD 0 .u)).bind fun b35 =>
 some ((.b b35), r34.2)
 else none
noncomputable def chain_Table__Right {O : Type} : Sm O := chain_Table__Right_c chain_Table__Right_1
theorem chain_Table__Right_ent : Entered Try.prog 140 := Try.call140
theorem chain_Table__Right_run {O : Type} (k161 : Sm O) : run (O := O) Try.prog [(161, k161)] Try.f140 (.n .z (.n .z (.n (.g [(3, 3, [(12, .one .b)]), (8, 3, [(17, .one .b)]), (13, 4, [(23, .one .b)]), (19, 4, [(29, .one .b)]), (25, 5, [(36, .one .b)])]) .z))) = chain_Table__Right_c k161 := by kernel_rfl
theorem chain_Table__Right_sound {O : Type} {RO : O → Loc → (Nat → Option Obj) → Prop} : FSound RO Try.prog 140 (chain_Table__Right) :=
   have h : FSound RO Try.prog 140 (chain_Table__Right_c chain_Table__Right_1) := (chain_Table__Right_run chain_Table__Right_1) ▸ run_sound (gcons chain_Table__Right_1_ent (chain_Table__Right_1_sound) <| gnil) mixed Try.func140 (by kernel_rfl) _
   h

/-- (*haymow/mem.Mem).Size -/
noncomputable def mem_Mem__Size_c {O : Type} (k138 : Sm O) : Sm O := fun xs σ =>
 bif Nat.beq xs.length 2 then
 (AV.asP (xs.getD 0 .u)).bind fun p0 =>
 (AV.asI .i64 (xs.getD 1 .u)).bind fun n1 =>
 (k138 [(.p p0), (.i .i64 n1)] σ).bind fun r2 =>
 (AV.asP r2.1).bind fun p3 =>
 (bif (Option.isNone p3) then
 some ((.tup [(.i .i64 0), (.i .i64 10)]), r2.2)
 else Option.bind p3 fun q4 =>
 (r2.2.ld q4.1 q4.2).bind fun w5 =>
 (AV.asSl w5).bind fun l6 =>
 some ((.tup [(.i .i64 (l6.2 : Int)), (.i .i64 0)]), r2.2))
 else none
noncomputable def mem_Mem__Size {O : Type} : Sm O := mem_Mem__Size_c mem_Mem__at
theorem mem_Mem__Size_ent : Entered Try.prog 169 := Try.call169
theorem mem_Mem__Size_run {O : Type} (k138 : Sm O) : run (O := O) Try.prog [(138, k138)] Try.f169 (.n .z (.n .z (.n (.n .z (.n .z .z)) .z))) = mem_Mem__Size_c k138 := by kernel_rfl
theorem mem_Mem__Size_sound {O : Type} {RO : O → Loc → (Nat → Option Obj) → Prop} : FSound RO Try.prog 169 (mem_Mem__Size) :=
   have h : FSound RO Try.prog 169 (mem_Mem__Size_c mem_Mem__at) := (mem_Mem__Size_run mem_Mem__at) ▸ run_sound (gcons mem_Mem__at_ent (mem_Mem__at_sound) <| gnil) mixed Try.func169 (by kernel_rfl) _
   h

/-- (haymow/chain.Table).Entries -/
noncomputable def chain_Table__Entries_c {O : Type} (k140 k169 : Sm O) : Sm O := fun xs σ =>
 bif Nat.beq xs.length 1 then
 (AV.asAgg 5 (xs.getD 0 .u)).bind fun c0 =>
 (AV.asP (c0.getD 0 .u)).bind fun p1 =>
 (AV.asI .i64 (c0.getD 1 .u)).bind fun n2 =>
 (AV.asI .i64 (c0.getD 2 .u)).bind fun n3 =>
 (AV.asI .i64 (c0.getD 3 .u)).bind fun n4 =>
 (AV.asI .i64 (c0.getD 4 .u)).bind fun n5 =>
 let σ6 := σ.bump 1
 let σ7 := σ6.put σ.next (.cells true 136 [(.p p1), (.i .i64 n2), (.i .i64 n3), (.i .i64 n4), (.i .i64 n5)])
 (σ7.ld (.n σ.next) 0).bind fun w8 =>
 (AV.asP w8).bind fun p9 =>
 (σ7.ld (.n σ.next) 1).bind fun w10 =>
 (AV.asI .i64 w10).bind fun n11 =>
 (σ7.ld (.n σ.next) 2).bind fun w12 =>
 (AV.asI .i64 w12).bind fun n13 =>
 (σ7.ld (.n σ.next) 3).bind fun w14 =>
 (AV.asI .i64 w14).bind fun n15 =>
 (σ7.ld (.n σ.next) 4).bind fun w16 =>
 (AV.asI .i64 w16).bind fun n17 =>
 (k140 [(.agg [(.p p9), (.i .i64 n11), (.i .i64 n13), (.i .i64 n15), (.i .i64 n17)])] σ7).bind fun r18 =>
 (AV.asB r18.1).bind fun b19 =>
 (bif (!b19) then
 some ((.i .i64 0), r18.2)
 else (r18.2.ld (.n σ.next) 0).bind fun w20 =>
 (AV.asP w20).bind fun p21 =>
 (r18.2.ld (.n σ.next) 1).bind fun w22 =>
 (AV.asI .i64 w22).bind fun n23 =>
 (k169 [(.p p21), (.i .i64 n23)] r18.2).bind fun r24 =>
 (AV.asTup 2 r24.1).bind fun c25 =>
 (AV.asI .i64 (c25.getD 0 .u)).bind fun n26 =>
 (AV.asI .i64 (c25.getD 1 .u)).bind fun n27 =>
 (r24.2.ld (.n σ.next) 2).bind fun w28 =>
 (AV.asI .i64 w28).bind fun n29 =>
 (bif (n29 == 0) then
 none
 else some ((.i .i64 (IntKind.i64.wrap (Int.tdiv n26 n29))), r24.2)))
 else none
noncomputable def chain_Table__Entries {O : Type} : Sm O := chain_Table__Entries_c chain_Table__Right mem_Mem__Size
theorem chain_Table__Entries_ent : Entered Try.prog 156 := Try.call156
theorem chain_Table__Entries_run {O : Type} (k140 k169 : Sm O) : run (O := O) Try.prog [(140, k140), (169, k169)] Try.f156 (.n .z (.n (.n .z (.n .z .z)) (.n .z .z))) = chain_Table__Entries_c k140 k169 := by kernel_rfl
theorem chain_Table__Entries_sound {O : Type} {RO : O → Loc → (Nat → Option Obj) → Prop} : FSound RO Try.prog 156 (chain_Table__Entries) :=
   have h : FSound RO Try.prog 156 (chain_Table__Entries_c chain_Table__Right mem_Mem__Size) := (chain_Table__Entries_run chain_Table__Right mem_Mem__Size) ▸ run_sound (gcons chain_Table__Right_ent (chain_Table__Right_sound) <| gcons mem_Mem__Size_ent (mem_Mem__Size_sound) <| gnil) mixed Try.func156 (by kernel_rfl) _
   h

/-- (haymow/chain.Table).check -/
noncomputable def chain_Table__check_c {O : Type} (k140 k156 : Sm O) : Sm O := fun xs σ =>
 bif Nat.beq xs.length 2 then
 (AV.asAgg 5 (xs.getD 0 .u)).bind fun c0 =>
 (AV.asP (c0.getD 0 .u)).bind fun p1 =>
 (AV.asI .i64 (c0.getD 1 .u)).bind fun n2 =>
 (AV.asI .i64 (c0.getD 2 .u)).bind fun n3 =>
 (AV.asI .i64 (c0.getD 3 .u)).bind fun n4 =>
 (AV.asI .i64 (c0.getD 4 .u)).bind fun n5 =>
 (AV.asI .i64 (xs.getD 1 .u)).bind fun n6 =>
 let σ7 := σ.bump 1
 let σ8 := σ7.put σ.next (.cells true 136 [(.p p1), (.i .i64 n2), (.i .i64 n3), (.i .i64 n4), (.i .i64 n5)])
 (σ8.ld (.n σ.next) 0).bind fun w9 =>
 (AV.asP w9).bind fun p10 =>
 (σ8.ld (.n σ.next) 1).bind fun w11 =>
 (AV.asI .i64 w11).bind fun n12 =>
 (σ8.ld (.n σ.next) 2).bind fun w13 =>
 (AV.asI .i64 w13).bind fun n14 =>
 (σ8.ld (.n σ.next) 3).bind fun w15 =>
 (AV.asI .i64 w15).bind fun n16 =>
 (σ8.ld (.n σ.next) 4).bind fun w17 =>
 (AV.asI .i64 w17).bind fun n18 =>
 (k140 [(.agg [(.p p10), (.i .i64 n12), (.i .i64 n14), (.i .i64 n16), (.i .i64 n18)])] σ8).bind fun r19 =>
 (AV.asB r19.1).bind fun b20 =>
 (bif (!b20) then
 some ((.i .i64 1), r19.2)
 else ((bif ((decide (n6 < 1)) == false) then
 (r19.2.ld (.n σ.next) 0).bind fun w21 =>
 (AV.asP w21).bind fun p22 =>
 (r19.2.ld (.n σ.next) 1).bind fun w23 =>
 (AV.asI .i64 w23).bind fun n24 =>
 (r19.2.ld (.n σ.next) 2).bind fun w25 =>
 (AV.asI .i64 w25).bind fun n26 =>
 (r19.2.ld (.n σ.next) 3).bind fun w27 =>
 (AV.asI .i64 w27).bind fun n28 =>
 (r19.2.ld (.n σ.next) 4).bind fun w29 =>
 (AV.asI .i64 w29).bind fun n30 =>
 (k156 [(.agg [(.p p22), (.i .i64 n24), (.i .i64 n26), (.i .i64 n28), (.i .i64 n30)])] r19.2).bind fun r31 =>
 (AV.asI .i64 r31.1).bind fun n32 =>
 some ([(.b (decide (n6 > n32)))], r31.2)
 else some ([(.b true)], r19.2)) : Option (List AV × AH O)).bind fun r33 =>
 (AV.asB (r33.1.getD 0 .u)).bind fun b34 =>
 (bif b34 then
 some ((.i .i64 2), r33.2)
 else some ((.i .i64 0), r33.2)))
 else none
noncomputable def chain_Table__check {O : Type} : Sm O := chain_Table__check_c chain_Table__Right chain_Table__Entries
theorem chain_Table__check_ent : Entered Try.prog 127 := Try.call127
theorem chain_Table__check_run {O : Type} (k140 k156 : Sm O) : run (O := O) Try.prog [(140, k140), (156, k156)] Try.f127 (.n .z (.n (.n (.n .z (.n .z (.n (.g [(2, 4, [(17, .one .b)])]) (.n .z .z)))) .z) .z)) = chain_Table__check_c k140 k156 := by kernel_rfl
theorem chain_Table__check_sound {O : Type} {RO : O → Loc → (Nat → Option Obj) → Prop} : FSound RO Try.prog 127 (chain_Table__check) :=
   have h : FSound RO Try.prog 127 (chain_Table__check_c chain_Table__Right chain_Table__Entries) := (chain_Table__check_run chain_Table__Right chain_Table__Entries) ▸ run_sound (gcons chain_Table__Right_ent (chain_Table__Right_sound) <| gcons chain_Table__Entries_ent (chain_Table__Entries_sound) <| gnil) mixed Try.func127 (by kernel_rfl) _
   h

/-- (haymow/chain.Table).at -/
noncomputable def chain_Table__at_c {O : Type} : Sm O := fun xs σ =>
 bif Nat.beq xs.length 3 then
 (AV.asAgg 5 (xs.getD 0 .u)).bind fun c0 =>
 (AV.asP (c0.getD 0 .u)).bind fun p1 =>
 (AV.asI .i64 (c0.getD 1 .u)).bind fun n2 =>
 (AV.asI .i64 (c0.getD 2 .u)).bind fun n3 =>
 (AV.asI .i64 (c0.getD 3 .u)).bind fun n4 =>
 (AV.asI .i64 (c0.getD 4 .u)).bind fun n5 =>
 (AV.asI .i64 (xs.getD 1 .u)).bind fun n6 =>
 (AV.asI .i64 (xs.getD 2 .u)).bind fun n7 =>
 let σ8 := σ.bump 1
 let σ9 := σ8.put σ.next (.cells true 136 [(.p p1), (.i .i64 n2), (.i .i64 n3), (.i .i64 n4), (.i .i64 n5)])
 (σ9.ld (.n σ.next) 2).bind fun w10 =>
 (AV.asI .i64 w10).bind fun n11 =>
 let v12 : Int := (IntKind.i64.wrap ((IntKind.i64.wrap (n6 - 1)) * n11))
 some ((.i .i64 (IntKind.i64.wrap (v12 + n7))), σ9)
 else none
noncomputable def chain_Table__at {O : Type} : Sm O := chain_Table__at_c
theorem chain_Table__at_ent : Entered Try.prog 157 := Try.call157
theorem chain_Table__at_run {O : Type} : run (O := O) Try.prog [] Try.f157 (.n .z .z) = chain_Table__at_c  := by kernel_rfl
theorem chain_Table__at_sound {O : Type} {RO : O → Loc → (Nat → Option Obj) → Prop} : FSound RO Try.prog 157 (chain_Table__at) :=
   have h : FSound RO Try.prog 157 (chain_Table__at_c) := (chain_Table__at_run) ▸ run_sound (gnil) mixed Try.func157 (by kernel_rfl) _
   h

/-- (haymow/chain.Table).set -/
noncomputable def chain_Table__set_c {O : Type} (k157 k89 : Sm O) : Sm O := fun xs σ =>
 bif Nat.beq xs.length 4 then
 (AV.asAgg 5 (xs.getD 0 .u)).bind fun c0 =>
 (AV.asP (c0.getD 0 .u)).bind fun p1 =>
 (AV.asI .i64 (c0.getD 1 .u)).bind fun n2 =>
 (AV.asI .i64 (c0.getD 2 .u)).bind fun n3 =>
 (AV.asI .i64 (c0.getD 3 .u)).bind fun n4 =>
 (AV.asI .i64 (c0.getD 4 .u)).bind fun n5 =>
 (AV.asI .i64 (xs.getD 1 .u)).bind fun n6 =>
 (AV.asI .i64 (xs.getD 2 .u)).bind fun n7 =>
 (AV.asI .i64 (xs.getD 3 .u)).bind fun n8 =>
 let σ9 := σ.bump 1
 let σ10 := σ9.put σ.next (.cells true 136 [(.p p1), (.i .i64 n2), (.i .i64 n3), (.i .i64 n4), (.i .i64 n5)])
 (σ10.ld (.n σ.next) 0).bind fun w11 =>
 (AV.asP w11).bind fun p12 =>
 (σ10.ld (.n σ.next) 1).bind fun w13 =>
 (AV.asI .i64 w13).bind fun n14 =>
 (σ10.ld (.n σ.next) 0).bind fun w15 =>
 (AV.asP w15).bind fun p16 =>
 (σ10.ld (.n σ.next) 1).bind fun w17 =>
 (AV.asI .i64 w17).bind fun n18 =>
 (σ10.ld (.n σ.next) 2).bind fun w19 =>
 (AV.asI .i64 w19).bind fun n20 =>
 (σ10.ld (.n σ.next) 3).bind fun w21 =>
 (AV.asI .i64 w21).bind fun n22 =>
 (σ10.ld (.n σ.next) 4).bind fun w23 =>
 (AV.asI .i64 w23).bind fun n24 =>
 (k157 [(.agg [(.p p16), (.i .i64 n18), (.i .i64 n20), (.i .i64 n22), (.i .i64 n24)]), (.i .i64 n6), (.i .i64 n7)] σ10).bind fun r25 =>
 (AV.asI .i64 r25.1).bind fun n26 =>
 (chkE (r25.2.ld (.n σ.next) 0) (some (.p p12))).bind fun _ =>
 (chkE (r25.2.ld (.n σ.next) 1) (some (.i .i64 n14))).bind fun _ =>
 (k89 [(.p p12), (.i .i64 n14), (.i .i64 n26), (.i .u64 (IntKind.u64.wrap n8))] r25.2).bind fun r27 =>
 (AV.asI .i64 r27.1).bind fun n28 =>
 some ((.tup []), r27.2)
 else none
noncomputable def chain_Table__set {O : Type} : Sm O := chain_Table__set_c chain_Table__at mem_Mem__Write
theorem chain_Table__set_ent : Entered Try.prog 128 := Try.call128
theorem chain_Table__set_run {O : Type} (k157 k89 : Sm O) : run (O := O) Try.prog [(157, k157), (89, k89)] Try.f128 (.n .z (.d [] [0, 1, 2, 3, 4, 5, 6, 8, 9, 7, 10] [0, 1, 0, 4, 0, 0, 0, 112, 0, 256, 1023])) = chain_Table__set_c k157 k89 := by kernel_rfl
theorem chain_Table__set_sound {O : Type} {RO : O → Loc → (Nat → Option Obj) → Prop} : FSound RO Try.prog 128 (chain_Table__set) :=
   have h : FSound RO Try.prog 128 (chain_Table__set_c chain_Table__at mem_Mem__Write) := (chain_Table__set_run chain_Table__at mem_Mem__Write) ▸ run_sound (gcons chain_Table__at_ent (chain_Table__at_sound) <| gcons mem_Mem__Write_ent (mem_Mem__Write_sound) <| gnil) mixed Try.func128 (by kernel_rfl) _
   h

/-- (haymow/chain.Table).Push -/
noncomputable def chain_Table__Push_c {O : Type} (k127 k128 : Sm O) : Sm O := fun xs σ =>
 bif Nat.beq xs.length 3 then
 (AV.asAgg 5 (xs.getD 0 .u)).bind fun c0 =>
 (AV.asP (c0.getD 0 .u)).bind fun p1 =>
 (AV.asI .i64 (c0.getD 1 .u)).bind fun n2 =>
 (AV.asI .i64 (c0.getD 2 .u)).bind fun n3 =>
 (AV.asI .i64 (c0.getD 3 .u)).bind fun n4 =>
 (AV.asI .i64 (c0.getD 4 .u)).bind fun n5 =>
 (AV.asAgg 3 (xs.getD 1 .u)).bind fun c6 =>
 (AV.asI .i64 (c6.getD 0 .u)).bind fun n7 =>
 (AV.asI .i64 (c6.getD 1 .u)).bind fun n8 =>
 (AV.asI .i64 (c6.getD 2 .u)).bind fun n9 =>
 (AV.asI .i64 (xs.getD 2 .u)).bind fun n10 =>
 let σ11 := σ.bump 3
 let σ12 := σ11.put σ.next (.cells true 136 [(.p p1), (.i .i64 n2), (.i .i64 n3), (.i .i64 n4), (.i .i64 n5)])
 let σ13 := σ12.put (σ.next + 1) (.cells true 130 [(.i .i64 n7), (.i .i64 n8), (.i .i64 n9)])
 let σ14 := σ13.put ((σ.next + 1) + 1) (.cells true 130 [(.i .i64 0), (.i .i64 0), (.i .i64 0)])
 (σ14.ld (.n σ.next) 0).bind fun w15 =>
 (AV.asP w15).bind fun p16 =>
 (σ14.ld (.n σ.next) 1).bind fun w17 =>
 (AV.asI .i64 w17).bind fun n18 =>
 (σ14.ld (.n σ.next) 2).bind fun w19 =>
 (AV.asI .i64 w19).bind fun n20 =>
 (σ14.ld (.n σ.next) 3).bind fun w21 =>
 (AV.asI .i64 w21).bind fun n22 =>
 (σ14.ld (.n σ.next) 4).bind fun w23 =>
 (AV.asI .i64 w23).bind fun n24 =>
 (k127 [(.agg [(.p p16), (.i .i64 n18), (.i .i64 n20), (.i .i64 n22), (.i .i64 n24)]), (.i .i64 n10)] σ14).bind fun r25 =>
 (AV.asI .i64 r25.1).bind fun n26 =>
 (bif ((n26 : Int) != 0) then
 (r25.2.ld (.n (σ.next + 1)) 0).bind fun w27 =>
 (AV.asI .i64 w27).bind fun n28 =>
 (r25.2.ld (.n (σ.next + 1)) 1).bind fun w29 =>
 (AV.asI .i64 w29).bind fun n30 =>
 (r25.2.ld (.n (σ.next + 1)) 2).bind fun w31 =>
 (AV.asI .i64 w31).bind fun n32 =>
 (r25.2.st (.n ((σ.next + 1) + 1)) 0 [(.i .i64 n28), (.i .i64 n30), (.i .i64 n32)]).bind fun σ33 =>
 (σ33.ld (.n ((σ.next + 1) + 1)) 0).bind fun w34 =>
 (AV.asI .i64 w34).bind fun n35 =>
 (σ33.ld (.n ((σ.next + 1) + 1)) 1).bind fun w36 =>
 (AV.asI .i64 w36).bind fun n37 =>
 (σ33.ld (.n ((σ.next + 1) + 1)) 2).bind fun w38 =>
 (AV.asI .i64 w38).bind fun n39 =>
 some ((.tup [(.agg [(.i .i64 n35), (.i .i64 n37), (.i .i64 n39)]), (.i .i64 n26)]), σ33)
 else (r25.2.ld (.n σ.next) 0).bind fun w40 =>
 (AV.asP w40).bind fun p41 =>
 (r25.2.ld (.n σ.next) 1).bind fun w42 =>
 (AV.asI .i64 w42).bind fun n43 =>
 (r25.2.ld (.n σ.next) 2).bind fun w44 =>
 (AV.asI .i64 w44).bind fun n45 =>
 (r25.2.ld (.n σ.next) 3).bind fun w46 =>
 (AV.asI .i64 w46).bind fun n47 =>
 (r25.2.ld (.n σ.next) 4).bind fun w48 =>
 (AV.asI .i64 w48).bind fun n49 =>
 (r25.2.ld (.n σ.next) 4).bind fun w50 =>
 (AV.asI .i64 w50).bind fun n51 =>
 (r25.2.ld (.n (σ.next + 1)) 1).bind fun w52 =>
 (AV.asI .i64 w52).bind fun n53 =>
 (k128 [(.agg [(.p p41), (.i .i64 n43), (.i .i64 n45), (.i .i64 n47), (.i .i64 n49)]), (.i .i64 n10), (.i .i64 n51), (.i .i64 n53)] r25.2).bind fun r54 =>
 (AV.asTup 0 r54.1).bind fun c55 =>
 (r54.2.ld (.n σ.next) 0).bind fun w56 =>
 (AV.asP w56).bind fun p57 =>
 (r54.2.ld (.n σ.next) 1).bind fun w58 =>
 (AV.asI .i64 w58).bind fun n59 =>
 (r54.2.ld (.n σ.next) 2).bind fun w60 =>
 (AV.asI .i64 w60).bind fun n61 =>
 (r54.2.ld (.n σ.next) 3).bind fun w62 =>
 (AV.asI .i64 w62).bind fun n63 =>
 (r54.2.ld (.n σ.next) 4).bind fun w64 =>
 (AV.asI .i64 w64).bind fun n65 =>
 (r54.2.ld (.n σ.next) 3).bind fun w66 =>
 (AV.asI .i64 w66).bind fun n67 =>
 (k128 [(.agg [(.p p57), (.i .i64 n59), (.i .i64 n61), (.i .i64 n63), (.i .i64 n65)]), (.i .i64 n10), (.i .i64 n67), (.i .i64 0)] r54.2).bind fun r68 =>
 (AV.asTup 0 r68.1).bind fun c69 =>
 (r68.2.ld (.n (σ.next + 1)) 2).bind fun w70 =>
 (AV.asI .i64 w70).bind fun n71 =>
 (bif ((n71 : Int) == 0) then
 (r68.2.st (.n ((σ.next + 1) + 1)) 0 [(.i .i64 n10), (.i .i64 n10), (.i .i64 1)]).bind fun σ72 =>
 (σ72.ld (.n ((σ.next + 1) + 1)) 0).bind fun w73 =>
 (AV.asI .i64 w73).bind fun n74 =>
 (σ72.ld (.n ((σ.next + 1) + 1)) 1).bind fun w75 =>
 (AV.asI .i64 w75).bind fun n76 =>
 (σ72.ld (.n ((σ.next + 1) + 1)) 2).bind fun w77 =>
 (AV.asI .i64 w77).bind fun n78 =>
 some ((.tup [(.agg [(.i .i64 n74), (.i .i64 n76), (.i .i64 n78)]), (.i .i64 0)]), σ72)
 else (r68.2.ld (.n σ.next) 0).bind fun w79 =>
 (AV.asP w79).bind fun p80 =>
 (r68.2.ld (.n σ.next) 1).bind fun w81 =>
 (AV.asI .i64 w81).bind fun n82 =>
 (r68.2.ld (.n σ.next) 2).bind fun w83 =>
 (AV.asI .i64 w83).bind fun n84 =>
 (r68.2.ld (.n σ.next) 3).bind fun w85 =>
 (AV.asI .i64 w85).bind fun n86 =>
 (r68.2.ld (.n σ.next) 4).bind fun w87 =>
 (AV.asI .i64 w87).bind fun n88 =>
 (r68.2.ld (.n (σ.next + 1)) 1).bind fun w89 =>
 (AV.asI .i64 w89).bind fun n90 =>
 (r68.2.ld (.n σ.next) 3).bind fun w91 =>
 (AV.asI .i64 w91).bind fun n92 =>
 (k128 [(.agg [(.p p80), (.i .i64 n82), (.i .i64 n84), (.i .i64 n86), (.i .i64 n88)]), (.i .i64 n90), (.i .i64 n92), (.i .i64 n10)] r68.2).bind fun r93 =>
 (AV.asTup 0 r93.1).bind fun c94 =>
 (r93.2.ld (.n (σ.next + 1)) 0).bind fun w95 =>
 (AV.asI .i64 w95).bind fun n96 =>
 (r93.2.ld (.n (σ.next + 1)) 2).bind fun w97 =>
 (AV.asI .i64 w97).bind fun n98 =>
 (r93.2.st (.n ((σ.next + 1) + 1)) 0 [(.i .i64 n96), (.i .i64 n10), (.i .i64 (IntKind.i64.wrap (n98 + 1)))]).bind fun σ99 =>
 (σ99.ld (.n ((σ.next + 1) + 1)) 0).bind fun w100 =>
 (AV.asI .i64 w100).bind fun n101 =>
 (σ99.ld (.n ((σ.next + 1) + 1)) 1).bind fun w102 =>
 (AV.asI .i64 w102).bind fun n103 =>
 (σ99.ld (.n ((σ.next + 1) + 1)) 2).bind fun w104 =>
 (AV.asI .i64 w104).bind fun n105 =>
 some ((.tup [(.agg [(.i .i64 n101), (.i .i64 n103), (.i .i64 n105)]), (.i .i64 0)]), σ99)))
 else none
noncomputable def chain_Table__Push {O : Type} : Sm O := chain_Table__Push_c chain_Table__check chain_Table__set
theorem chain_Table__Push_ent : Entered Try.prog 63 := Try.call63
theorem chain_Table__Push_run {O : Type} (k127 k128 : Sm O) : run (O := O) Try.prog [(127, k127), (128, k128)] Try.f63 (.n .z (.n (.n .z (.n .z (.n .z .z))) (.n .z (.n .z (.n (.n .z (.n .z .z)) (.n .z .z)))))) = chain_Table__Push_c k127 k128 := by kernel_rfl
theorem chain_Table__Push_sound {O : Type} {RO : O → Loc → (Nat → Option Obj) → Prop} : FSound RO Try.prog 63 (chain_Table__Push) :=
   have h : FSound RO Try.prog 63 (chain_Table__Push_c chain_Table__check chain_Table__set) := (chain_Table__Push_run chain_Table__check chain_Table__set) ▸ run_sound (gcons chain_Table__check_ent (chain_Table__check_sound) <| gcons chain_Table__set_ent (chain_Table__set_sound) <| gnil) mixed Try.func63 (by kernel_rfl) _
   h

/-- (*haymow/large.Large).Add -/
noncomputable def large_Large__Add_c {O : Type} (k82 k60 k83 k61 k84 k63 : Sm O) : Sm O := fun xs σ =>
 bif Nat.beq xs.length 2 then
 (AV.asP (xs.getD 0 .u)).bind fun p0 =>
 (AV.asI .i64 (xs.getD 1 .u)).bind fun n1 =>
 (bif (decide (n1 < 1)) then
 some ((.tup [(.i .i64 0), (.i .i64 1)]), σ)
 else Option.bind p0 fun q2 =>
 (σ.ld q2.1 q2.2).bind fun w3 =>
 (AV.asP w3).bind fun p4 =>
 (k82 [(.p p4), (.i .i64 n1)] σ).bind fun r5 =>
 (AV.asTup 2 r5.1).bind fun c6 =>
 (AV.asI .i64 (c6.getD 0 .u)).bind fun n7 =>
 (AV.asI .i64 (c6.getD 1 .u)).bind fun n8 =>
 (bif ((n8 : Int) != 0) then
 some ((.tup [(.i .i64 0), (.i .i64 n8)]), r5.2)
 else Option.bind p0 fun q9 =>
 (r5.2.ld q9.1 (q9.2 + 1)).bind fun w10 =>
 (AV.asP w10).bind fun p11 =>
 (k60 [(.p p11)] r5.2).bind fun r12 =>
 (AV.asTup 2 r12.1).bind fun c13 =>
 (AV.asI .i64 (c13.getD 0 .u)).bind fun n14 =>
 (AV.asI .i64 (c13.getD 1 .u)).bind fun n15 =>
 (bif ((n15 : Int) != 0) then
 Option.bind p0 fun q16 =>
 (r12.2.ld q16.1 q16.2).bind fun w17 =>
 (AV.asP w17).bind fun p18 =>
 (k83 [(.p p18), (.i .i64 n7)] r12.2).bind fun r19 =>
 (AV.asI .i64 r19.1).bind fun n20 =>
 some ((.tup [(.i .i64 0), (.i .i64 n15)]), r19.2)
 else Option.bind p0 fun q21 =>
 (r12.2.ld q21.1 (q21.2 + 1)).bind fun w22 =>
 (AV.asP w22).bind fun p23 =>
 (k61 [(.p p23), (.i .i64 n14), (.i .i64 0), (.i .u64 (IntKind.u64.wrap n7))] r12.2).bind fun r24 =>
 (AV.asI .i64 r24.1).bind fun n25 =>
 Option.bind p0 fun q26 =>
 (r24.2.ld q26.1 (q26.2 + 1)).bind fun w27 =>
 (AV.asP w27).bind fun p28 =>
 (k61 [(.p p28), (.i .i64 n14), (.i .i64 1), (.i .u64 (IntKind.u64.wrap n1))] r24.2).bind fun r29 =>
 (AV.asI .i64 r29.1).bind fun n30 =>
 Option.bind p0 fun q31 =>
 (r29.2.ld q31.1 (q31.2 + 1)).bind fun w32 =>
 (AV.asP w32).bind fun p33 =>
 Option.bind p0 fun q34 =>
 (r29.2.ld q34.1 (q34.2 + 8)).bind fun w35 =>
 (AV.asI .u64 w35).bind fun n36 =>
 (k61 [(.p p33), (.i .i64 n14), (.i .i64 4), (.i .u64 n36)] r29.2).bind fun r37 =>
 (AV.asI .i64 r37.1).bind fun n38 =>
 Option.bind p0 fun q39 =>
 (r37.2.ld q39.1 (q39.2 + 2)).bind fun w40 =>
 (AV.asI .i64 w40).bind fun n41 =>
 (r37.2.ld q39.1 ((q39.2 + 2) + 1)).bind fun w42 =>
 (AV.asI .i64 w42).bind fun n43 =>
 (r37.2.ld q39.1 (((q39.2 + 2) + 1) + 1)).bind fun w44 =>
 (AV.asI .i64 w44).bind fun n45 =>
 (k84 [(.p p0)] r37.2).bind fun r46 =>
 (AV.asAgg 5 r46.1).bind fun c47 =>
 (AV.asP (c47.getD 0 .u)).bind fun p48 =>
 (AV.asI .i64 (c47.getD 1 .u)).bind fun n49 =>
 (AV.asI .i64 (c47.getD 2 .u)).bind fun n50 =>
 (AV.asI .i64 (c47.getD 3 .u)).bind fun n51 =>
 (AV.asI .i64 (c47.getD 4 .u)).bind fun n52 =>
 (chkE (r46.2.ld q39.1 (q39.2 + 2)) (some (.i .i64 n41))).bind fun _ =>
 (chkE (r46.2.ld q39.1 ((q39.2 + 2) + 1)) (some (.i .i64 n43))).bind fun _ =>
 (chkE (r46.2.ld q39.1 (((q39.2 + 2) + 1) + 1)) (some (.i .i64 n45))).bind fun _ =>
 (k63 [(.agg [(.p p48), (.i .i64 n49), (.i .i64 n50), (.i .i64 n51), (.i .i64 n52)]), (.agg [(.i .i64 n41), (.i .i64 n43), (.i .i64 n45)]), (.i .i64 n14)] r46.2).bind fun r53 =>
 (AV.asTup 2 r53.1).bind fun c54 =>
 (AV.asAgg 3 (c54.getD 0 .u)).bind fun c55 =>
 (AV.asI .i64 (c55.getD 0 .u)).bind fun n56 =>
 (AV.asI .i64 (c55.getD 1 .u)).bind fun n57 =>
 (AV.asI .i64 (c55.getD 2 .u)).bind fun n58 =>
 (AV.asI .i64 (c54.getD 1 .u)).bind fun n59 =>
 Option.bind p0 fun q60 =>
 (r53.2.st q60.1 (q60.2 + 2) [(.i .i64 n56), (.i .i64 n57), (.i .i64 n58)]).bind fun σ61 =>
 Option.bind p0 fun q62 =>
 (σ61.ld q62.1 (q62.2 + 10)).bind fun w63 =>
 (AV.asI .i64 w63).bind fun n64 =>
 Option.bind p0 fun q65 =>
 (σ61.st q65.1 (q65.2 + 10) [(.i .i64 (IntKind.i64.wrap (n64 + n1)))]).bind fun σ66 =>
 some ((.tup [(.i .i64 n14), (.i .i64 0)]), σ66))))
 else none
noncomputable def large_Large__Add {O : Type} : Sm O := large_Large__Add_c mem_Mem__Open pool_Pool__Take mem_Mem__Close pool_Pool__Set large_Large__table chain_Table__Push
theorem large_Large__Add_ent : Entered Try.prog 27 := Try.call27
theorem large_Large__Add_run {O : Type} (k82 k60 k83 k61 k84 k63 : Sm O) : run (O := O) Try.prog [(82, k82), (60, k60), (83, k83), (61, k61), (84, k84), (63, k63)] Try.f27 (.n .z (.n (.n .z (.n .z .z)) (.n .z (.n (.n .z (.n .z .z)) (.n .z (.n (.n .z (.n (.n .z .z) .z)) (.n .z (.n .z (.n (.d [] [0, 1, 2, 3, 4, 5, 6, 7, 8, 9] [0, 1, 3, 7, 0, 0, 32, 96, 224, 511]) (.n (.d [] [0, 1, 3, 4, 5, 6, 7, 2, 8, 9, 10, 11, 12, 13, 14] [0, 0, 2, 0, 8, 24, 56, 0, 254, 510, 1022, 1022, 2047, 6143, 14335]) (.n .z .z))))))))))) = large_Large__Add_c k82 k60 k83 k61 k84 k63 := by kernel_rfl
theorem large_Large__Add_sound {O : Type} {RO : O → Loc → (Nat → Option Obj) → Prop} : FSound RO Try.prog 27 (large_Large__Add) :=
   have h : FSound RO Try.prog 27 (large_Large__Add_c mem_Mem__Open pool_Pool__Take mem_Mem__Close pool_Pool__Set large_Large__table chain_Table__Push) := (large_Large__Add_run mem_Mem__Open pool_Pool__Take mem_Mem__Close pool_Pool__Set large_Large__table chain_Table__Push) ▸ run_sound (gcons mem_Mem__Open_ent (mem_Mem__Open_sound) <| gcons pool_Pool__Take_ent (pool_Pool__Take_sound) <| gcons mem_Mem__Close_ent (mem_Mem__Close_sound) <| gcons pool_Pool__Set_ent (pool_Pool__Set_sound) <| gcons large_Large__table_ent (large_Large__table_sound) <| gcons chain_Table__Push_ent (chain_Table__Push_sound) <| gnil) mixed Try.func27 (by kernel_rfl) _
   h

/-- (*haymow/pool.Pool).Get -/
noncomputable def pool_Pool__Get_c {O : Type} (k125 k123 k92 : Sm O) : Sm O := fun xs σ =>
 bif Nat.beq xs.length 3 then
 (AV.asP (xs.getD 0 .u)).bind fun p0 =>
 (AV.asI .i64 (xs.getD 1 .u)).bind fun n1 =>
 (AV.asI .i64 (xs.getD 2 .u)).bind fun n2 =>
 (k125 [(.p p0), (.i .i64 n1), (.i .i64 n2)] σ).bind fun r3 =>
 (AV.asI .i64 r3.1).bind fun n4 =>
 (bif ((n4 : Int) != 0) then
 some ((.tup [(.i .u64 0), (.i .i64 n4)]), r3.2)
 else Option.bind p0 fun q5 =>
 (r3.2.ld q5.1 q5.2).bind fun w6 =>
 (AV.asP w6).bind fun p7 =>
 Option.bind p0 fun q8 =>
 (r3.2.ld q8.1 (q8.2 + 1)).bind fun w9 =>
 (AV.asI .i64 w9).bind fun n10 =>
 (k123 [(.p p0), (.i .i64 n1), (.i .i64 n2)] r3.2).bind fun r11 =>
 (AV.asI .i64 r11.1).bind fun n12 =>
 (chkE (r11.2.ld q5.1 q5.2) (some (.p p7))).bind fun _ =>
 (chkE (r11.2.ld q8.1 (q8.2 + 1)) (some (.i .i64 n10))).bind fun _ =>
 (k92 [(.p p7), (.i .i64 n10), (.i .i64 n12)] r11.2).bind fun r13 =>
 (AV.asTup 2 r13.1).bind fun c14 =>
 (AV.asI .u64 (c14.getD 0 .u)).bind fun n15 =>
 (AV.asI .i64 (c14.getD 1 .u)).bind fun n16 =>
 some ((.tup [(.i .u64 n15), (.i .i64 n16)]), r13.2))
 else none
noncomputable def pool_Pool__Get {O : Type} : Sm O := pool_Pool__Get_c pool_Pool__check pool_Pool__at mem_Mem__Read
theorem pool_Pool__Get_ent : Entered Try.prog 79 := Try.call79
theorem pool_Pool__Get_run {O : Type} (k125 k123 k92 : Sm O) : run (O := O) Try.prog [(125, k125), (123, k123), (92, k92)] Try.f79 (.n .z (.n (.n .z (.n .z (.n .z .z))) (.n (.d [] [0, 1, 2, 3, 4, 5, 6, 7, 8, 9, 10, 11, 12, 13, 14, 15, 16] [0, 1, 3, 7, 0, 16, 48, 112, 0, 0, 0, 1792, 4095, 8191, 8191, 32767, 65535]) .z))) = pool_Pool__Get_c k125 k123 k92 := by kernel_rfl
theorem pool_Pool__Get_sound {O : Type} {RO : O → Loc → (Nat → Option Obj) → Prop} : FSound RO Try.prog 79 (pool_Pool__Get) :=
   have h : FSound RO Try.prog 79 (pool_Pool__Get_c pool_Pool__check pool_Pool__at mem_Mem__Read) := (pool_Pool__Get_run pool_Pool__check pool_Pool__at mem_Mem__Read) ▸ run_sound (gcons pool_Pool__check_ent (pool_Pool__check_sound) <| gcons pool_Pool__at_ent (pool_Pool__at_sound) <| gcons mem_Mem__Read_ent (mem_Mem__Read_sound) <| gnil) mixed Try.func79 (by kernel_rfl) _
   h

/-- (*haymow/large.Large).Write -/
noncomputable def large_Large__Write_c {O : Type} (k79 k89 : Sm O) : Sm O := fun xs σ =>
 bif Nat.beq xs.length 4 then
 (AV.asP (xs.getD 0 .u)).bind fun p0 =>
 (AV.asI .i64 (xs.getD 1 .u)).bind fun n1 =>
 (AV.asI .i64 (xs.getD 2 .u)).bind fun n2 =>
 (AV.asI .u64 (xs.getD 3 .u)).bind fun n3 =>
 Option.bind p0 fun q4 =>
 (σ.ld q4.1 (q4.2 + 1)).bind fun w5 =>
 (AV.asP w5).bind fun p6 =>
 (k79 [(.p p6), (.i .i64 n1), (.i .i64 0)] σ).bind fun r7 =>
 (AV.asTup 2 r7.1).bind fun c8 =>
 (AV.asI .u64 (c8.getD 0 .u)).bind fun n9 =>
 (AV.asI .i64 (c8.getD 1 .u)).bind fun n10 =>
 (bif ((n10 : Int) != 0) then
 some ((.i .i64 n10), r7.2)
 else Option.bind p0 fun q11 =>
 (r7.2.ld q11.1 q11.2).bind fun w12 =>
 (AV.asP w12).bind fun p13 =>
 (k89 [(.p p13), (.i .i64 (IntKind.i64.wrap n9)), (.i .i64 n2), (.i .u64 n3)] r7.2).bind fun r14 =>
 (AV.asI .i64 r14.1).bind fun n15 =>
 some ((.i .i64 n15), r14.2))
 else none
noncomputable def large_Large__Write {O : Type} : Sm O := large_Large__Write_c pool_Pool__Get mem_Mem__Write
theorem large_Large__Write_ent : Entered Try.prog 31 := Try.call31
theorem large_Large__Write_run {O : Type} (k79 k89 : Sm O) : run (O := O) Try.prog [(79, k79), (89, k89)] Try.f31 (.n .z (.n .z (.n (.n .z (.n .z .z)) .z))) = large_Large__Write_c k79 k89 := by kernel_rfl
theorem large_Large__Write_sound {O : Type} {RO : O → Loc → (Nat → Option Obj) → Prop} : FSound RO Try.prog 31 (large_Large__Write) :=
   have h : FSound RO Try.prog 31 (large_Large__Write_c pool_Pool__Get mem_Mem__Write) := (large_Large__Write_run pool_Pool__Get mem_Mem__Write) ▸ run_sound (gcons pool_Pool__Get_ent (pool_Pool__Get_sound) <| gcons mem_Mem__Write_ent (mem_Mem__Write_sound) <| gnil) mixed Try.func31 (by kernel_rfl) _
   h

/-- haymow/ref.ToLarge -/
noncomputable def ref_ToLarge_c {O : Type} : Sm O := fun xs σ =>
 bif Nat.beq xs.length 1 then
 (AV.asI .i64 (xs.getD 0 .u)).bind fun n0 =>
 ((bif ((decide (n0 < 1)) == false) then
 some ([(.b (decide (n0 > 1048576)))], σ)
 else some ([(.b true)], σ)) : Option (List AV × AH O)).bind fun r1 =>
 (AV.asB (r1.1.getD 0 .u)).bind fun b2 =>
 (bif b2 then
 some ((.tup [(.i .u64 0), (.i .i64 2)]), r1.2)
 else let v3 : Int := (IntKind.u64.wrap ((IntKind.u64.wrap n0) * 2 ^ 1))
 some ((.tup [(.i .u64 v3), (.i .i64 0)]), r1.2))
 else none
noncomputable def ref_ToLarge {O : Type} : Sm O := ref_ToLarge_c
theorem ref_ToLarge_ent : Entered Try.prog 109 := Try.call109
theorem ref_ToLarge_run {O : Type} : run (O := O) Try.prog [] Try.f109 (.n .z (.n (.n (.g [(2, 2, [(9, .one .b)])]) (.n .z .z)) .z)) = ref_ToLarge_c  := by kernel_rfl
theorem ref_ToLarge_sound {O : Type} {RO : O → Loc → (Nat → Option Obj) → Prop} : FSound RO Try.prog 109 (ref_ToLarge) :=
   have h : FSound RO Try.prog 109 (ref_ToLarge_c) := (ref_ToLarge_run) ▸ run_sound (gnil) mixed Try.func109 (by kernel_rfl) _
   h

/-- (*haymow/semi.Semi).Size -/
noncomputable def semi_Semi__Size_c {O : Type} (k169 : Sm O) : Sm O := fun xs σ =>
 bif Nat.beq xs.length 1 then
 (AV.asP (xs.getD 0 .u)).bind fun p0 =>
 Option.bind p0 fun q1 =>
 (σ.ld q1.1 q1.2).bind fun w2 =>
 (AV.asP w2).bind fun p3 =>
 Option.bind p0 fun q4 =>
 (σ.ld q4.1 (q4.2 + 1)).bind fun w5 =>
 (AV.asI .i64 w5).bind fun n6 =>
 (k169 [(.p p3), (.i .i64 n6)] σ).bind fun r7 =>
 (AV.asTup 2 r7.1).bind fun c8 =>
 (AV.asI .i64 (c8.getD 0 .u)).bind fun n9 =>
 (AV.asI .i64 (c8.getD 1 .u)).bind fun n10 =>
 some ((.i .i64 n9), r7.2)
 else none
noncomputable def semi_Semi__Size {O : Type} : Sm O := semi_Semi__Size_c mem_Mem__Size
theorem semi_Semi__Size_ent : Entered Try.prog 166 := Try.call166
theorem semi_Semi__Size_run {O : Type} (k169 : Sm O) : run (O := O) Try.prog [(169, k169)] Try.f166 (.n .z (.n (.d [] [0, 1, 2, 3, 4, 5, 6, 7, 8, 9, 10, 11, 12, 13, 14] [0, 1, 3, 7, 0, 16, 48, 112, 240, 511, 1023, 2047, 2047, 4095, 16383]) .z)) = semi_Semi__Size_c k169 := by kernel_rfl
theorem semi_Semi__Size_sound {O : Type} {RO : O → Loc → (Nat → Option Obj) → Prop} : FSound RO Try.prog 166 (semi_Semi__Size) :=
   have h : FSound RO Try.prog 166 (semi_Semi__Size_c mem_Mem__Size) := (semi_Semi__Size_run mem_Mem__Size) ▸ run_sound (gcons mem_Mem__Size_ent (mem_Mem__Size_sound) <| gnil) mixed Try.func166 (by kernel_rfl) _
   h

/-- (*haymow/semi.Semi).Room -/
noncomputable def semi_Semi__Room_c {O : Type} (k166 : Sm O) : Sm O := fun xs σ =>
 bif Nat.beq xs.length 1 then
 (AV.asP (xs.getD 0 .u)).bind fun p0 =>
 Option.bind p0 fun q1 =>
 (σ.ld q1.1 ((q1.2 + 1) + 1)).bind fun w2 =>
 (AV.asI .i64 w2).bind fun n3 =>
 (k166 [(.p p0)] σ).bind fun r4 =>
 (AV.asI .i64 r4.1).bind fun n5 =>
 (chkE (r4.2.ld q1.1 ((q1.2 + 1) + 1)) (some (.i .i64 n3))).bind fun _ =>
 some ((.i .i64 (IntKind.i64.wrap (n5 - n3))), r4.2)
 else none
noncomputable def semi_Semi__Room {O : Type} : Sm O := semi_Semi__Room_c semi_Semi__Size
theorem semi_Semi__Room_ent : Entered Try.prog 150 := Try.call150
theorem semi_Semi__Room_run {O : Type} (k166 : Sm O) : run (O := O) Try.prog [(166, k166)] Try.f150 (.n .z (.n (.d [] [0, 2, 3, 4, 5, 6, 1, 7, 8] [0, 1, 0, 4, 12, 28, 60, 127, 255]) .z)) = semi_Semi__Room_c k166 := by kernel_rfl
theorem semi_Semi__Room_sound {O : Type} {RO : O → Loc → (Nat → Option Obj) → Prop} : FSound RO Try.prog 150 (semi_Semi__Room) :=
   have h : FSound RO Try.prog 150 (semi_Semi__Room_c semi_Semi__Size) := (semi_Semi__Room_run semi_Semi__Size) ▸ run_sound (gcons semi_Semi__Size_ent (semi_Semi__Size_sound) <| gnil) mixed Try.func150 (by kernel_rfl) _
   h

/-- (*haymow/semi.Semi).Take -/
noncomputable def semi_Semi__Take_c {O : Type} (k150 : Sm O) : Sm O := fun xs σ =>
 bif Nat.beq xs.length 2 then
 (AV.asP (xs.getD 0 .u)).bind fun p0 =>
 (AV.asI .i64 (xs.getD 1 .u)).bind fun n1 =>
 (bif (decide (n1 < 1)) then
 some ((.tup [(.i .i64 0), (.i .i64 1)]), σ)
 else (k150 [(.p p0)] σ).bind fun r2 =>
 (AV.asI .i64 r2.1).bind fun n3 =>
 (bif (decide (n1 > n3)) then
 some ((.tup [(.i .i64 0), (.i .i64 3)]), r2.2)
 else Option.bind p0 fun q4 =>
 (r2.2.ld q4.1 ((q4.2 + 1) + 1)).bind fun w5 =>
 (AV.asI .i64 w5).bind fun n6 =>
 Option.bind p0 fun q7 =>
 (r2.2.ld q7.1 ((q7.2 + 1) + 1)).bind fun w8 =>
 (AV.asI .i64 w8).bind fun n9 =>
 Option.bind p0 fun q10 =>
 (r2.2.st q10.1 ((q10.2 + 1) + 1) [(.i .i64 (IntKind.i64.wrap (n9 + n1)))]).bind fun σ11 =>
 some ((.tup [(.i .i64 n6), (.i .i64 0)]), σ11)))
 else none
noncomputable def semi_Semi__Take {O : Type} : Sm O := semi_Semi__Take_c semi_Semi__Room
theorem semi_Semi__Take_ent : Entered Try.prog 110 := Try.call110
theorem semi_Semi__Take_run {O : Type} (k150 : Sm O) : run (O := O) Try.prog [(150, k150)] Try.f110 (.n .z (.n (.n (.n .z (.n .z (.n .z (.n .z .z)))) .z) (.n .z (.n .z .z)))) = semi_Semi__Take_c k150 := by kernel_rfl
theorem semi_Semi__Take_sound {O : Type} {RO : O → Loc → (Nat → Option Obj) → Prop} : FSound RO Try.prog 110 (semi_Semi__Take) :=
   have h : FSound RO Try.prog 110 (semi_Semi__Take_c semi_Semi__Room) := (semi_Semi__Take_run semi_Semi__Room) ▸ run_sound (gcons semi_Semi__Room_ent (semi_Semi__Room_sound) <| gnil) mixed Try.func110 (by kernel_rfl) _
   h

/-- (haymow/semi.side).within -/
noncomputable def semi_side__within_c {O : Type} : Sm O := fun xs σ =>
 bif Nat.beq xs.length 3 then
 (AV.asAgg 2 (xs.getD 0 .u)).bind fun c0 =>
 (AV.asI .i64 (c0.getD 0 .u)).bind fun n1 =>
 (AV.asI .i64 (c0.getD 1 .u)).bind fun n2 =>
 (AV.asI .i64 (xs.getD 1 .u)).bind fun n3 =>
 (AV.asI .i64 (xs.getD 2 .u)).bind fun n4 =>
 let σ5 := σ.bump 1
 let σ6 := σ5.put σ.next (.cells true 228 [(.i .i64 n1), (.i .i64 n2)])
 ((bif ((decide (n4 ≥ 0)) == true) then
 some ([(.b (decide (n3 ≥ 0)))], σ6)
 else some ([(.b false)], σ6)) : Option (List AV × AH O)).bind fun r7 =>
 (AV.asB (r7.1.getD 0 .u)).bind fun b8 =>
 ((bif (b8 == true) then
 (r7.2.ld (.n σ.next) 1).bind fun w9 =>
 (AV.asI .i64 w9).bind fun n10 =>
 some ([(.b (decide (n3 ≤ n10)))], r7.2)
 else some ([(.b false)], r7.2)) : Option (List AV × AH O)).bind fun r11 =>
 (AV.asB (r11.1.getD 0 .u)).bind fun b12 =>
 ((bif (b12 == true) then
 (r11.2.ld (.n σ.next) 1).bind fun w13 =>
 (AV.asI .i64 w13).bind fun n14 =>
 some ([(.b (decide (n4 ≤ (IntKind.i64.wrap (n14 - n3)))))], r11.2)
 else some ([(.b false)], r11.2)) : Option (List AV × AH O)).bind fun r15 =>
 (AV.asB (r15.1.getD 0 .u)).bind fun b16 =>
 some ((.b b16), r15.2)
 else none
noncomputable def semi_side__within {O : Type} : Sm O := semi_side__within_c
theorem semi_side__within_ent : Entered Try.prog 151 := Try.call151
theorem semi_side__within_run {O : Type} : run (O := O) Try.prog [] Try.f151 (.n .z (.n (.g [(2, 2, [(12, .one .b)]), (6, 4, [(18, .one .b)]), (12, 6, [(26, .one .b)])]) .z)) = semi_side__within_c  := by kernel_rfl
theorem semi_side__within_sound {O : Type} {RO : O → Loc → (Nat → Option Obj) → Prop} : FSound RO Try.prog 151 (semi_side__within) :=
   have h : FSound RO Try.prog 151 (semi_side__within_c) := (semi_side__within_run) ▸ run_sound (gnil) mixed Try.func151 (by kernel_rfl) _
   h

/-- (*haymow/semi.Semi).Write -/
noncomputable def semi_Semi__Write_c {O : Type} (k151 k89 : Sm O) : Sm O := fun xs σ =>
 bif Nat.beq xs.length 3 then
 (AV.asP (xs.getD 0 .u)).bind fun p0 =>
 (AV.asI .i64 (xs.getD 1 .u)).bind fun n1 =>
 (AV.asI .u64 (xs.getD 2 .u)).bind fun n2 =>
 Option.bind p0 fun q3 =>
 (σ.ld q3.1 (q3.2 + 1)).bind fun w4 =>
 (AV.asI .i64 w4).bind fun n5 =>
 (σ.ld q3.1 ((q3.2 + 1) + 1)).bind fun w6 =>
 (AV.asI .i64 w6).bind fun n7 =>
 (k151 [(.agg [(.i .i64 n5), (.i .i64 n7)]), (.i .i64 n1), (.i .i64 1)] σ).bind fun r8 =>
 (AV.asB r8.1).bind fun b9 =>
 (bif (!b9) then
 some ((.i .i64 11), r8.2)
 else Option.bind p0 fun q10 =>
 (r8.2.ld q10.1 q10.2).bind fun w11 =>
 (AV.asP w11).bind fun p12 =>
 Option.bind p0 fun q13 =>
 (r8.2.ld q13.1 (q13.2 + 1)).bind fun w14 =>
 (AV.asI .i64 w14).bind fun n15 =>
 (k89 [(.p p12), (.i .i64 n15), (.i .i64 n1), (.i .u64 n2)] r8.2).bind fun r16 =>
 (AV.asI .i64 r16.1).bind fun n17 =>
 some ((.i .i64 n17), r16.2))
 else none
noncomputable def semi_Semi__Write {O : Type} : Sm O := semi_Semi__Write_c semi_side__within mem_Mem__Write
theorem semi_Semi__Write_ent : Entered Try.prog 111 := Try.call111
theorem semi_Semi__Write_run {O : Type} (k151 k89 : Sm O) : run (O := O) Try.prog [(151, k151), (89, k89)] Try.f111 (.n .z (.n (.n .z (.n .z .z)) (.n (.d [] [0, 1, 2, 3, 4, 5, 6, 7, 8, 9, 10, 11, 12] [0, 1, 3, 7, 0, 16, 48, 112, 240, 0, 0, 2047, 4095]) .z))) = semi_Semi__Write_c k151 k89 := by kernel_rfl
theorem semi_Semi__Write_sound {O : Type} {RO : O → Loc → (Nat → Option Obj) → Prop} : FSound RO Try.prog 111 (semi_Semi__Write) :=
   have h : FSound RO Try.prog 111 (semi_Semi__Write_c semi_side__within mem_Mem__Write) := (semi_Semi__Write_run semi_side__within mem_Mem__Write) ▸ run_sound (gcons semi_side__within_ent (semi_side__within_sound) <| gcons mem_Mem__Write_ent (mem_Mem__Write_sound) <| gnil) mixed Try.func111 (by kernel_rfl) _
   h

/-- haymow/ref.ToSmall -/
noncomputable def ref_ToSmall_c {O : Type} : Sm O := fun xs σ =>
 bif Nat.beq xs.length 1 then
 (AV.asI .i64 (xs.getD 0 .u)).bind fun n0 =>
 ((bif ((decide (n0 < 0)) == false) then
 some ([(.b (decide (n0 ≥ 4194304)))], σ)
 else some ([(.b true)], σ)) : Option (List AV × AH O)).bind fun r1 =>
 (AV.asB (r1.1.getD 0 .u)).bind fun b2 =>
 (bif b2 then
 some ((.tup [(.i .u64 0), (.i .i64 2)]), r1.2)
 else let v3 : Int := (IntKind.u64.wrap ((IntKind.u64.wrap n0) * 2 ^ 1))
 some ((.tup [(.i .u64 (ibits .or .u64 v3 1)), (.i .i64 0)]), r1.2))
 else none
noncomputable def ref_ToSmall {O : Type} : Sm O := ref_ToSmall_c
theorem ref_ToSmall_ent : Entered Try.prog 112 := Try.call112
theorem ref_ToSmall_run {O : Type} : run (O := O) Try.prog [] Try.f112 (.n .z (.n (.n (.g [(2, 2, [(9, .one .b)])]) (.n .z .z)) .z)) = ref_ToSmall_c  := by kernel_rfl
theorem ref_ToSmall_sound {O : Type} {RO : O → Loc → (Nat → Option Obj) → Prop} : FSound RO Try.prog 112 (ref_ToSmall) :=
   have h : FSound RO Try.prog 112 (ref_ToSmall_c) := (ref_ToSmall_run) ▸ run_sound (gnil) mixed Try.func112 (by kernel_rfl) _
   h

/-- (*haymow/store.Store).Make -/
noncomputable def store_Store__Make_c {O : Type} (k106 k107 k108 k27 k31 k109 k110 k111 k112 : Sm O) : Sm O := fun xs σ =>
 bif Nat.beq xs.length 3 then
 (AV.asP (xs.getD 0 .u)).bind fun p0 =>
 (AV.asAgg 2 (xs.getD 1 .u)).bind fun c1 =>
 (AV.asI .i64 (c1.getD 0 .u)).bind fun n2 =>
 (AV.asI .i64 (c1.getD 1 .u)).bind fun n3 =>
 (AV.asI .i64 (xs.getD 2 .u)).bind fun n4 =>
 let σ5 := σ.bump 1
 let σ6 := σ5.put σ.next (.cells true 106 [(.i .i64 n2), (.i .i64 n3)])
 let σ7 := σ6.bump 1
 (σ7.ld (.n σ.next) 0).bind fun w8 =>
 (AV.asI .i64 w8).bind fun n9 =>
 (σ7.ld (.n σ.next) 1).bind fun w10 =>
 (AV.asI .i64 w10).bind fun n11 =>
 (σ7.ld (.n σ.next) 0).bind fun w12 =>
 (AV.asI .i64 w12).bind fun n13 =>
 (σ7.ld (.n σ.next) 1).bind fun w14 =>
 (AV.asI .i64 w14).bind fun n15 =>
 Option.bind p0 fun q16 =>
 (σ7.ld q16.1 (q16.2 + 3)).bind fun w17 =>
 (AV.asI .i64 w17).bind fun n18 =>
 (k106 [(.agg [(.i .i64 n13), (.i .i64 n15)]), (.i .i64 n18)] σ7).bind fun r19 =>
 (AV.asB r19.1).bind fun b20 =>
 (chkE (r19.2.ld (.n σ.next) 0) (some (.i .i64 n9))).bind fun _ =>
 (chkE (r19.2.ld (.n σ.next) 1) (some (.i .i64 n11))).bind fun _ =>
 let σ21 := r19.2.put σ6.next (.cells true 115 [(.i .i64 0), (.i .i64 0), (.i .i64 0), (.i .i64 0), (.b false)])
 (σ21.st (.n σ6.next) 0 [(.i .i64 n9), (.i .i64 n11), (.i .i64 n4), (.i .i64 0), (.b b20)]).bind fun σ22 =>
 (σ22.ld (.n σ6.next) 0).bind fun w23 =>
 (AV.asI .i64 w23).bind fun n24 =>
 (σ22.ld (.n σ6.next) 1).bind fun w25 =>
 (AV.asI .i64 w25).bind fun n26 =>
 (σ22.ld (.n σ6.next) 2).bind fun w27 =>
 (AV.asI .i64 w27).bind fun n28 =>
 (σ22.ld (.n σ6.next) 3).bind fun w29 =>
 (AV.asI .i64 w29).bind fun n30 =>
 (σ22.ld (.n σ6.next) 4).bind fun w31 =>
 (AV.asB w31).bind fun b32 =>
 (k107 [(.agg [(.i .i64 n24), (.i .i64 n26), (.i .i64 n28), (.i .i64 n30), (.b b32)])] σ22).bind fun r33 =>
 (AV.asTup 2 r33.1).bind fun c34 =>
 (AV.asI .u64 (c34.getD 0 .u)).bind fun n35 =>
 (AV.asI .i64 (c34.getD 1 .u)).bind fun n36 =>
 (bif ((n36 : Int) != 0) then
 some ((.tup [(.i .u64 0), (.i .i64 n36)]), r33.2)
 else (r33.2.ld (.n σ6.next) 4).bind fun w37 =>
 (AV.asB w37).bind fun b38 =>
 (bif b38 then
 Option.bind p0 fun q39 =>
 (r33.2.ld q39.1 ((q39.2 + 1) + 1)).bind fun w40 =>
 (AV.asP w40).bind fun p41 =>
 (r33.2.ld (.n σ6.next) 0).bind fun w42 =>
 (AV.asI .i64 w42).bind fun n43 =>
 (r33.2.ld (.n σ6.next) 1).bind fun w44 =>
 (AV.asI .i64 w44).bind fun n45 =>
 (r33.2.ld (.n σ6.next) 2).bind fun w46 =>
 (AV.asI .i64 w46).bind fun n47 =>
 (r33.2.ld (.n σ6.next) 3).bind fun w48 =>
 (AV.asI .i64 w48).bind fun n49 =>
 (r33.2.ld (.n σ6.next) 4).bind fun w50 =>
 (AV.asB w50).bind fun b51 =>
 (k108 [(.agg [(.i .i64 n43), (.i .i64 n45), (.i .i64 n47), (.i .i64 n49), (.b b51)])] r33.2).bind fun r52 =>
 (AV.asI .i64 r52.1).bind fun n53 =>
 (chkE (r52.2.ld q39.1 ((q39.2 + 1) + 1)) (some (.p p41))).bind fun _ =>
 (k27 [(.p p41), (.i .i64 n53)] r52.2).bind fun r54 =>
 (AV.asTup 2 r54.1).bind fun c55 =>
 (AV.asI .i64 (c55.getD 0 .u)).bind fun n56 =>
 (AV.asI .i64 (c55.getD 1 .u)).bind fun n57 =>
 (bif ((n57 : Int) != 0) then
 some ((.tup [(.i .u64 0), (.i .i64 n57)]), r54.2)
 else Option.bind p0 fun q58 =>
 (r54.2.ld q58.1 ((q58.2 + 1) + 1)).bind fun w59 =>
 (AV.asP w59).bind fun p60 =>
 (k31 [(.p p60), (.i .i64 n56), (.i .i64 0), (.i .u64 n35)] r54.2).bind fun r61 =>
 (AV.asI .i64 r61.1).bind fun n62 =>
 (k109 [(.i .i64 n56)] r61.2).bind fun r63 =>
 (AV.asTup 2 r63.1).bind fun c64 =>
 (AV.asI .u64 (c64.getD 0 .u)).bind fun n65 =>
 (AV.asI .i64 (c64.getD 1 .u)).bind fun n66 =>
 some ((.tup [(.i .u64 n65), (.i .i64 n66)]), r63.2))
 else Option.bind p0 fun q67 =>
 (r33.2.ld q67.1 (q67.2 + 1)).bind fun w68 =>
 (AV.asP w68).bind fun p69 =>
 (r33.2.ld (.n σ6.next) 0).bind fun w70 =>
 (AV.asI .i64 w70).bind fun n71 =>
 (r33.2.ld (.n σ6.next) 1).bind fun w72 =>
 (AV.asI .i64 w72).bind fun n73 =>
 (r33.2.ld (.n σ6.next) 2).bind fun w74 =>
 (AV.asI .i64 w74).bind fun n75 =>
 (r33.2.ld (.n σ6.next) 3).bind fun w76 =>
 (AV.asI .i64 w76).bind fun n77 =>
 (r33.2.ld (.n σ6.next) 4).bind fun w78 =>
 (AV.asB w78).bind fun b79 =>
 (k108 [(.agg [(.i .i64 n71), (.i .i64 n73), (.i .i64 n75), (.i .i64 n77), (.b b79)])] r33.2).bind fun r80 =>
 (AV.asI .i64 r80.1).bind fun n81 =>
 (chkE (r80.2.ld q67.1 (q67.2 + 1)) (some (.p p69))).bind fun _ =>
 (k110 [(.p p69), (.i .i64 n81)] r80.2).bind fun r82 =>
 (AV.asTup 2 r82.1).bind fun c83 =>
 (AV.asI .i64 (c83.getD 0 .u)).bind fun n84 =>
 (AV.asI .i64 (c83.getD 1 .u)).bind fun n85 =>
 (bif ((n85 : Int) != 0) then
 some ((.tup [(.i .u64 0), (.i .i64 n85)]), r82.2)
 else Option.bind p0 fun q86 =>
 (r82.2.ld q86.1 (q86.2 + 1)).bind fun w87 =>
 (AV.asP w87).bind fun p88 =>
 (k111 [(.p p88), (.i .i64 n84), (.i .u64 n35)] r82.2).bind fun r89 =>
 (AV.asI .i64 r89.1).bind fun n90 =>
 (k112 [(.i .i64 n84)] r89.2).bind fun r91 =>
 (AV.asTup 2 r91.1).bind fun c92 =>
 (AV.asI .u64 (c92.getD 0 .u)).bind fun n93 =>
 (AV.asI .i64 (c92.getD 1 .u)).bind fun n94 =>
 some ((.tup [(.i .u64 n93), (.i .i64 n94)]), r91.2))))
 else none
noncomputable def store_Store__Make {O : Type} : Sm O := store_Store__Make_c shape_Large header_Pack header_Words large_Large__Add large_Large__Write ref_ToLarge semi_Semi__Take semi_Semi__Write ref_ToSmall
theorem store_Store__Make_ent : Entered Try.prog 46 := Try.call46
theorem store_Store__Make_run {O : Type} (k106 k107 k108 k27 k31 k109 k110 k111 k112 : Sm O) : run (O := O) Try.prog [(106, k106), (107, k107), (108, k108), (27, k27), (31, k31), (109, k109), (110, k110), (111, k111), (112, k112)] Try.f46 (.n .z (.n (.d [] [0, 1, 2, 3, 4, 5, 6, 7, 8, 9, 10] [0, 0, 0, 0, 8, 24, 56, 124, 255, 0, 1023]) (.n .z (.n (.n .z (.n .z .z)) (.n (.n .z (.n (.n (.d [] [0, 1, 2, 3, 4, 5, 6, 7, 8, 9, 10, 11, 12] [0, 1, 3, 7, 15, 0, 32, 127, 255, 511, 511, 1023, 4095]) (.n (.n .z (.n .z .z)) (.n .z .z))) .z)) (.n (.d [] [0, 1, 2, 3, 4, 5, 6, 7, 8, 9, 10, 11, 12] [0, 1, 3, 7, 15, 0, 32, 127, 255, 511, 511, 1023, 4095]) (.n (.n .z (.n .z .z)) (.n .z .z)))))))) = store_Store__Make_c k106 k107 k108 k27 k31 k109 k110 k111 k112 := by kernel_rfl
theorem store_Store__Make_sound {O : Type} {RO : O → Loc → (Nat → Option Obj) → Prop} : FSound RO Try.prog 46 (store_Store__Make) :=
   have h : FSound RO Try.prog 46 (store_Store__Make_c shape_Large header_Pack header_Words large_Large__Add large_Large__Write ref_ToLarge semi_Semi__Take semi_Semi__Write ref_ToSmall) := (store_Store__Make_run shape_Large header_Pack header_Words large_Large__Add large_Large__Write ref_ToLarge semi_Semi__Take semi_Semi__Write ref_ToSmall) ▸ run_sound (gcons shape_Large_ent (shape_Large_sound) <| gcons header_Pack_ent (header_Pack_sound) <| gcons header_Words_ent (header_Words_sound) <| gcons large_Large__Add_ent (large_Large__Add_sound) <| gcons large_Large__Write_ent (large_Large__Write_sound) <| gcons ref_ToLarge_ent (ref_ToLarge_sound) <| gcons semi_Semi__Take_ent (semi_Semi__Take_sound) <| gcons semi_Semi__Write_ent (semi_Semi__Write_sound) <| gcons ref_ToSmall_ent (ref_ToSmall_sound) <| gnil) mixed Try.func46 (by kernel_rfl) _
   h

/-- (haymow/ref.Ref).Kind -/
noncomputable def ref_Ref__Kind_c {O : Type} : Sm O := fun xs σ =>
 bif Nat.beq xs.length 1 then
 (AV.asI .u64 (xs.getD 0 .u)).bind fun n0 =>
 (bif ((n0 : Int) == 0) then
 some ((.i .i64 0), σ)
 else ((bif ((((ibits .and .u64 n0 1) : Int) == 1) == true) then
 some ([(.b (decide ((Int.fdiv n0 (2 ^ 1)) < 4194304)))], σ)
 else some ([(.b false)], σ)) : Option (List AV × AH O)).bind fun r1 =>
 (AV.asB (r1.1.getD 0 .u)).bind fun b2 =>
 (bif b2 then
 some ((.i .i64 1), r1.2)
 else ((bif ((((ibits .and .u64 n0 1) : Int) == 0) == true) then
 some ([(.b (decide ((Int.fdiv n0 (2 ^ 1)) ≤ 1048576)))], r1.2)
 else some ([(.b false)], r1.2)) : Option (List AV × AH O)).bind fun r3 =>
 (AV.asB (r3.1.getD 0 .u)).bind fun b4 =>
 (bif b4 then
 some ((.i .i64 2), r3.2)
 else some ((.i .i64 3), r3.2))))
 else none
noncomputable def ref_Ref__Kind {O : Type} : Sm O := ref_Ref__Kind_c
theorem ref_Ref__Kind_ent : Entered Try.prog 113 := Try.call113
theorem ref_Ref__Kind_run {O : Type} : run (O := O) Try.prog [] Try.f113 (.n .z (.n .z (.n (.n (.n .z (.n .z (.n (.g [(3, 2, [(16, .one .b)])]) (.n .z (.n (.g [(3, 2, [(24, .one .b)])]) (.n .z .z)))))) .z) .z))) = ref_Ref__Kind_c  := by kernel_rfl
theorem ref_Ref__Kind_sound {O : Type} {RO : O → Loc → (Nat → Option Obj) → Prop} : FSound RO Try.prog 113 (ref_Ref__Kind) :=
   have h : FSound RO Try.prog 113 (ref_Ref__Kind_c) := (ref_Ref__Kind_run) ▸ run_sound (gnil) mixed Try.func113 (by kernel_rfl) _
   h

/-- (haymow/ref.Ref).At -/
noncomputable def ref_Ref__At_c {O : Type} (k113 : Sm O) : Sm O := fun xs σ =>
 bif Nat.beq xs.length 1 then
 (AV.asI .u64 (xs.getD 0 .u)).bind fun n0 =>
 (k113 [(.i .u64 n0)] σ).bind fun r1 =>
 (AV.asI .i64 r1.1).bind fun n2 =>
 ((bif ((n2 : Int) == 1) then
 some ([(.b ((n2 : Int) == 1))], r1.2)
 else some ([(.b ((n2 : Int) == 2))], r1.2)) : Option (List AV × AH O)).bind fun r3 =>
 (AV.asB (r3.1.getD 0 .u)).bind fun b4 =>
 (bif b4 then
 some ((.i .i64 (IntKind.i64.wrap (Int.fdiv n0 (2 ^ 1)))), r3.2)
 else some ((.i .i64 0), r3.2))
 else none
noncomputable def ref_Ref__At {O : Type} : Sm O := ref_Ref__At_c ref_Ref__Kind
theorem ref_Ref__At_ent : Entered Try.prog 115 := Try.call115
theorem ref_Ref__At_run {O : Type} (k113 : Sm O) : run (O := O) Try.prog [(113, k113)] Try.f115 (.n .z (.n (.n .z (.n (.n (.n .z (.j false [(5, .one .b)] .z .z)) (.n .z .z)) .z)) .z)) = ref_Ref__At_c k113 := by kernel_rfl
theorem ref_Ref__At_sound {O : Type} {RO : O → Loc → (Nat → Option Obj) → Prop} : FSound RO Try.prog 115 (ref_Ref__At) :=
   have h : FSound RO Try.prog 115 (ref_Ref__At_c ref_Ref__Kind) := (ref_Ref__At_run ref_Ref__Kind) ▸ run_sound (gcons ref_Ref__Kind_ent (ref_Ref__Kind_sound) <| gnil) mixed Try.func115 (by kernel_rfl) _
   h

/-- (*haymow/semi.Semi).Read -/
noncomputable def semi_Semi__Read_c {O : Type} (k151 k92 : Sm O) : Sm O := fun xs σ =>
 bif Nat.beq xs.length 2 then
 (AV.asP (xs.getD 0 .u)).bind fun p0 =>
 (AV.asI .i64 (xs.getD 1 .u)).bind fun n1 =>
 Option.bind p0 fun q2 =>
 (σ.ld q2.1 (q2.2 + 1)).bind fun w3 =>
 (AV.asI .i64 w3).bind fun n4 =>
 (σ.ld q2.1 ((q2.2 + 1) + 1)).bind fun w5 =>
 (AV.asI .i64 w5).bind fun n6 =>
 (k151 [(.agg [(.i .i64 n4), (.i .i64 n6)]), (.i .i64 n1), (.i .i64 1)] σ).bind fun r7 =>
 (AV.asB r7.1).bind fun b8 =>
 (bif (!b8) then
 some ((.tup [(.i .u64 0), (.i .i64 11)]), r7.2)
 else Option.bind p0 fun q9 =>
 (r7.2.ld q9.1 q9.2).bind fun w10 =>
 (AV.asP w10).bind fun p11 =>
 Option.bind p0 fun q12 =>
 (r7.2.ld q12.1 (q12.2 + 1)).bind fun w13 =>
 (AV.asI .i64 w13).bind fun n14 =>
 (k92 [(.p p11), (.i .i64 n14), (.i .i64 n1)] r7.2).bind fun r15 =>
 (AV.asTup 2 r15.1).bind fun c16 =>
 (AV.asI .u64 (c16.getD 0 .u)).bind fun n17 =>
 (AV.asI .i64 (c16.getD 1 .u)).bind fun n18 =>
 some ((.tup [(.i .u64 n17), (.i .i64 n18)]), r15.2))
 else none
noncomputable def semi_Semi__Read {O : Type} : Sm O := semi_Semi__Read_c semi_side__within mem_Mem__Read
theorem semi_Semi__Read_ent : Entered Try.prog 114 := Try.call114
theorem semi_Semi__Read_run {O : Type} (k151 k92 : Sm O) : run (O := O) Try.prog [(151, k151), (92, k92)] Try.f114 (.n .z (.n (.n .z (.n .z .z)) (.n (.d [] [0, 1, 2, 3, 4, 5, 6, 7, 8, 9, 10, 11, 12, 13, 14] [0, 1, 3, 7, 0, 16, 48, 112, 240, 0, 1023, 2047, 2047, 8191, 16383]) .z))) = semi_Semi__Read_c k151 k92 := by kernel_rfl
theorem semi_Semi__Read_sound {O : Type} {RO : O → Loc → (Nat → Option Obj) → Prop} : FSound RO Try.prog 114 (semi_Semi__Read) :=
   have h : FSound RO Try.prog 114 (semi_Semi__Read_c semi_side__within mem_Mem__Read) := (semi_Semi__Read_run semi_side__within mem_Mem__Read) ▸ run_sound (gcons semi_side__within_ent (semi_side__within_sound) <| gcons mem_Mem__Read_ent (mem_Mem__Read_sound) <| gnil) mixed Try.func114 (by kernel_rfl) _
   h

/-- (*haymow/large.Large).Read -/
noncomputable def large_Large__Read_c {O : Type} (k79 k92 : Sm O) : Sm O := fun xs σ =>
 bif Nat.beq xs.length 3 then
 (AV.asP (xs.getD 0 .u)).bind fun p0 =>
 (AV.asI .i64 (xs.getD 1 .u)).bind fun n1 =>
 (AV.asI .i64 (xs.getD 2 .u)).bind fun n2 =>
 Option.bind p0 fun q3 =>
 (σ.ld q3.1 (q3.2 + 1)).bind fun w4 =>
 (AV.asP w4).bind fun p5 =>
 (k79 [(.p p5), (.i .i64 n1), (.i .i64 0)] σ).bind fun r6 =>
 (AV.asTup 2 r6.1).bind fun c7 =>
 (AV.asI .u64 (c7.getD 0 .u)).bind fun n8 =>
 (AV.asI .i64 (c7.getD 1 .u)).bind fun n9 =>
 (bif ((n9 : Int) != 0) then
 some ((.tup [(.i .u64 0), (.i .i64 n9)]), r6.2)
 else Option.bind p0 fun q10 =>
 (r6.2.ld q10.1 q10.2).bind fun w11 =>
 (AV.asP w11).bind fun p12 =>
 (k92 [(.p p12), (.i .i64 (IntKind.i64.wrap n8)), (.i .i64 n2)] r6.2).bind fun r13 =>
 (AV.asTup 2 r13.1).bind fun c14 =>
 (AV.asI .u64 (c14.getD 0 .u)).bind fun n15 =>
 (AV.asI .i64 (c14.getD 1 .u)).bind fun n16 =>
 some ((.tup [(.i .u64 n15), (.i .i64 n16)]), r13.2))
 else none
noncomputable def large_Large__Read {O : Type} : Sm O := large_Large__Read_c pool_Pool__Get mem_Mem__Read
theorem large_Large__Read_ent : Entered Try.prog 37 := Try.call37
theorem large_Large__Read_run {O : Type} (k79 k92 : Sm O) : run (O := O) Try.prog [(79, k79), (92, k92)] Try.f37 (.n .z (.n .z (.n (.n .z (.n .z .z)) .z))) = large_Large__Read_c k79 k92 := by kernel_rfl
theorem large_Large__Read_sound {O : Type} {RO : O → Loc → (Nat → Option Obj) → Prop} : FSound RO Try.prog 37 (large_Large__Read) :=
   have h : FSound RO Try.prog 37 (large_Large__Read_c pool_Pool__Get mem_Mem__Read) := (large_Large__Read_run pool_Pool__Get mem_Mem__Read) ▸ run_sound (gcons pool_Pool__Get_ent (pool_Pool__Get_sound) <| gcons mem_Mem__Read_ent (mem_Mem__Read_sound) <| gnil) mixed Try.func37 (by kernel_rfl) _
   h

/-- (*haymow/store.Store).Word -/
noncomputable def store_Store__Word_c {O : Type} (k113 k115 k114 k37 : Sm O) : Sm O := fun xs σ =>
 bif Nat.beq xs.length 3 then
 (AV.asP (xs.getD 0 .u)).bind fun p0 =>
 (AV.asI .u64 (xs.getD 1 .u)).bind fun n1 =>
 (AV.asI .i64 (xs.getD 2 .u)).bind fun n2 =>
 (k113 [(.i .u64 n1)] σ).bind fun r3 =>
 (AV.asI .i64 r3.1).bind fun n4 =>
 (bif ((n4 : Int) == 0) then
 some ((.tup [(.i .u64 0), (.i .i64 31)]), r3.2)
 else (bif ((n4 : Int) == 1) then
 Option.bind p0 fun q5 =>
 (r3.2.ld q5.1 (q5.2 + 1)).bind fun w6 =>
 (AV.asP w6).bind fun p7 =>
 (k115 [(.i .u64 n1)] r3.2).bind fun r8 =>
 (AV.asI .i64 r8.1).bind fun n9 =>
 (chkE (r8.2.ld q5.1 (q5.2 + 1)) (some (.p p7))).bind fun _ =>
 (k114 [(.p p7), (.i .i64 (IntKind.i64.wrap (n9 + n2)))] r8.2).bind fun r10 =>
 (AV.asTup 2 r10.1).bind fun c11 =>
 (AV.asI .u64 (c11.getD 0 .u)).bind fun n12 =>
 (AV.asI .i64 (c11.getD 1 .u)).bind fun n13 =>
 some ((.tup [(.i .u64 n12), (.i .i64 n13)]), r10.2)
 else (bif ((n4 : Int) == 2) then
 Option.bind p0 fun q14 =>
 (r3.2.ld q14.1 ((q14.2 + 1) + 1)).bind fun w15 =>
 (AV.asP w15).bind fun p16 =>
 (k115 [(.i .u64 n1)] r3.2).bind fun r17 =>
 (AV.asI .i64 r17.1).bind fun n18 =>
 (chkE (r17.2.ld q14.1 ((q14.2 + 1) + 1)) (some (.p p16))).bind fun _ =>
 (k37 [(.p p16), (.i .i64 n18), (.i .i64 n2)] r17.2).bind fun r19 =>
 (AV.asTup 2 r19.1).bind fun c20 =>
 (AV.asI .u64 (c20.getD 0 .u)).bind fun n21 =>
 (AV.asI .i64 (c20.getD 1 .u)).bind fun n22 =>
 some ((.tup [(.i .u64 n21), (.i .i64 n22)]), r19.2)
 else some ((.tup [(.i .u64 0), (.i .i64 5)]), r3.2))))
 else none
noncomputable def store_Store__Word {O : Type} : Sm O := store_Store__Word_c ref_Ref__Kind ref_Ref__At semi_Semi__Read large_Large__Read
theorem store_Store__Word_ent : Entered Try.prog 47 := Try.call47
theorem store_Store__Word_run {O : Type} (k113 k115 k114 k37 : Sm O) : run (O := O) Try.prog [(113, k113), (115, k115), (114, k114), (37, k37)] Try.f47 (.n .z (.n (.n .z (.n (.n .z (.n .z (.n .z (.n (.n (.d [] [0, 1, 2, 3, 4, 5, 7, 6, 8, 9, 10, 11, 12, 13] [0, 1, 3, 7, 15, 0, 32, 0, 224, 511, 1023, 1023, 4095, 8191]) .z) (.n .z (.n (.n (.d [] [0, 1, 2, 3, 4, 5, 7, 6, 8, 9, 10, 11, 12] [0, 1, 3, 7, 15, 0, 32, 0, 255, 511, 511, 2047, 4095]) .z) .z)))))) .z)) .z)) = store_Store__Word_c k113 k115 k114 k37 := by kernel_rfl
theorem store_Store__Word_sound {O : Type} {RO : O → Loc → (Nat → Option Obj) → Prop} : FSound RO Try.prog 47 (store_Store__Word) :=
   have h : FSound RO Try.prog 47 (store_Store__Word_c ref_Ref__Kind ref_Ref__At semi_Semi__Read large_Large__Read) := (store_Store__Word_run ref_Ref__Kind ref_Ref__At semi_Semi__Read large_Large__Read) ▸ run_sound (gcons ref_Ref__Kind_ent (ref_Ref__Kind_sound) <| gcons ref_Ref__At_ent (ref_Ref__At_sound) <| gcons semi_Semi__Read_ent (semi_Semi__Read_sound) <| gcons large_Large__Read_ent (large_Large__Read_sound) <| gnil) mixed Try.func47 (by kernel_rfl) _
   h

/-- haymow/field.Get -/
noncomputable def field_Get_c {O : Type} (k167 k168 : Sm O) : Sm O := fun xs σ =>
 bif Nat.beq xs.length 2 then
 (AV.asI .u64 (xs.getD 0 .u)).bind fun n0 =>
 (AV.asAgg 2 (xs.getD 1 .u)).bind fun c1 =>
 (AV.asI .i64 (c1.getD 0 .u)).bind fun n2 =>
 (AV.asI .i64 (c1.getD 1 .u)).bind fun n3 =>
 let σ4 := σ.bump 1
 let σ5 := σ4.put σ.next (.cells true 238 [(.i .i64 n2), (.i .i64 n3)])
 (σ5.ld (.n σ.next) 0).bind fun w6 =>
 (AV.asI .i64 w6).bind fun n7 =>
 (σ5.ld (.n σ.next) 1).bind fun w8 =>
 (AV.asI .i64 w8).bind fun n9 =>
 (k167 [(.agg [(.i .i64 n7), (.i .i64 n9)])] σ5).bind fun r10 =>
 (AV.asB r10.1).bind fun b11 =>
 (bif (!b11) then
 some ((.i .u64 0), r10.2)
 else (r10.2.ld (.n σ.next) 0).bind fun w12 =>
 (AV.asI .i64 w12).bind fun n13 =>
 (r10.2.ld (.n σ.next) 1).bind fun w14 =>
 (AV.asI .i64 w14).bind fun n15 =>
 (r10.2.ld (.n σ.next) 0).bind fun w16 =>
 (AV.asI .i64 w16).bind fun n17 =>
 (k168 [(.agg [(.i .i64 n13), (.i .i64 n15)])] r10.2).bind fun r18 =>
 (AV.asI .u64 r18.1).bind fun n19 =>
 (chkE (r18.2.ld (.n σ.next) 0) (some (.i .i64 n17))).bind fun _ =>
 (bif (decide (n17 < 0)) then
 none
 else let v20 : Int := (Int.fdiv (ibits .and .u64 n0 n19) (2 ^ min n17.toNat 64))
 some ((.i .u64 v20), r18.2)))
 else none
noncomputable def field_Get {O : Type} : Sm O := field_Get_c field_Right field_Mask
theorem field_Get_ent : Entered Try.prog 152 := Try.call152
theorem field_Get_run {O : Type} (k167 k168 : Sm O) : run (O := O) Try.prog [(167, k167), (168, k168)] Try.f152 (.n .z (.n (.n .z (.n .z .z)) (.n (.d [] [0, 1, 4, 5, 2, 3, 6, 7] [0, 0, 2, 7, 0, 16, 63, 127]) .z))) = field_Get_c k167 k168 := by kernel_rfl
theorem field_Get_sound {O : Type} {RO : O → Loc → (Nat → Option Obj) → Prop} : FSound RO Try.prog 152 (field_Get) :=
   have h : FSound RO Try.prog 152 (field_Get_c field_Right field_Mask) := (field_Get_run field_Right field_Mask) ▸ run_sound (gcons field_Right_ent (field_Right_sound) <| gcons field_Mask_ent (field_Mask_sound) <| gnil) mixed Try.func152 (by kernel_rfl) _
   h

/-- haymow/header.Unpack -/
noncomputable def header_Unpack_L1 {O : Type} (l4 : SA × Nat) (k152 : Sm O) (n0 : Int) : List AV × AH O → Option ((List AV × AH O) ⊕ (List AV × AH O)) := (fun r5 =>
 (AV.asSl (r5.1.getD 0 .u)).bind fun l6 =>
 (AV.asI .i64 (r5.1.getD 1 .u)).bind fun n7 =>
 (bif (decide (n7 < (l4.2 : Int))) then
 let σ8 := r5.2.bump 1
 (bif ((decide ((0 : Int) ≤ n7)) && (decide (n7 < (l4.2 : Int)))) then
 (SA.ref l4.1).bind fun q9 =>
 (σ8.ld q9.1 (q9.2 + (n7.toNat * 2))).bind fun w10 =>
 (AV.asI .i64 w10).bind fun n11 =>
 (σ8.ld q9.1 ((q9.2 + (n7.toNat * 2)) + 1)).bind fun w12 =>
 (AV.asI .i64 w12).bind fun n13 =>
 let σ14 := σ8.put r5.2.next (.cells true 238 [(.i .i64 0), (.i .i64 0)])
 (σ14.st (.n r5.2.next) 0 [(.i .i64 n11), (.i .i64 n13)]).bind fun σ15 =>
 let σ16 := σ15.bump 2
 (σ16.ld (.n r5.2.next) 0).bind fun w17 =>
 (AV.asI .i64 w17).bind fun n18 =>
 (σ16.ld (.n r5.2.next) 1).bind fun w19 =>
 (AV.asI .i64 w19).bind fun n20 =>
 (k152 [(.i .u64 n0), (.agg [(.i .i64 n18), (.i .i64 n20)])] σ16).bind fun r21 =>
 (AV.asI .u64 r21.1).bind fun n22 =>
 let σ23 := r21.2.put σ15.next (.cells true 3 [(.i .i64 (IntKind.i64.wrap n22))])
 (σ23.rdSl (.loc (.n σ15.next) 0 1) 1 1).bind fun new24 =>
 (bif (Nat.ble ((l6.2 + 1) * 9) 35184372088832) then
 (σ23.appSl (σ15.next + 1) 3 1 l6.1 l6.2 1 new24).bind fun r25 =>
 (AV.asSl r25.1).bind fun l26 =>
 some (Sum.inl ([(.sl l26.1 l26.2), (.i .i64 (IntKind.i64.wrap (n7 + 1)))], r25.2))
 else none)
 else none)
 else some (Sum.inr ([(.sl l6.1 l6.2)], r5.2))))
noncomputable def header_Unpack_c {O : Type} (k149 k152 k107 : Sm O) : Sm O := fun xs σ =>
 bif Nat.beq xs.length 1 then
 (AV.asI .u64 (xs.getD 0 .u)).bind fun n0 =>
 let σ1 := σ.bump 1
 let σ2 := σ1.put σ.next (.cells true 115 [(.i .i64 0), (.i .i64 0), (.i .i64 0), (.i .i64 0), (.b false)])
 (k149 [] σ2).bind fun r3 =>
 (AV.asSl r3.1).bind fun l4 =>
 (loopF (S := List AV × AH O) (T := List AV × AH O) (header_Unpack_L1 l4 k152 n0) ([(.sl .nil 0), (.i .i64 0)], r3.2)).bind fun r27 =>
 (AV.asSl (r27.1.getD 0 .u)).bind fun l28 =>
 let σ29 := r27.2.bump 1
 (bif (decide ((0 : Int) < (l28.2 : Int))) then
 (SA.ref l28.1).bind fun q30 =>
 (σ29.ld q30.1 q30.2).bind fun w31 =>
 (AV.asI .i64 w31).bind fun n32 =>
 (bif (decide ((1 : Int) < (l28.2 : Int))) then
 (SA.ref l28.1).bind fun q33 =>
 (σ29.ld q33.1 (q33.2 + 1)).bind fun w34 =>
 (AV.asI .i64 w34).bind fun n35 =>
 (bif (decide ((2 : Int) < (l28.2 : Int))) then
 (SA.ref l28.1).bind fun q36 =>
 (σ29.ld q36.1 (q36.2 + 2)).bind fun w37 =>
 (AV.asI .i64 w37).bind fun n38 =>
 (bif (decide ((3 : Int) < (l28.2 : Int))) then
 (SA.ref l28.1).bind fun q39 =>
 (σ29.ld q39.1 (q39.2 + 3)).bind fun w40 =>
 (AV.asI .i64 w40).bind fun n41 =>
 (bif (decide ((4 : Int) < (l28.2 : Int))) then
 (SA.ref l28.1).bind fun q42 =>
 (σ29.ld q42.1 (q42.2 + 4)).bind fun w43 =>
 (AV.asI .i64 w43).bind fun n44 =>
 let σ45 := σ29.put r27.2.next (.cells true 115 [(.i .i64 0), (.i .i64 0), (.i .i64 0), (.i .i64 0), (.b false)])
 (σ45.st (.n r27.2.next) 0 [(.i .i64 n32), (.i .i64 n35), (.i .i64 n38), (.i .i64 n41), (.b ((n44 : Int) == 1))]).bind fun σ46 =>
 (σ46.ld (.n r27.2.next) 0).bind fun w47 =>
 (AV.asI .i64 w47).bind fun n48 =>
 (σ46.ld (.n r27.2.next) 1).bind fun w49 =>
 (AV.asI .i64 w49).bind fun n50 =>
 (σ46.ld (.n r27.2.next) 2).bind fun w51 =>
 (AV.asI .i64 w51).bind fun n52 =>
 (σ46.ld (.n r27.2.next) 3).bind fun w53 =>
 (AV.asI .i64 w53).bind fun n54 =>
 (σ46.ld (.n r27.2.next) 4).bind fun w55 =>
 (AV.asB w55).bind fun b56 =>
 (k107 [(.agg [(.i .i64 n48), (.i .i64 n50), (.i .i64 n52), (.i .i64 n54), (.b b56)])] σ46).bind fun r57 =>
 (AV.asTup 2 r57.1).bind fun c58 =>
 (AV.asI .u64 (c58.getD 0 .u)).bind fun n59 =>
 (AV.asI .i64 (c58.getD 1 .u)).bind fun n60 =>
 ((bif (((n60 : Int) != 0) == false) then
 some ([(.b ((n59 : Int) != n0))], r57.2)
 else some ([(.b true)], r57.2)) : Option (List AV × AH O)).bind fun r61 =>
 (AV.asB (r61.1.getD 0 .u)).bind fun b62 =>
 (bif b62 then
 (r61.2.st (.n σ.next) 0 [(.i .i64 0), (.i .i64 0), (.i .i64 0), (.i .i64 0), (.b false)]).bind fun σ63 =>
 (σ63.ld (.n σ.next) 0).bind fun w64 =>
 (AV.asI .i64 w64).bind fun n65 =>
 (σ63.ld (.n σ.next) 1).bind fun w66 =>
 (AV.asI .i64 w66).bind fun n67 =>
 (σ63.ld (.n σ.next) 2).bind fun w68 =>
 (AV.asI .i64 w68).bind fun n69 =>
 (σ63.ld (.n σ.next) 3).bind fun w70 =>
 (AV.asI .i64 w70).bind fun n71 =>
 (σ63.ld (.n σ.next) 4).bind fun w72 =>
 (AV.asB w72).bind fun b73 =>
 some ((.tup [(.agg [(.i .i64 n65), (.i .i64 n67), (.i .i64 n69), (.i .i64 n71), (.b b73)]), (.i .i64 5)]), σ63)
 else (r61.2.ld (.n r27.2.next) 0).bind fun w74 =>
 (AV.asI .i64 w74).bind fun n75 =>
 (r61.2.ld (.n r27.2.next) 1).bind fun w76 =>
 (AV.asI .i64 w76).bind fun n77 =>
 (r61.2.ld (.n r27.2.next) 2).bind fun w78 =>
 (AV.asI .i64 w78).bind fun n79 =>
 (r61.2.ld (.n r27.2.next) 3).bind fun w80 =>
 (AV.asI .i64 w80).bind fun n81 =>
 (r61.2.ld (.n r27.2.next) 4).bind fun w82 =>
 (AV.asB w82).bind fun b83 =>
 (r61.2.st (.n σ.next) 0 [(.i .i64 n75), (.i .i64 n77), (.i .i64 n79), (.i .i64 n81), (.b b83)]).bind fun σ84 =>
 (σ84.ld (.n σ.next) 0).bind fun w85 =>
 (AV.asI .i64 w85).bind fun n86 =>
 (σ84.ld (.n σ.next) 1).bind fun w87 =>
 (AV.asI .i64 w87).bind fun n88 =>
 (σ84.ld (.n σ.next) 2).bind fun w89 =>
 (AV.asI .i64 w89).bind fun n90 =>
 (σ84.ld (.n σ.next) 3).bind fun w91 =>
 (AV.asI .i64 w91).bind fun n92 =>
 (σ84.ld (.n σ.next) 4).bind fun w93 =>
 (AV.asB w93).bind fun b94 =>
 some ((.tup [(.agg [(.i .i64 n86), (.i .i64 n88), (.i .i64 n90), (.i .i64 n92), (.b b94)]), (.i .i64 0)]), σ84))
 else none)
 else none)
 else none)
 else none)
 else none)
 else none
noncomputable def header_Unpack {O : Type} : Sm O := header_Unpack_c header_fields field_Get header_Pack
theorem header_Unpack_ent : Entered Try.prog 116 := Try.call116
theorem header_Unpack_run {O : Type} (k149 k152 k107 : Sm O) : run (O := O) Try.prog [(149, k149), (152, k152), (107, k107)] Try.f116 (.n .z (.n .z (.n (.n .z (.n (.lp false 0 [(4, .one .sl), (12, .one (.i .i64))] [(4, .one .sl)] (.n .z (.n .z (.n (.n .z .z) .z)))) .z)) (.n (.d [] [0, 1, 2, 3, 4, 5, 6, 7, 8, 9, 10, 11, 12, 13, 14, 15, 16, 17, 18, 19] [0, 1, 3, 0, 8, 24, 63, 0, 128, 384, 0, 1024, 3072, 0, 8192, 24576, 57344, 131071, 0, 524287]) (.n (.n .z (.n (.g [(2, 3, [(53, .one .b)])]) (.n .z .z))) .z))))) = header_Unpack_c k149 k152 k107 := by kernel_rfl
theorem header_Unpack_sound {O : Type} {RO : O → Loc → (Nat → Option Obj) → Prop} : FSound RO Try.prog 116 (header_Unpack) :=
   have h : FSound RO Try.prog 116 (header_Unpack_c header_fields field_Get header_Pack) := (header_Unpack_run header_fields field_Get header_Pack) ▸ run_sound (gcons header_fields_ent (header_fields_sound) <| gcons field_Get_ent (field_Get_sound) <| gcons header_Pack_ent (header_Pack_sound) <| gnil) mixed Try.func116 (by kernel_rfl) _
   h

/-- (*haymow/store.Store).Header -/
noncomputable def store_Store__Header_c {O : Type} (k47 k116 : Sm O) : Sm O := fun xs σ =>
 bif Nat.beq xs.length 2 then
 (AV.asP (xs.getD 0 .u)).bind fun p0 =>
 (AV.asI .u64 (xs.getD 1 .u)).bind fun n1 =>
 let σ2 := σ.bump 1
 let σ3 := σ2.put σ.next (.cells true 115 [(.i .i64 0), (.i .i64 0), (.i .i64 0), (.i .i64 0), (.b false)])
 (k47 [(.p p0), (.i .u64 n1), (.i .i64 0)] σ3).bind fun r4 =>
 (AV.asTup 2 r4.1).bind fun c5 =>
 (AV.asI .u64 (c5.getD 0 .u)).bind fun n6 =>
 (AV.asI .i64 (c5.getD 1 .u)).bind fun n7 =>
 (bif ((n7 : Int) != 0) then
 (r4.2.st (.n σ.next) 0 [(.i .i64 0), (.i .i64 0), (.i .i64 0), (.i .i64 0), (.b false)]).bind fun σ8 =>
 (σ8.ld (.n σ.next) 0).bind fun w9 =>
 (AV.asI .i64 w9).bind fun n10 =>
 (σ8.ld (.n σ.next) 1).bind fun w11 =>
 (AV.asI .i64 w11).bind fun n12 =>
 (σ8.ld (.n σ.next) 2).bind fun w13 =>
 (AV.asI .i64 w13).bind fun n14 =>
 (σ8.ld (.n σ.next) 3).bind fun w15 =>
 (AV.asI .i64 w15).bind fun n16 =>
 (σ8.ld (.n σ.next) 4).bind fun w17 =>
 (AV.asB w17).bind fun b18 =>
 some ((.tup [(.agg [(.i .i64 n10), (.i .i64 n12), (.i .i64 n14), (.i .i64 n16), (.b b18)]), (.i .i64 n7)]), σ8)
 else (k116 [(.i .u64 n6)] r4.2).bind fun r19 =>
 (AV.asTup 2 r19.1).bind fun c20 =>
 (AV.asAgg 5 (c20.getD 0 .u)).bind fun c21 =>
 (AV.asI .i64 (c21.getD 0 .u)).bind fun n22 =>
 (AV.asI .i64 (c21.getD 1 .u)).bind fun n23 =>
 (AV.asI .i64 (c21.getD 2 .u)).bind fun n24 =>
 (AV.asI .i64 (c21.getD 3 .u)).bind fun n25 =>
 (AV.asB (c21.getD 4 .u)).bind fun b26 =>
 (AV.asI .i64 (c20.getD 1 .u)).bind fun n27 =>
 (r19.2.st (.n σ.next) 0 [(.i .i64 n22), (.i .i64 n23), (.i .i64 n24), (.i .i64 n25), (.b b26)]).bind fun σ28 =>
 (σ28.ld (.n σ.next) 0).bind fun w29 =>
 (AV.asI .i64 w29).bind fun n30 =>
 (σ28.ld (.n σ.next) 1).bind fun w31 =>
 (AV.asI .i64 w31).bind fun n32 =>
 (σ28.ld (.n σ.next) 2).bind fun w33 =>
 (AV.asI .i64 w33).bind fun n34 =>
 (σ28.ld (.n σ.next) 3).bind fun w35 =>
 (AV.asI .i64 w35).bind fun n36 =>
 (σ28.ld (.n σ.next) 4).bind fun w37 =>
 (AV.asB w37).bind fun b38 =>
 some ((.tup [(.agg [(.i .i64 n30), (.i .i64 n32), (.i .i64 n34), (.i .i64 n36), (.b b38)]), (.i .i64 n27)]), σ28))
 else none
noncomputable def store_Store__Header {O : Type} : Sm O := store_Store__Header_c store_Store__Word header_Unpack
theorem store_Store__Header_ent : Entered Try.prog 50 := Try.call50
theorem store_Store__Header_run {O : Type} (k47 k116 : Sm O) : run (O := O) Try.prog [(47, k47), (116, k116)] Try.f50 (.n .z (.n .z (.n (.n .z (.n .z .z)) .z))) = store_Store__Header_c k47 k116 := by kernel_rfl
theorem store_Store__Header_sound {O : Type} {RO : O → Loc → (Nat → Option Obj) → Prop} : FSound RO Try.prog 50 (store_Store__Header) :=
   have h : FSound RO Try.prog 50 (store_Store__Header_c store_Store__Word header_Unpack) := (store_Store__Header_run store_Store__Word header_Unpack) ▸ run_sound (gcons store_Store__Word_ent (store_Store__Word_sound) <| gcons header_Unpack_ent (header_Unpack_sound) <| gnil) mixed Try.func50 (by kernel_rfl) _
   h

/-- (*haymow/store.Store).Small -/
noncomputable def store_Store__Small_c {O : Type} : Sm O := fun xs σ =>
 bif Nat.beq xs.length 1 then
 (AV.asP (xs.getD 0 .u)).bind fun p0 =>
 Option.bind p0 fun q1 =>
 (σ.ld q1.1 (q1.2 + 3)).bind fun w2 =>
 (AV.asI .i64 w2).bind fun n3 =>
 some ((.i .i64 n3), σ)
 else none
noncomputable def store_Store__Small {O : Type} : Sm O := store_Store__Small_c
theorem store_Store__Small_ent : Entered Try.prog 104 := Try.call104
theorem store_Store__Small_run {O : Type} : run (O := O) Try.prog [] Try.f104 (.n .z .z) = store_Store__Small_c  := by kernel_rfl
theorem store_Store__Small_sound {O : Type} {RO : O → Loc → (Nat → Option Obj) → Prop} : FSound RO Try.prog 104 (store_Store__Small) :=
   have h : FSound RO Try.prog 104 (store_Store__Small_c) := (store_Store__Small_run) ▸ run_sound (gnil) mixed Try.func104 (by kernel_rfl) _
   h

/-- haymow/haymowlaw16.awake -/
noncomputable def law16_awake_c {O : Type} (k45 k49 k102 k103 k46 k50 k104 : Sm O) : Sm O := fun xs σ =>
 bif Nat.beq xs.length 0 then
 (k45 [(.i .i64 8), (.i .i64 100)] σ).bind fun r0 =>
 (AV.asTup 2 r0.1).bind fun c1 =>
 (AV.asP (c1.getD 0 .u)).bind fun p2 =>
 (AV.asI .i64 (c1.getD 1 .u)).bind fun n3 =>
 ((bif ((Option.isNone p2) == false) then
 some ([(.b ((n3 : Int) != 0))], r0.2)
 else some ([(.b true)], r0.2)) : Option (List AV × AH O)).bind fun r4 =>
 (AV.asB (r4.1.getD 0 .u)).bind fun b5 =>
 ((bif (b5 == false) then
 (k49 [(.p p2)] r4.2).bind fun r6 =>
 (AV.asP r6.1).bind fun p7 =>
 some ([(.b (Option.isNone p7))], r6.2)
 else some ([(.b true)], r4.2)) : Option (List AV × AH O)).bind fun r8 =>
 (AV.asB (r8.1.getD 0 .u)).bind fun b9 =>
 ((bif (b9 == false) then
 (k102 [(.p p2)] r8.2).bind fun r10 =>
 (AV.asP r10.1).bind fun p11 =>
 some ([(.b (Option.isNone p11))], r10.2)
 else some ([(.b true)], r8.2)) : Option (List AV × AH O)).bind fun r12 =>
 (AV.asB (r12.1.getD 0 .u)).bind fun b13 =>
 ((bif (b13 == false) then
 (k103 [(.p p2)] r12.2).bind fun r14 =>
 (AV.asP r14.1).bind fun p15 =>
 some ([(.b (Option.isNone p15))], r14.2)
 else some ([(.b true)], r12.2)) : Option (List AV × AH O)).bind fun r16 =>
 (AV.asB (r16.1.getD 0 .u)).bind fun b17 =>
 (bif b17 then
 some ((.b false), r16.2)
 else (k46 [(.p p2), (.agg [(.i .i64 1), (.i .i64 1)]), (.i .i64 0)] r16.2).bind fun r18 =>
 (AV.asTup 2 r18.1).bind fun c19 =>
 (AV.asI .u64 (c19.getD 0 .u)).bind fun n20 =>
 (AV.asI .i64 (c19.getD 1 .u)).bind fun n21 =>
 (k46 [(.p p2), (.agg [(.i .i64 1), (.i .i64 9)]), (.i .i64 3)] r18.2).bind fun r22 =>
 (AV.asTup 2 r22.1).bind fun c23 =>
 (AV.asI .u64 (c23.getD 0 .u)).bind fun n24 =>
 (AV.asI .i64 (c23.getD 1 .u)).bind fun n25 =>
 let σ26 := r22.2.bump 1
 (k50 [(.p p2), (.i .u64 n24)] σ26).bind fun r27 =>
 (AV.asTup 2 r27.1).bind fun c28 =>
 (AV.asAgg 5 (c28.getD 0 .u)).bind fun c29 =>
 (AV.asI .i64 (c29.getD 0 .u)).bind fun n30 =>
 (AV.asI .i64 (c29.getD 1 .u)).bind fun n31 =>
 (AV.asI .i64 (c29.getD 2 .u)).bind fun n32 =>
 (AV.asI .i64 (c29.getD 3 .u)).bind fun n33 =>
 (AV.asB (c29.getD 4 .u)).bind fun b34 =>
 (AV.asI .i64 (c28.getD 1 .u)).bind fun n35 =>
 let σ36 := r27.2.put r22.2.next (.cells true 115 [(.i .i64 0), (.i .i64 0), (.i .i64 0), (.i .i64 0), (.b false)])
 (σ36.st (.n r22.2.next) 0 [(.i .i64 n30), (.i .i64 n31), (.i .i64 n32), (.i .i64 n33), (.b b34)]).bind fun σ37 =>
 ((bif (((n20 : Int) == 1) == true) then
 some ([(.b ((n21 : Int) == 0))], σ37)
 else some ([(.b false)], σ37)) : Option (List AV × AH O)).bind fun r38 =>
 (AV.asB (r38.1.getD 0 .u)).bind fun b39 =>
 ((bif (b39 == true) then
 some ([(.b ((n24 : Int) == 2))], r38.2)
 else some ([(.b false)], r38.2)) : Option (List AV × AH O)).bind fun r40 =>
 (AV.asB (r40.1.getD 0 .u)).bind fun b41 =>
 ((bif (b41 == true) then
 some ([(.b ((n25 : Int) == 0))], r40.2)
 else some ([(.b false)], r40.2)) : Option (List AV × AH O)).bind fun r42 =>
 (AV.asB (r42.1.getD 0 .u)).bind fun b43 =>
 ((bif (b43 == true) then
 (r42.2.ld (.n r22.2.next) 4).bind fun w44 =>
 (AV.asB w44).bind fun b45 =>
 some ([(.b b45)], r42.2)
 else some ([(.b false)], r42.2)) : Option (List AV × AH O)).bind fun r46 =>
 (AV.asB (r46.1.getD 0 .u)).bind fun b47 =>
 ((bif (b47 == true) then
 (r46.2.ld (.n r22.2.next) 2).bind fun w48 =>
 (AV.asI .i64 w48).bind fun n49 =>
 some ([(.b ((n49 : Int) == 3))], r46.2)
 else some ([(.b false)], r46.2)) : Option (List AV × AH O)).bind fun r50 =>
 (AV.asB (r50.1.getD 0 .u)).bind fun b51 =>
 ((bif (b51 == true) then
 some ([(.b ((n35 : Int) == 0))], r50.2)
 else some ([(.b false)], r50.2)) : Option (List AV × AH O)).bind fun r52 =>
 (AV.asB (r52.1.getD 0 .u)).bind fun b53 =>
 ((bif (b53 == true) then
 (k104 [(.p p2)] r52.2).bind fun r54 =>
 (AV.asI .i64 r54.1).bind fun n55 =>
 some ([(.b ((n55 : Int) == 8))], r54.2)
 else some ([(.b false)], r52.2)) : Option (List AV × AH O)).bind fun r56 =>
 (AV.asB (r56.1.getD 0 .u)).bind fun b57 =>
 some ((.b b57), r56.2))
 else none
noncomputable def law16_awake {O : Type} : Sm O := law16_awake_c store_New store_Store__Mem store_Store__Semi store_Store__Large store_Store__Make store_Store__Header store_Store__Small
theorem law16_awake_ent : Entered Try.prog 44 := Try.call44
theorem law16_awake_run {O : Type} (k45 k49 k102 k103 k46 k50 k104 : Sm O) : run (O := O) Try.prog [(45, k45), (49, k49), (102, k102), (103, k103), (46, k46), (50, k50), (104, k104)] Try.f44 (.n .z (.n .z (.n (.n (.g [(2, 2, [(18, .one .b)]), (6, 3, [(23, .one .b)]), (11, 3, [(28, .one .b)]), (16, 3, [(33, .one .b)])]) (.n .z .z)) (.n .z (.n .z (.n .z (.n (.g [(2, 2, [(57, .one .b)]), (6, 2, [(61, .one .b)]), (10, 2, [(65, .one .b)]), (14, 2, [(69, .one .b)]), (18, 3, [(74, .one .b)]), (23, 2, [(78, .one .b)]), (27, 3, [(83, .one .b)])]) .z))))))) = law16_awake_c k45 k49 k102 k103 k46 k50 k104 := by kernel_rfl
theorem law16_awake_sound {O : Type} {RO : O → Loc → (Nat → Option Obj) → Prop} : FSound RO Try.prog 44 (law16_awake) :=
   have h : FSound RO Try.prog 44 (law16_awake_c store_New store_Store__Mem store_Store__Semi store_Store__Large store_Store__Make store_Store__Header store_Store__Small) := (law16_awake_run store_New store_Store__Mem store_Store__Semi store_Store__Large store_Store__Make store_Store__Header store_Store__Small) ▸ run_sound (gcons store_New_ent (store_New_sound) <| gcons store_Store__Mem_ent (store_Store__Mem_sound) <| gcons store_Store__Semi_ent (store_Store__Semi_sound) <| gcons store_Store__Large_ent (store_Store__Large_sound) <| gcons store_Store__Make_ent (store_Store__Make_sound) <| gcons store_Store__Header_ent (store_Store__Header_sound) <| gcons store_Store__Small_ent (store_Store__Small_sound) <| gnil) mixed Try.func44 (by kernel_rfl) _
   h

/-- (*haymow/store.Store).SetWord -/
noncomputable def store_Store__SetWord_c {O : Type} (k113 k115 k111 k31 : Sm O) : Sm O := fun xs σ =>
 bif Nat.beq xs.length 4 then
 (AV.asP (xs.getD 0 .u)).bind fun p0 =>
 (AV.asI .u64 (xs.getD 1 .u)).bind fun n1 =>
 (AV.asI .i64 (xs.getD 2 .u)).bind fun n2 =>
 (AV.asI .u64 (xs.getD 3 .u)).bind fun n3 =>
 (k113 [(.i .u64 n1)] σ).bind fun r4 =>
 (AV.asI .i64 r4.1).bind fun n5 =>
 (bif ((n5 : Int) == 0) then
 some ((.i .i64 31), r4.2)
 else (bif ((n5 : Int) == 1) then
 Option.bind p0 fun q6 =>
 (r4.2.ld q6.1 (q6.2 + 1)).bind fun w7 =>
 (AV.asP w7).bind fun p8 =>
 (k115 [(.i .u64 n1)] r4.2).bind fun r9 =>
 (AV.asI .i64 r9.1).bind fun n10 =>
 (chkE (r9.2.ld q6.1 (q6.2 + 1)) (some (.p p8))).bind fun _ =>
 (k111 [(.p p8), (.i .i64 (IntKind.i64.wrap (n10 + n2))), (.i .u64 n3)] r9.2).bind fun r11 =>
 (AV.asI .i64 r11.1).bind fun n12 =>
 some ((.i .i64 n12), r11.2)
 else (bif ((n5 : Int) == 2) then
 Option.bind p0 fun q13 =>
 (r4.2.ld q13.1 ((q13.2 + 1) + 1)).bind fun w14 =>
 (AV.asP w14).bind fun p15 =>
 (k115 [(.i .u64 n1)] r4.2).bind fun r16 =>
 (AV.asI .i64 r16.1).bind fun n17 =>
 (chkE (r16.2.ld q13.1 ((q13.2 + 1) + 1)) (some (.p p15))).bind fun _ =>
 (k31 [(.p p15), (.i .i64 n17), (.i .i64 n2), (.i .u64 n3)] r16.2).bind fun r18 =>
 (AV.asI .i64 r18.1).bind fun n19 =>
 some ((.i .i64 n19), r18.2)
 else some ((.i .i64 5), r4.2))))
 else none
noncomputable def store_Store__SetWord {O : Type} : Sm O := store_Store__SetWord_c ref_Ref__Kind ref_Ref__At semi_Semi__Write large_Large__Write
theorem store_Store__SetWord_ent : Entered Try.prog 48 := Try.call48
theorem store_Store__SetWord_run {O : Type} (k113 k115 k111 k31 : Sm O) : run (O := O) Try.prog [(113, k113), (115, k115), (111, k111), (31, k31)] Try.f48 (.n .z (.n (.n .z (.n (.n .z (.n .z (.n .z (.n (.n (.d [] [0, 1, 2, 3, 4, 5, 7, 9, 6, 8, 10, 11] [0, 1, 3, 7, 15, 0, 32, 0, 224, 0, 1023, 2047]) .z) (.n .z (.n (.n (.d [] [0, 1, 2, 3, 4, 5, 7, 8, 6, 9, 10] [0, 1, 3, 7, 15, 0, 32, 0, 0, 511, 1023]) .z) .z)))))) .z)) .z)) = store_Store__SetWord_c k113 k115 k111 k31 := by kernel_rfl
theorem store_Store__SetWord_sound {O : Type} {RO : O → Loc → (Nat → Option Obj) → Prop} : FSound RO Try.prog 48 (store_Store__SetWord) :=
   have h : FSound RO Try.prog 48 (store_Store__SetWord_c ref_Ref__Kind ref_Ref__At semi_Semi__Write large_Large__Write) := (store_Store__SetWord_run ref_Ref__Kind ref_Ref__At semi_Semi__Write large_Large__Write) ▸ run_sound (gcons ref_Ref__Kind_ent (ref_Ref__Kind_sound) <| gcons ref_Ref__At_ent (ref_Ref__At_sound) <| gcons semi_Semi__Write_ent (semi_Semi__Write_sound) <| gcons large_Large__Write_ent (large_Large__Write_sound) <| gnil) mixed Try.func48 (by kernel_rfl) _
   h

/-- haymow/haymowlaw16.StoreApart -/
noncomputable def law16_StoreApart_L5 {O : Type} (n103 : Int) (l59 : SA × Nat) (l58 : SA × Nat) (k47 : Sm O) (p12 : Option (Bid × Nat)) (n61 : Int) (n63 : Int) (n66 : Int) (n5 : Int) (l96 : SA × Nat) : List AV × AH O → Option ((List AV × AH O) ⊕ ((List AV × AH O) ⊕ ((List AV × AH O) ⊕ ((List AV × AH O) ⊕ (AV × AH O))))) := (fun r104 =>
 (AV.asI .i64 (r104.1.getD 0 .u)).bind fun n105 =>
 (bif ((decide ((0 : Int) ≤ n103)) && (decide (n103 < (l59.2 : Int)))) then
 (SA.ref l59.1).bind fun q106 =>
 (r104.2.ld q106.1 (q106.2 + (n103.toNat * 1))).bind fun w107 =>
 (AV.asI .i64 w107).bind fun n108 =>
 (bif (decide (n105 < n108)) then
 (bif ((decide ((0 : Int) ≤ n103)) && (decide (n103 < (l58.2 : Int)))) then
 (SA.ref l58.1).bind fun q109 =>
 (r104.2.ld q109.1 (q109.2 + (n103.toNat * 1))).bind fun w110 =>
 (AV.asI .u64 w110).bind fun n111 =>
 (k47 [(.p p12), (.i .u64 n111), (.i .i64 n105)] r104.2).bind fun r112 =>
 (AV.asTup 2 r112.1).bind fun c113 =>
 (AV.asI .u64 (c113.getD 0 .u)).bind fun n114 =>
 (AV.asI .i64 (c113.getD 1 .u)).bind fun n115 =>
 ((bif (((n115 : Int) != 0) == false) then
 let c116 : Bool := ((n103 : Int) == (Int.tmod (IntKind.i64.wrap n61) (l58.2 : Int)))
 ((bif (c116 == true) then
 let c117 : Bool := ((n105 : Int) == (Int.tmod (IntKind.i64.wrap n63) n66))
 some ([(.b c117)], r112.2)
 else some ([(.b false)], r112.2)) : Option (List AV × AH O)).bind fun r118 =>
 (AV.asB (r118.1.getD 0 .u)).bind fun b119 =>
 ((bif (b119 == true) then
 some ([(.b ((n114 : Int) != n5))], r118.2)
 else some ([(.b false)], r118.2)) : Option (List AV × AH O)).bind fun r120 =>
 (AV.asB (r120.1.getD 0 .u)).bind fun b121 =>
 some ([(.b b121)], r120.2)
 else some ([(.b true)], r112.2)) : Option (List AV × AH O)).bind fun r122 =>
 (AV.asB (r122.1.getD 0 .u)).bind fun b123 =>
 ((bif (b123 == false) then
 let c124 : Bool := ((n103 : Int) != (Int.tmod (IntKind.i64.wrap n61) (l58.2 : Int)))
 ((bif (c124 == false) then
 let c125 : Bool := ((n105 : Int) != (Int.tmod (IntKind.i64.wrap n63) n66))
 some ([(.b c125)], r122.2)
 else some ([(.b true)], r122.2)) : Option (List AV × AH O)).bind fun r126 =>
 (AV.asB (r126.1.getD 0 .u)).bind fun b127 =>
 ((bif (b127 == true) then
 (bif ((decide ((0 : Int) ≤ n103)) && (decide (n103 < (l96.2 : Int)))) then
 (SA.ref l96.1).bind fun q128 =>
 (r126.2.ld q128.1 (q128.2 + (n103.toNat * 1))).bind fun w129 =>
 (AV.asSl w129).bind fun l130 =>
 (bif ((decide ((0 : Int) ≤ n105)) && (decide (n105 < (l130.2 : Int)))) then
 (SA.ref l130.1).bind fun q131 =>
 (r126.2.ld q131.1 (q131.2 + (n105.toNat * 1))).bind fun w132 =>
 (AV.asI .u64 w132).bind fun n133 =>
 some ([(.b ((n114 : Int) != n133))], r126.2)
 else none)
 else none)
 else some ([(.b false)], r126.2)) : Option (List AV × AH O)).bind fun r134 =>
 (AV.asB (r134.1.getD 0 .u)).bind fun b135 =>
 some ([(.b b135)], r134.2)
 else some ([(.b true)], r122.2)) : Option (List AV × AH O)).bind fun r136 =>
 (AV.asB (r136.1.getD 0 .u)).bind fun b137 =>
 (bif b137 then
 ((((some ((.b false), r136.2) : Option (AV × AH O)).map fun r => Sum.inr (Sum.inr r)) : Option ((List AV × AH O) ⊕ ((List AV × AH O) ⊕ (AV × AH O)))).map fun r => Sum.inr (Sum.inr r))
 else some (Sum.inl ([(.i .i64 (IntKind.i64.wrap (n105 + 1)))], r136.2)))
 else none)
 else some (Sum.inr (Sum.inl ([], r104.2))))
 else none))
noncomputable def law16_StoreApart_L4 {O : Type} (l58 : SA × Nat) (l59 : SA × Nat) (k47 : Sm O) (p12 : Option (Bid × Nat)) (n61 : Int) (n63 : Int) (n66 : Int) (n5 : Int) (l96 : SA × Nat) : List AV × AH O → Option ((List AV × AH O) ⊕ ((List AV × AH O) ⊕ (AV × AH O))) := (fun r102 =>
 (AV.asI .i64 (r102.1.getD 0 .u)).bind fun n103 =>
 (bif (decide (n103 < (l58.2 : Int))) then
 bindS (S := List AV × AH O) (R := ((List AV × AH O) ⊕ ((List AV × AH O) ⊕ (AV × AH O)))) (loopF (S := List AV × AH O) (T := (List AV × AH O) ⊕ ((List AV × AH O) ⊕ ((List AV × AH O) ⊕ (AV × AH O)))) (law16_StoreApart_L5 n103 l59 l58 k47 p12 n61 n63 n66 n5 l96) ([(.i .i64 0)], r102.2)) fun r138 =>
 some (Sum.inl ([(.i .i64 (IntKind.i64.wrap (n103 + 1)))], r138.2))
 else some (Sum.inr (Sum.inl ([], r102.2)))))
noncomputable def law16_StoreApart_L3 {O : Type} (n69 : Int) (l59 : SA × Nat) (l58 : SA × Nat) (k47 : Sm O) (p12 : Option (Bid × Nat)) : List AV × AH O → Option ((List AV × AH O) ⊕ ((List AV × AH O) ⊕ ((List AV × AH O) ⊕ ((List AV × AH O) ⊕ (AV × AH O))))) := (fun r70 =>
 (AV.asSl (r70.1.getD 0 .u)).bind fun l71 =>
 (AV.asI .i64 (r70.1.getD 1 .u)).bind fun n72 =>
 (bif ((decide ((0 : Int) ≤ n69)) && (decide (n69 < (l59.2 : Int)))) then
 (SA.ref l59.1).bind fun q73 =>
 (r70.2.ld q73.1 (q73.2 + (n69.toNat * 1))).bind fun w74 =>
 (AV.asI .i64 w74).bind fun n75 =>
 (bif (decide (n72 < n75)) then
 (bif ((decide ((0 : Int) ≤ n69)) && (decide (n69 < (l58.2 : Int)))) then
 (SA.ref l58.1).bind fun q76 =>
 (r70.2.ld q76.1 (q76.2 + (n69.toNat * 1))).bind fun w77 =>
 (AV.asI .u64 w77).bind fun n78 =>
 (k47 [(.p p12), (.i .u64 n78), (.i .i64 n72)] r70.2).bind fun r79 =>
 (AV.asTup 2 r79.1).bind fun c80 =>
 (AV.asI .u64 (c80.getD 0 .u)).bind fun n81 =>
 (AV.asI .i64 (c80.getD 1 .u)).bind fun n82 =>
 (bif ((n82 : Int) != 0) then
 ((((some ((.b false), r79.2) : Option (AV × AH O)).map fun r => Sum.inr (Sum.inr r)) : Option ((List AV × AH O) ⊕ ((List AV × AH O) ⊕ (AV × AH O)))).map fun r => Sum.inr (Sum.inr r))
 else let σ83 := r79.2.bump 2
 let σ84 := σ83.put r79.2.next (.cells true 36 [(.i .u64 n81)])
 (σ84.rdSl (.loc (.n r79.2.next) 0 1) 1 1).bind fun new85 =>
 (bif (Nat.ble ((l71.2 + 1) * 9) 35184372088832) then
 (σ84.appSl (r79.2.next + 1) 36 1 l71.1 l71.2 1 new85).bind fun r86 =>
 (AV.asSl r86.1).bind fun l87 =>
 some (Sum.inl ([(.sl l87.1 l87.2), (.i .i64 (IntKind.i64.wrap (n72 + 1)))], r86.2))
 else none))
 else none)
 else some (Sum.inr (Sum.inl ([(.sl l71.1 l71.2)], r70.2))))
 else none))
noncomputable def law16_StoreApart_L2 {O : Type} (l58 : SA × Nat) (l59 : SA × Nat) (k47 : Sm O) (p12 : Option (Bid × Nat)) : List AV × AH O → Option ((List AV × AH O) ⊕ ((List AV × AH O) ⊕ (AV × AH O))) := (fun r67 =>
 (AV.asSl (r67.1.getD 0 .u)).bind fun l68 =>
 (AV.asI .i64 (r67.1.getD 1 .u)).bind fun n69 =>
 (bif (decide (n69 < (l58.2 : Int))) then
 bindS (S := List AV × AH O) (R := ((List AV × AH O) ⊕ ((List AV × AH O) ⊕ (AV × AH O)))) (loopF (S := List AV × AH O) (T := (List AV × AH O) ⊕ ((List AV × AH O) ⊕ ((List AV × AH O) ⊕ (AV × AH O)))) (law16_StoreApart_L3 n69 l59 l58 k47 p12) ([(.sl .nil 0), (.i .i64 0)], r67.2)) fun r88 =>
 (AV.asSl (r88.1.getD 0 .u)).bind fun l89 =>
 let σ90 := r88.2.bump 2
 let σ91 := σ90.put r88.2.next (.cells true 108 [(.sl l89.1 l89.2)])
 (σ91.rdSl (.loc (.n r88.2.next) 0 1) 1 1).bind fun new92 =>
 (bif (Nat.ble ((l68.2 + 1) * 25) 35184372088832) then
 (σ91.appSl (r88.2.next + 1) 108 1 l68.1 l68.2 1 new92).bind fun r93 =>
 (AV.asSl r93.1).bind fun l94 =>
 some (Sum.inl ([(.sl l94.1 l94.2), (.i .i64 (IntKind.i64.wrap (n69 + 1)))], r93.2))
 else none)
 else some (Sum.inr (Sum.inl ([(.sl l68.1 l68.2)], r67.2)))))
noncomputable def law16_StoreApart_L1 {O : Type} (l0 : SA × Nat) (k46 : Sm O) (p12 : Option (Bid × Nat)) : List AV × AH O → Option ((List AV × AH O) ⊕ (List AV × AH O)) := (fun r18 =>
 (AV.asSl (r18.1.getD 0 .u)).bind fun l19 =>
 (AV.asSl (r18.1.getD 1 .u)).bind fun l20 =>
 (AV.asI .i64 (r18.1.getD 2 .u)).bind fun n21 =>
 (bif (decide (n21 < (l0.2 : Int))) then
 let σ22 := r18.2.bump 1
 (bif ((decide ((0 : Int) ≤ n21)) && (decide (n21 < (l0.2 : Int)))) then
 (SA.ref l0.1).bind fun q23 =>
 (σ22.ld q23.1 (q23.2 + (n21.toNat * 2))).bind fun w24 =>
 (AV.asI .i64 w24).bind fun n25 =>
 (bif ((decide ((0 : Int) ≤ n21)) && (decide (n21 < (l0.2 : Int)))) then
 (SA.ref l0.1).bind fun q26 =>
 (σ22.ld q26.1 ((q26.2 + (n21.toNat * 2)) + 1)).bind fun w27 =>
 (AV.asI .i64 w27).bind fun n28 =>
 let σ29 := σ22.put r18.2.next (.cells true 106 [(.i .i64 0), (.i .i64 0)])
 (σ29.st (.n r18.2.next) 0 [(.i .i64 (ibits .and .i64 n25 7)), (.i .i64 (ibits .and .i64 n28 7))]).bind fun σ30 =>
 (σ30.ld (.n r18.2.next) 0).bind fun w31 =>
 (AV.asI .i64 w31).bind fun n32 =>
 (σ30.ld (.n r18.2.next) 1).bind fun w33 =>
 (AV.asI .i64 w33).bind fun n34 =>
 (k46 [(.p p12), (.agg [(.i .i64 n32), (.i .i64 n34)]), (.i .i64 n21)] σ30).bind fun r35 =>
 (AV.asTup 2 r35.1).bind fun c36 =>
 (AV.asI .u64 (c36.getD 0 .u)).bind fun n37 =>
 (AV.asI .i64 (c36.getD 1 .u)).bind fun n38 =>
 ((bif ((n38 : Int) == 0) then
 let σ39 := r35.2.bump 2
 let σ40 := σ39.put r35.2.next (.cells true 49 [(.i .u64 n37)])
 (σ40.rdSl (.loc (.n r35.2.next) 0 1) 1 1).bind fun new41 =>
 (bif (Nat.ble ((l19.2 + 1) * 9) 35184372088832) then
 (σ40.appSl (r35.2.next + 1) 49 1 l19.1 l19.2 1 new41).bind fun r42 =>
 (AV.asSl r42.1).bind fun l43 =>
 let σ44 := r42.2.bump 2
 (σ44.ld (.n r18.2.next) 0).bind fun w45 =>
 (AV.asI .i64 w45).bind fun n46 =>
 (σ44.ld (.n r18.2.next) 1).bind fun w47 =>
 (AV.asI .i64 w47).bind fun n48 =>
 let v49 : Int := (IntKind.i64.wrap ((IntKind.i64.wrap (1 + n46)) + n48))
 let σ50 := σ44.put r42.2.next (.cells true 3 [(.i .i64 v49)])
 (σ50.rdSl (.loc (.n r42.2.next) 0 1) 1 1).bind fun new51 =>
 (bif (Nat.ble ((l20.2 + 1) * 9) 35184372088832) then
 (σ50.appSl (r42.2.next + 1) 3 1 l20.1 l20.2 1 new51).bind fun r52 =>
 (AV.asSl r52.1).bind fun l53 =>
 some ([(.sl l43.1 l43.2), (.sl l53.1 l53.2)], r52.2)
 else none)
 else none)
 else some ([(.sl l19.1 l19.2), (.sl l20.1 l20.2)], r35.2)) : Option (List AV × AH O)).bind fun r54 =>
 (AV.asSl (r54.1.getD 0 .u)).bind fun l55 =>
 (AV.asSl (r54.1.getD 1 .u)).bind fun l56 =>
 some (Sum.inl ([(.sl l55.1 l55.2), (.sl l56.1 l56.2), (.i .i64 (IntKind.i64.wrap (n21 + 1)))], r54.2))
 else none)
 else none)
 else some (Sum.inr ([(.sl l19.1 l19.2), (.sl l20.1 l20.2)], r18.2))))
noncomputable def law16_StoreApart_c {O : Type} (k44 k45 k46 k47 k48 : Sm O) : Sm O := fun xs σ =>
 bif Nat.beq xs.length 3 then
 (AV.asSl (xs.getD 0 .u)).bind fun l0 =>
 (AV.asAgg 3 (xs.getD 1 .u)).bind fun c1 =>
 (AV.asI .u8 (c1.getD 0 .u)).bind fun n2 =>
 (AV.asI .u8 (c1.getD 1 .u)).bind fun n3 =>
 (AV.asI .u8 (c1.getD 2 .u)).bind fun n4 =>
 (AV.asI .u64 (xs.getD 2 .u)).bind fun n5 =>
 let σ6 := σ.bump 1
 let σ7 := σ6.put σ.next (.cells true 100 [(.i .u8 n2), (.i .u8 n3), (.i .u8 n4)])
 (k44 [] σ7).bind fun r8 =>
 (AV.asB r8.1).bind fun b9 =>
 (bif (!b9) then
 some ((.b false), r8.2)
 else (k45 [(.i .i64 6), (.i .i64 400)] r8.2).bind fun r10 =>
 (AV.asTup 2 r10.1).bind fun c11 =>
 (AV.asP (c11.getD 0 .u)).bind fun p12 =>
 (AV.asI .i64 (c11.getD 1 .u)).bind fun n13 =>
 ((bif ((Option.isNone p12) == false) then
 some ([(.b ((n13 : Int) != 0))], r10.2)
 else some ([(.b true)], r10.2)) : Option (List AV × AH O)).bind fun r14 =>
 (AV.asB (r14.1.getD 0 .u)).bind fun b15 =>
 ((bif (b15 == false) then
 some ([(.b (decide ((l0.2 : Int) > 20)))], r14.2)
 else some ([(.b true)], r14.2)) : Option (List AV × AH O)).bind fun r16 =>
 (AV.asB (r16.1.getD 0 .u)).bind fun b17 =>
 (bif b17 then
 some ((.b (!(Option.isNone p12))), r16.2)
 else (loopF (S := List AV × AH O) (T := List AV × AH O) (law16_StoreApart_L1 l0 k46 p12) ([(.sl .nil 0), (.sl .nil 0), (.i .i64 0)], r16.2)).bind fun r57 =>
 (AV.asSl (r57.1.getD 0 .u)).bind fun l58 =>
 (AV.asSl (r57.1.getD 1 .u)).bind fun l59 =>
 (bif (((l58.2 : Int) : Int) == 0) then
 some ((.b true), r57.2)
 else (r57.2.ld (.n σ.next) 0).bind fun w60 =>
 (AV.asI .u8 w60).bind fun n61 =>
 (bif ((l58.2 : Int) == 0) then
 none
 else (r57.2.ld (.n σ.next) 1).bind fun w62 =>
 (AV.asI .u8 w62).bind fun n63 =>
 (bif ((decide ((0 : Int) ≤ (Int.tmod (IntKind.i64.wrap n61) (l58.2 : Int)))) && (decide ((Int.tmod (IntKind.i64.wrap n61) (l58.2 : Int)) < (l59.2 : Int)))) then
 (SA.ref l59.1).bind fun q64 =>
 (r57.2.ld q64.1 (q64.2 + ((Int.tmod (IntKind.i64.wrap n61) (l58.2 : Int)).toNat * 1))).bind fun w65 =>
 (AV.asI .i64 w65).bind fun n66 =>
 (bif (n66 == 0) then
 none
 else bindS (S := List AV × AH O) (R := (AV × AH O)) (loopF (S := List AV × AH O) (T := (List AV × AH O) ⊕ (AV × AH O)) (law16_StoreApart_L2 l58 l59 k47 p12) ([(.sl .nil 0), (.i .i64 0)], r57.2)) fun r95 =>
 (AV.asSl (r95.1.getD 0 .u)).bind fun l96 =>
 (bif ((decide ((0 : Int) ≤ (Int.tmod (IntKind.i64.wrap n61) (l58.2 : Int)))) && (decide ((Int.tmod (IntKind.i64.wrap n61) (l58.2 : Int)) < (l58.2 : Int)))) then
 (SA.ref l58.1).bind fun q97 =>
 (r95.2.ld q97.1 (q97.2 + ((Int.tmod (IntKind.i64.wrap n61) (l58.2 : Int)).toNat * 1))).bind fun w98 =>
 (AV.asI .u64 w98).bind fun n99 =>
 (k48 [(.p p12), (.i .u64 n99), (.i .i64 (Int.tmod (IntKind.i64.wrap n63) n66)), (.i .u64 n5)] r95.2).bind fun r100 =>
 (AV.asI .i64 r100.1).bind fun n101 =>
 (bif ((n101 : Int) != 0) then
 some ((.b false), r100.2)
 else bindS (S := List AV × AH O) (R := (AV × AH O)) (loopF (S := List AV × AH O) (T := (List AV × AH O) ⊕ (AV × AH O)) (law16_StoreApart_L4 l58 l59 k47 p12 n61 n63 n66 n5 l96) ([(.i .i64 0)], r100.2)) fun r139 =>
 some ((.b true), r139.2))
 else none))
 else none)))))
 else none
noncomputable def law16_StoreApart {O : Type} : Sm O := law16_StoreApart_c law16_awake store_New store_Store__Make store_Store__Word store_Store__SetWord
theorem law16_StoreApart_ent : Entered Try.prog 7 := Try.call7
theorem law16_StoreApart_run {O : Type} (k44 k45 k46 k47 k48 : Sm O) : run (O := O) Try.prog [(44, k44), (45, k45), (46, k46), (47, k47), (48, k48)] Try.f7 (.n .z (.n (.n .z (.n .z .z)) (.n .z (.n (.n (.g [(2, 2, [(38, .one .b)]), (6, 3, [(43, .one .b)])]) (.n .z .z)) (.n .z (.n .z (.n (.n .z (.n (.lp false 0 [(9, .one .sl), (10, .one .sl), (11, .one (.i .i64))] [(9, .one .sl), (10, .one .sl)] (.n (.n .z .z) (.n (.n (.n (.d [] [0, 1, 2, 3, 4, 5, 6, 7, 8, 9, 10, 11, 12, 13, 14] [0, 0, 3, 7, 15, 31, 0, 0, 192, 448, 960, 1984, 4095, 0, 16383]) (.n .z (.n .z (.j false [(9, .one .sl), (10, .one .sl)] .z .z)))) .z) .z))) .z)) (.n (.n .z (.n .z .z)) (.n .z (.n (.d [] [0, 1, 2, 3, 4, 5, 6, 7, 8] [0, 1, 3, 0, 0, 24, 56, 127, 255]) (.n .z (.n (.n .z (.n (.lp true 2 [(17, .one .sl), (18, .one (.i .i64))] [(17, .one .sl)] (.n (.n .z .z) (.n (.n (.n .z (.n (.n .z (.n (.lp true 4 [(19, .one .sl), (20, .one (.i .i64))] [(19, .one .sl)] (.n (.n .z .z) (.n (.n (.n .z (.n (.n .z (.n .z .z)) .z)) .z) .z))) .z)) .z)) .z) .z))) .z)) (.n (.n .z (.n .z .z)) (.n (.n .z (.n (.lp true 6 [(23, .one (.i .i64))] [] (.n (.n .z .z) (.n (.n (.n .z (.n (.lp true 8 [(24, .one (.i .i64))] [] (.n (.n .z .z) (.n (.n (.n .z (.n (.g [(2, 13, [(187, .one .b)]), (6, 3, [(181, .one .b)]), (11, 3, [(186, .one .b)]), (17, 19, [(208, .one .b)]), (21, 3, [(196, .one .b)]), (26, 9, [(207, .one .b)])]) (.n .z .z))) .z) .z))) .z)) .z) .z))) .z)) .z)))))))))))))) = law16_StoreApart_c k44 k45 k46 k47 k48 := by kernel_rfl
theorem law16_StoreApart_sound {O : Type} {RO : O → Loc → (Nat → Option Obj) → Prop} : FSound RO Try.prog 7 (law16_StoreApart) :=
   have h : FSound RO Try.prog 7 (law16_StoreApart_c law16_awake store_New store_Store__Make store_Store__Word store_Store__SetWord) := (law16_StoreApart_run law16_awake store_New store_Store__Make store_Store__Word store_Store__SetWord) ▸ run_sound (gcons law16_awake_ent (law16_awake_sound) <| gcons store_New_ent (store_New_sound) <| gcons store_Store__Make_ent (store_Store__Make_sound) <| gcons store_Store__Word_ent (store_Store__Word_sound) <| gcons store_Store__SetWord_ent (store_Store__SetWord_sound) <| gnil) mixed Try.func7 (by kernel_rfl) _
   h

/-- (*haymow/meter.Meter).Of -/
noncomputable def meter_Meter__Of_c {O : Type} : Sm O := fun xs σ =>
 bif Nat.beq xs.length 2 then
 (AV.asP (xs.getD 0 .u)).bind fun p0 =>
 (AV.asI .i64 (xs.getD 1 .u)).bind fun n1 =>
 let σ2 := σ.bump 1
 let σ3 := σ2.put σ.next (.cells true 38 [(.i .u64 0), (.i .u64 0)])
 ((bif ((Option.isNone p0) == false) then
 some ([(.b (decide (n1 < 0)))], σ3)
 else some ([(.b true)], σ3)) : Option (List AV × AH O)).bind fun r4 =>
 (AV.asB (r4.1.getD 0 .u)).bind fun b5 =>
 ((bif (b5 == false) then
 some ([(.b (decide (n1 ≥ 2)))], r4.2)
 else some ([(.b true)], r4.2)) : Option (List AV × AH O)).bind fun r6 =>
 (AV.asB (r6.1.getD 0 .u)).bind fun b7 =>
 (bif b7 then
 (r6.2.st (.n σ.next) 0 [(.i .u64 0), (.i .u64 0)]).bind fun σ8 =>
 (σ8.ld (.n σ.next) 0).bind fun w9 =>
 (AV.asI .u64 w9).bind fun n10 =>
 (σ8.ld (.n σ.next) 1).bind fun w11 =>
 (AV.asI .u64 w11).bind fun n12 =>
 some ((.agg [(.i .u64 n10), (.i .u64 n12)]), σ8)
 else Option.bind p0 fun q13 =>
 (bif ((decide ((0 : Int) ≤ n1)) && (decide (n1 < 2))) then
 (r6.2.ld q13.1 (q13.2 + (n1.toNat * 2))).bind fun w14 =>
 (AV.asI .u64 w14).bind fun n15 =>
 (r6.2.ld q13.1 ((q13.2 + (n1.toNat * 2)) + 1)).bind fun w16 =>
 (AV.asI .u64 w16).bind fun n17 =>
 (r6.2.st (.n σ.next) 0 [(.i .u64 n15), (.i .u64 n17)]).bind fun σ18 =>
 (σ18.ld (.n σ.next) 0).bind fun w19 =>
 (AV.asI .u64 w19).bind fun n20 =>
 (σ18.ld (.n σ.next) 1).bind fun w21 =>
 (AV.asI .u64 w21).bind fun n22 =>
 some ((.agg [(.i .u64 n20), (.i .u64 n22)]), σ18)
 else none))
 else none
noncomputable def meter_Meter__Of {O : Type} : Sm O := meter_Meter__Of_c
theorem meter_Meter__Of_ent : Entered Try.prog 59 := Try.call59
theorem meter_Meter__Of_run {O : Type} : run (O := O) Try.prog [] Try.f59 (.n .z (.n (.n (.g [(2, 2, [(10, .one .b)]), (6, 2, [(14, .one .b)])]) (.n .z .z)) .z)) = meter_Meter__Of_c  := by kernel_rfl
theorem meter_Meter__Of_sound {O : Type} {RO : O → Loc → (Nat → Option Obj) → Prop} : FSound RO Try.prog 59 (meter_Meter__Of) :=
   have h : FSound RO Try.prog 59 (meter_Meter__Of_c) := (meter_Meter__Of_run) ▸ run_sound (gnil) mixed Try.func59 (by kernel_rfl) _
   h

/-- (*haymow/meter.Meter).Steps -/
noncomputable def meter_Meter__Steps_c {O : Type} (k59 k58 : Sm O) : Sm O := fun xs σ =>
 bif Nat.beq xs.length 1 then
 (AV.asP (xs.getD 0 .u)).bind fun p0 =>
 let σ1 := σ.bump 1
 let σ2 := σ1.put σ.next (.cells true 38 [(.i .u64 0), (.i .u64 0)])
 let σ3 := σ2.bump 1
 (k59 [(.p p0), (.i .i64 0)] σ3).bind fun r4 =>
 (AV.asAgg 2 r4.1).bind fun c5 =>
 (AV.asI .u64 (c5.getD 0 .u)).bind fun n6 =>
 (AV.asI .u64 (c5.getD 1 .u)).bind fun n7 =>
 (k59 [(.p p0), (.i .i64 1)] r4.2).bind fun r8 =>
 (AV.asAgg 2 r8.1).bind fun c9 =>
 (AV.asI .u64 (c9.getD 0 .u)).bind fun n10 =>
 (AV.asI .u64 (c9.getD 1 .u)).bind fun n11 =>
 (k58 [(.agg [(.i .u64 n6), (.i .u64 n7)]), (.agg [(.i .u64 n10), (.i .u64 n11)])] r8.2).bind fun r12 =>
 (AV.asTup 2 r12.1).bind fun c13 =>
 (AV.asAgg 2 (c13.getD 0 .u)).bind fun c14 =>
 (AV.asI .u64 (c14.getD 0 .u)).bind fun n15 =>
 (AV.asI .u64 (c14.getD 1 .u)).bind fun n16 =>
 (AV.asB (c13.getD 1 .u)).bind fun b17 =>
 let σ18 := r12.2.put σ2.next (.cells true 38 [(.i .u64 0), (.i .u64 0)])
 (σ18.st (.n σ2.next) 0 [(.i .u64 n15), (.i .u64 n16)]).bind fun σ19 =>
 (σ19.ld (.n σ2.next) 0).bind fun w20 =>
 (AV.asI .u64 w20).bind fun n21 =>
 (σ19.ld (.n σ2.next) 1).bind fun w22 =>
 (AV.asI .u64 w22).bind fun n23 =>
 (σ19.st (.n σ.next) 0 [(.i .u64 n21), (.i .u64 n23)]).bind fun σ24 =>
 (σ24.ld (.n σ.next) 0).bind fun w25 =>
 (AV.asI .u64 w25).bind fun n26 =>
 (σ24.ld (.n σ.next) 1).bind fun w27 =>
 (AV.asI .u64 w27).bind fun n28 =>
 some ((.agg [(.i .u64 n26), (.i .u64 n28)]), σ24)
 else none
noncomputable def meter_Meter__Steps {O : Type} : Sm O := meter_Meter__Steps_c meter_Meter__Of wide_Add
theorem meter_Meter__Steps_ent : Entered Try.prog 12 := Try.call12
theorem meter_Meter__Steps_run {O : Type} (k59 k58 : Sm O) : run (O := O) Try.prog [(59, k59), (58, k58)] Try.f12 (.n .z (.n .z .z)) = meter_Meter__Steps_c k59 k58 := by kernel_rfl
theorem meter_Meter__Steps_sound {O : Type} {RO : O → Loc → (Nat → Option Obj) → Prop} : FSound RO Try.prog 12 (meter_Meter__Steps) :=
   have h : FSound RO Try.prog 12 (meter_Meter__Steps_c meter_Meter__Of wide_Add) := (meter_Meter__Steps_run meter_Meter__Of wide_Add) ▸ run_sound (gcons meter_Meter__Of_ent (meter_Meter__Of_sound) <| gcons wide_Add_ent (wide_Add_sound) <| gnil) mixed Try.func12 (by kernel_rfl) _
   h

/-- haymow/haymowref01.Parts -/
noncomputable def haymowref01_Parts_c {O : Type} : Sm O := fun xs σ =>
 bif Nat.beq xs.length 1 then
 (AV.asAgg 2 (xs.getD 0 .u)).bind fun c0 =>
 (AV.asI .u64 (c0.getD 0 .u)).bind fun n1 =>
 (AV.asI .u64 (c0.getD 1 .u)).bind fun n2 =>
 let σ3 := σ.bump 2
 let σ4 := σ3.put σ.next (.cells true 38 [(.i .u64 n1), (.i .u64 n2)])
 let σ5 := σ4.put (σ.next + 1) (.cells true 155 [(.i .u64 0), (.i .u64 0), (.i .u64 0), (.i .u64 0), (.i .u64 0), (.i .u64 0)])
 (σ5.ld (.n σ.next) 1).bind fun w6 =>
 (AV.asI .u64 w6).bind fun n7 =>
 (σ5.ld (.n σ.next) 1).bind fun w8 =>
 (AV.asI .u64 w8).bind fun n9 =>
 (σ5.ld (.n σ.next) 0).bind fun w10 =>
 (AV.asI .u64 w10).bind fun n11 =>
 (σ5.ld (.n σ.next) 0).bind fun w12 =>
 (AV.asI .u64 w12).bind fun n13 =>
 (σ5.st (.n (σ.next + 1)) 0 [(.i .u64 (Int.tmod n7 4294967296)), (.i .u64 (IntKind.u64.wrap (Int.tdiv n9 4294967296))), (.i .u64 (Int.tmod n11 4294967296)), (.i .u64 (IntKind.u64.wrap (Int.tdiv n13 4294967296))), (.i .u64 0), (.i .u64 0)]).bind fun σ14 =>
 (σ14.ld (.n (σ.next + 1)) 0).bind fun w15 =>
 (AV.asI .u64 w15).bind fun n16 =>
 (σ14.ld (.n (σ.next + 1)) 1).bind fun w17 =>
 (AV.asI .u64 w17).bind fun n18 =>
 (σ14.ld (.n (σ.next + 1)) 2).bind fun w19 =>
 (AV.asI .u64 w19).bind fun n20 =>
 (σ14.ld (.n (σ.next + 1)) 3).bind fun w21 =>
 (AV.asI .u64 w21).bind fun n22 =>
 (σ14.ld (.n (σ.next + 1)) 4).bind fun w23 =>
 (AV.asI .u64 w23).bind fun n24 =>
 (σ14.ld (.n (σ.next + 1)) 5).bind fun w25 =>
 (AV.asI .u64 w25).bind fun n26 =>
 some ((.agg [(.i .u64 n16), (.i .u64 n18), (.i .u64 n20), (.i .u64 n22), (.i .u64 n24), (.i .u64 n26)]), σ14)
 else none
noncomputable def haymowref01_Parts {O : Type} : Sm O := haymowref01_Parts_c
theorem haymowref01_Parts_ent : Entered Try.prog 76 := Try.call76
theorem haymowref01_Parts_run {O : Type} : run (O := O) Try.prog [] Try.f76 (.n .z .z) = haymowref01_Parts_c  := by kernel_rfl
theorem haymowref01_Parts_sound {O : Type} {RO : O → Loc → (Nat → Option Obj) → Prop} : FSound RO Try.prog 76 (haymowref01_Parts) :=
   have h : FSound RO Try.prog 76 (haymowref01_Parts_c) := (haymowref01_Parts_run) ▸ run_sound (gnil) mixed Try.func76 (by kernel_rfl) _
   h

/-- haymow/haymowref01.Cmp -/
noncomputable def haymowref01_Cmp_L1 {O : Type} (σ8 : AH O) : List AV × AH O → Option ((List AV × AH O) ⊕ ((List AV × AH O) ⊕ (AV × AH O))) := (fun r38 =>
 (AV.asI .i64 (r38.1.getD 0 .u)).bind fun n39 =>
 (bif (decide (n39 ≥ 0)) then
 (bif ((decide ((0 : Int) ≤ n39)) && (decide (n39 < 6))) then
 (r38.2.ld (.n σ8.next) (0 + (n39.toNat * 1))).bind fun w40 =>
 (AV.asI .u64 w40).bind fun n41 =>
 (bif ((decide ((0 : Int) ≤ n39)) && (decide (n39 < 6))) then
 (r38.2.ld (.n (σ8.next + 1)) (0 + (n39.toNat * 1))).bind fun w42 =>
 (AV.asI .u64 w42).bind fun n43 =>
 (bif (decide (n41 < n43)) then
 ((some ((.i .i64 (-1)), r38.2) : Option (AV × AH O)).map fun r => Sum.inr (Sum.inr r))
 else (bif ((decide ((0 : Int) ≤ n39)) && (decide (n39 < 6))) then
 (r38.2.ld (.n σ8.next) (0 + (n39.toNat * 1))).bind fun w44 =>
 (AV.asI .u64 w44).bind fun n45 =>
 (bif ((decide ((0 : Int) ≤ n39)) && (decide (n39 < 6))) then
 (r38.2.ld (.n (σ8.next + 1)) (0 + (n39.toNat * 1))).bind fun w46 =>
 (AV.asI .u64 w46).bind fun n47 =>
 (bif (decide (n45 > n47)) then
 ((some ((.i .i64 1), r38.2) : Option (AV × AH O)).map fun r => Sum.inr (Sum.inr r))
 else some (Sum.inl ([(.i .i64 (IntKind.i64.wrap (n39 - 1)))], r38.2)))
 else none)
 else none))
 else none)
 else none)
 else some (Sum.inr (Sum.inl ([], r38.2)))))
noncomputable def haymowref01_Cmp_c {O : Type} (k76 : Sm O) : Sm O := fun xs σ =>
 bif Nat.beq xs.length 2 then
 (AV.asAgg 2 (xs.getD 0 .u)).bind fun c0 =>
 (AV.asI .u64 (c0.getD 0 .u)).bind fun n1 =>
 (AV.asI .u64 (c0.getD 1 .u)).bind fun n2 =>
 (AV.asAgg 2 (xs.getD 1 .u)).bind fun c3 =>
 (AV.asI .u64 (c3.getD 0 .u)).bind fun n4 =>
 (AV.asI .u64 (c3.getD 1 .u)).bind fun n5 =>
 let σ6 := σ.bump 2
 let σ7 := σ6.put σ.next (.cells true 38 [(.i .u64 n1), (.i .u64 n2)])
 let σ8 := σ7.put (σ.next + 1) (.cells true 38 [(.i .u64 n4), (.i .u64 n5)])
 let σ9 := σ8.bump 2
 (σ9.ld (.n σ.next) 0).bind fun w10 =>
 (AV.asI .u64 w10).bind fun n11 =>
 (σ9.ld (.n σ.next) 1).bind fun w12 =>
 (AV.asI .u64 w12).bind fun n13 =>
 (σ9.ld (.n (σ.next + 1)) 0).bind fun w14 =>
 (AV.asI .u64 w14).bind fun n15 =>
 (σ9.ld (.n (σ.next + 1)) 1).bind fun w16 =>
 (AV.asI .u64 w16).bind fun n17 =>
 (k76 [(.agg [(.i .u64 n11), (.i .u64 n13)])] σ9).bind fun r18 =>
 (AV.asAgg 6 r18.1).bind fun c19 =>
 (AV.asI .u64 (c19.getD 0 .u)).bind fun n20 =>
 (AV.asI .u64 (c19.getD 1 .u)).bind fun n21 =>
 (AV.asI .u64 (c19.getD 2 .u)).bind fun n22 =>
 (AV.asI .u64 (c19.getD 3 .u)).bind fun n23 =>
 (AV.asI .u64 (c19.getD 4 .u)).bind fun n24 =>
 (AV.asI .u64 (c19.getD 5 .u)).bind fun n25 =>
 (chkE (r18.2.ld (.n (σ.next + 1)) 0) (some (.i .u64 n15))).bind fun _ =>
 (chkE (r18.2.ld (.n (σ.next + 1)) 1) (some (.i .u64 n17))).bind fun _ =>
 (k76 [(.agg [(.i .u64 n15), (.i .u64 n17)])] r18.2).bind fun r26 =>
 (AV.asAgg 6 r26.1).bind fun c27 =>
 (AV.asI .u64 (c27.getD 0 .u)).bind fun n28 =>
 (AV.asI .u64 (c27.getD 1 .u)).bind fun n29 =>
 (AV.asI .u64 (c27.getD 2 .u)).bind fun n30 =>
 (AV.asI .u64 (c27.getD 3 .u)).bind fun n31 =>
 (AV.asI .u64 (c27.getD 4 .u)).bind fun n32 =>
 (AV.asI .u64 (c27.getD 5 .u)).bind fun n33 =>
 let σ34 := r26.2.put σ8.next (.cells true 155 [(.i .u64 0), (.i .u64 0), (.i .u64 0), (.i .u64 0), (.i .u64 0), (.i .u64 0)])
 let σ35 := σ34.put (σ8.next + 1) (.cells true 155 [(.i .u64 0), (.i .u64 0), (.i .u64 0), (.i .u64 0), (.i .u64 0), (.i .u64 0)])
 (σ35.st (.n σ8.next) 0 [(.i .u64 n20), (.i .u64 n21), (.i .u64 n22), (.i .u64 n23), (.i .u64 n24), (.i .u64 n25)]).bind fun σ36 =>
 (σ36.st (.n (σ8.next + 1)) 0 [(.i .u64 n28), (.i .u64 n29), (.i .u64 n30), (.i .u64 n31), (.i .u64 n32), (.i .u64 n33)]).bind fun σ37 =>
 bindS (S := List AV × AH O) (R := (AV × AH O)) (loopF (S := List AV × AH O) (T := (List AV × AH O) ⊕ (AV × AH O)) (haymowref01_Cmp_L1 σ8) ([(.i .i64 3)], σ37)) fun r48 =>
 some ((.i .i64 0), r48.2)
 else none
noncomputable def haymowref01_Cmp {O : Type} : Sm O := haymowref01_Cmp_c haymowref01_Parts
theorem haymowref01_Cmp_ent : Entered Try.prog 17 := Try.call17
theorem haymowref01_Cmp_run {O : Type} (k76 : Sm O) : run (O := O) Try.prog [(76, k76)] Try.f17 (.n .z (.n (.d [] [0, 2, 1, 3, 4, 5, 6, 7] [0, 1, 0, 7, 0, 0, 63, 127]) (.n (.n .z (.n (.lp true 0 [(7, .one (.i .i64))] [] (.n (.n .z .z) (.n (.n (.n (.n (.d [] [0, 1, 2, 3, 4, 5, 6] [0, 1, 3, 0, 8, 24, 63]) (.n .z .z)) (.n (.d [] [0, 1, 2, 3, 4, 5, 6] [0, 1, 3, 0, 8, 24, 63]) (.n .z .z))) .z) .z))) .z)) .z))) = haymowref01_Cmp_c k76 := by kernel_rfl
theorem haymowref01_Cmp_sound {O : Type} {RO : O → Loc → (Nat → Option Obj) → Prop} : FSound RO Try.prog 17 (haymowref01_Cmp) :=
   have h : FSound RO Try.prog 17 (haymowref01_Cmp_c haymowref01_Parts) := (haymowref01_Cmp_run haymowref01_Parts) ▸ run_sound (gcons haymowref01_Parts_ent (haymowref01_Parts_sound) <| gnil) mixed Try.func17 (by kernel_rfl) _
   h

/-- haymow/shape.Slot -/
noncomputable def shape_Slot_c {O : Type} (k153 : Sm O) : Sm O := fun xs σ =>
 bif Nat.beq xs.length 2 then
 (AV.asAgg 2 (xs.getD 0 .u)).bind fun c0 =>
 (AV.asI .i64 (c0.getD 0 .u)).bind fun n1 =>
 (AV.asI .i64 (c0.getD 1 .u)).bind fun n2 =>
 (AV.asI .i64 (xs.getD 1 .u)).bind fun n3 =>
 let σ4 := σ.bump 1
 let σ5 := σ4.put σ.next (.cells true 106 [(.i .i64 n1), (.i .i64 n2)])
 (σ5.ld (.n σ.next) 0).bind fun w6 =>
 (AV.asI .i64 w6).bind fun n7 =>
 (σ5.ld (.n σ.next) 1).bind fun w8 =>
 (AV.asI .i64 w8).bind fun n9 =>
 (k153 [(.agg [(.i .i64 n7), (.i .i64 n9)])] σ5).bind fun r10 =>
 (AV.asB r10.1).bind fun b11 =>
 ((bif ((!b11) == false) then
 some ([(.b (decide (n3 < 0)))], r10.2)
 else some ([(.b true)], r10.2)) : Option (List AV × AH O)).bind fun r12 =>
 (AV.asB (r12.1.getD 0 .u)).bind fun b13 =>
 ((bif (b13 == false) then
 (r12.2.ld (.n σ.next) 0).bind fun w14 =>
 (AV.asI .i64 w14).bind fun n15 =>
 some ([(.b (decide (n3 ≥ n15)))], r12.2)
 else some ([(.b true)], r12.2)) : Option (List AV × AH O)).bind fun r16 =>
 (AV.asB (r16.1.getD 0 .u)).bind fun b17 =>
 (bif b17 then
 some ((.tup [(.i .i64 0), (.i .i64 32)]), r16.2)
 else some ((.tup [(.i .i64 (IntKind.i64.wrap (1 + n3))), (.i .i64 0)]), r16.2))
 else none
noncomputable def shape_Slot {O : Type} : Sm O := shape_Slot_c shape_Right
theorem shape_Slot_ent : Entered Try.prog 117 := Try.call117
theorem shape_Slot_run {O : Type} (k153 : Sm O) : run (O := O) Try.prog [(153, k153)] Try.f117 (.n .z (.n (.n (.g [(3, 2, [(12, .one .b)]), (7, 4, [(18, .one .b)])]) (.n .z .z)) .z)) = shape_Slot_c k153 := by kernel_rfl
theorem shape_Slot_sound {O : Type} {RO : O → Loc → (Nat → Option Obj) → Prop} : FSound RO Try.prog 117 (shape_Slot) :=
   have h : FSound RO Try.prog 117 (shape_Slot_c shape_Right) := (shape_Slot_run shape_Right) ▸ run_sound (gcons shape_Right_ent (shape_Right_sound) <| gnil) mixed Try.func117 (by kernel_rfl) _
   h

/-- (*haymow/store.Store).Pointer -/
noncomputable def store_Store__Pointer_c {O : Type} (k50 k117 k47 : Sm O) : Sm O := fun xs σ =>
 bif Nat.beq xs.length 3 then
 (AV.asP (xs.getD 0 .u)).bind fun p0 =>
 (AV.asI .u64 (xs.getD 1 .u)).bind fun n1 =>
 (AV.asI .i64 (xs.getD 2 .u)).bind fun n2 =>
 let σ3 := σ.bump 1
 (k50 [(.p p0), (.i .u64 n1)] σ3).bind fun r4 =>
 (AV.asTup 2 r4.1).bind fun c5 =>
 (AV.asAgg 5 (c5.getD 0 .u)).bind fun c6 =>
 (AV.asI .i64 (c6.getD 0 .u)).bind fun n7 =>
 (AV.asI .i64 (c6.getD 1 .u)).bind fun n8 =>
 (AV.asI .i64 (c6.getD 2 .u)).bind fun n9 =>
 (AV.asI .i64 (c6.getD 3 .u)).bind fun n10 =>
 (AV.asB (c6.getD 4 .u)).bind fun b11 =>
 (AV.asI .i64 (c5.getD 1 .u)).bind fun n12 =>
 let σ13 := r4.2.put σ.next (.cells true 115 [(.i .i64 0), (.i .i64 0), (.i .i64 0), (.i .i64 0), (.b false)])
 (σ13.st (.n σ.next) 0 [(.i .i64 n7), (.i .i64 n8), (.i .i64 n9), (.i .i64 n10), (.b b11)]).bind fun σ14 =>
 (bif ((n12 : Int) != 0) then
 some ((.tup [(.i .u64 0), (.i .i64 n12)]), σ14)
 else (σ14.ld (.n σ.next) 0).bind fun w15 =>
 (AV.asI .i64 w15).bind fun n16 =>
 (σ14.ld (.n σ.next) 1).bind fun w17 =>
 (AV.asI .i64 w17).bind fun n18 =>
 (k117 [(.agg [(.i .i64 n16), (.i .i64 n18)]), (.i .i64 n2)] σ14).bind fun r19 =>
 (AV.asTup 2 r19.1).bind fun c20 =>
 (AV.asI .i64 (c20.getD 0 .u)).bind fun n21 =>
 (AV.asI .i64 (c20.getD 1 .u)).bind fun n22 =>
 (bif ((n22 : Int) != 0) then
 some ((.tup [(.i .u64 0), (.i .i64 n22)]), r19.2)
 else (k47 [(.p p0), (.i .u64 n1), (.i .i64 n21)] r19.2).bind fun r23 =>
 (AV.asTup 2 r23.1).bind fun c24 =>
 (AV.asI .u64 (c24.getD 0 .u)).bind fun n25 =>
 (AV.asI .i64 (c24.getD 1 .u)).bind fun n26 =>
 some ((.tup [(.i .u64 n25), (.i .i64 n26)]), r23.2)))
 else none
noncomputable def store_Store__Pointer {O : Type} : Sm O := store_Store__Pointer_c store_Store__Header shape_Slot store_Store__Word
theorem store_Store__Pointer_ent : Entered Try.prog 51 := Try.call51
theorem store_Store__Pointer_run {O : Type} (k50 k117 k47 : Sm O) : run (O := O) Try.prog [(50, k50), (117, k117), (47, k47)] Try.f51 (.n .z (.n .z (.n (.n .z (.n .z .z)) (.n .z (.n (.n .z (.n .z .z)) (.n .z .z)))))) = store_Store__Pointer_c k50 k117 k47 := by kernel_rfl
theorem store_Store__Pointer_sound {O : Type} {RO : O → Loc → (Nat → Option Obj) → Prop} : FSound RO Try.prog 51 (store_Store__Pointer) :=
   have h : FSound RO Try.prog 51 (store_Store__Pointer_c store_Store__Header shape_Slot store_Store__Word) := (store_Store__Pointer_run store_Store__Header shape_Slot store_Store__Word) ▸ run_sound (gcons store_Store__Header_ent (store_Store__Header_sound) <| gcons shape_Slot_ent (shape_Slot_sound) <| gcons store_Store__Word_ent (store_Store__Word_sound) <| gnil) mixed Try.func51 (by kernel_rfl) _
   h

/-- (*haymow/store.Store).SetPointer -/
noncomputable def store_Store__SetPointer_c {O : Type} (k50 k117 k113 k48 : Sm O) : Sm O := fun xs σ =>
 bif Nat.beq xs.length 4 then
 (AV.asP (xs.getD 0 .u)).bind fun p0 =>
 (AV.asI .u64 (xs.getD 1 .u)).bind fun n1 =>
 (AV.asI .i64 (xs.getD 2 .u)).bind fun n2 =>
 (AV.asI .u64 (xs.getD 3 .u)).bind fun n3 =>
 let σ4 := σ.bump 1
 (k50 [(.p p0), (.i .u64 n1)] σ4).bind fun r5 =>
 (AV.asTup 2 r5.1).bind fun c6 =>
 (AV.asAgg 5 (c6.getD 0 .u)).bind fun c7 =>
 (AV.asI .i64 (c7.getD 0 .u)).bind fun n8 =>
 (AV.asI .i64 (c7.getD 1 .u)).bind fun n9 =>
 (AV.asI .i64 (c7.getD 2 .u)).bind fun n10 =>
 (AV.asI .i64 (c7.getD 3 .u)).bind fun n11 =>
 (AV.asB (c7.getD 4 .u)).bind fun b12 =>
 (AV.asI .i64 (c6.getD 1 .u)).bind fun n13 =>
 let σ14 := r5.2.put σ.next (.cells true 115 [(.i .i64 0), (.i .i64 0), (.i .i64 0), (.i .i64 0), (.b false)])
 (σ14.st (.n σ.next) 0 [(.i .i64 n8), (.i .i64 n9), (.i .i64 n10), (.i .i64 n11), (.b b12)]).bind fun σ15 =>
 (bif ((n13 : Int) != 0) then
 some ((.i .i64 n13), σ15)
 else (σ15.ld (.n σ.next) 0).bind fun w16 =>
 (AV.asI .i64 w16).bind fun n17 =>
 (σ15.ld (.n σ.next) 1).bind fun w18 =>
 (AV.asI .i64 w18).bind fun n19 =>
 (k117 [(.agg [(.i .i64 n17), (.i .i64 n19)]), (.i .i64 n2)] σ15).bind fun r20 =>
 (AV.asTup 2 r20.1).bind fun c21 =>
 (AV.asI .i64 (c21.getD 0 .u)).bind fun n22 =>
 (AV.asI .i64 (c21.getD 1 .u)).bind fun n23 =>
 (bif ((n23 : Int) != 0) then
 some ((.i .i64 n23), r20.2)
 else (k113 [(.i .u64 n3)] r20.2).bind fun r24 =>
 (AV.asI .i64 r24.1).bind fun n25 =>
 (bif ((n25 : Int) == 3) then
 some ((.i .i64 5), r24.2)
 else (k48 [(.p p0), (.i .u64 n1), (.i .i64 n22), (.i .u64 n3)] r24.2).bind fun r26 =>
 (AV.asI .i64 r26.1).bind fun n27 =>
 some ((.i .i64 n27), r26.2))))
 else none
noncomputable def store_Store__SetPointer {O : Type} : Sm O := store_Store__SetPointer_c store_Store__Header shape_Slot ref_Ref__Kind store_Store__SetWord
theorem store_Store__SetPointer_ent : Entered Try.prog 52 := Try.call52
theorem store_Store__SetPointer_run {O : Type} (k50 k117 k113 k48 : Sm O) : run (O := O) Try.prog [(50, k50), (117, k117), (113, k113), (48, k48)] Try.f52 (.n .z (.n .z (.n (.n .z (.n .z .z)) (.n .z (.n (.n (.n .z (.n .z (.n .z (.n .z .z)))) .z) .z))))) = store_Store__SetPointer_c k50 k117 k113 k48 := by kernel_rfl
theorem store_Store__SetPointer_sound {O : Type} {RO : O → Loc → (Nat → Option Obj) → Prop} : FSound RO Try.prog 52 (store_Store__SetPointer) :=
   have h : FSound RO Try.prog 52 (store_Store__SetPointer_c store_Store__Header shape_Slot ref_Ref__Kind store_Store__SetWord) := (store_Store__SetPointer_run store_Store__Header shape_Slot ref_Ref__Kind store_Store__SetWord) ▸ run_sound (gcons store_Store__Header_ent (store_Store__Header_sound) <| gcons shape_Slot_ent (shape_Slot_sound) <| gcons ref_Ref__Kind_ent (ref_Ref__Kind_sound) <| gcons store_Store__SetWord_ent (store_Store__SetWord_sound) <| gnil) mixed Try.func52 (by kernel_rfl) _
   h

/-- haymow/shape.Cell -/
noncomputable def shape_Cell_c {O : Type} (k153 : Sm O) : Sm O := fun xs σ =>
 bif Nat.beq xs.length 2 then
 (AV.asAgg 2 (xs.getD 0 .u)).bind fun c0 =>
 (AV.asI .i64 (c0.getD 0 .u)).bind fun n1 =>
 (AV.asI .i64 (c0.getD 1 .u)).bind fun n2 =>
 (AV.asI .i64 (xs.getD 1 .u)).bind fun n3 =>
 let σ4 := σ.bump 1
 let σ5 := σ4.put σ.next (.cells true 106 [(.i .i64 n1), (.i .i64 n2)])
 (σ5.ld (.n σ.next) 0).bind fun w6 =>
 (AV.asI .i64 w6).bind fun n7 =>
 (σ5.ld (.n σ.next) 1).bind fun w8 =>
 (AV.asI .i64 w8).bind fun n9 =>
 (k153 [(.agg [(.i .i64 n7), (.i .i64 n9)])] σ5).bind fun r10 =>
 (AV.asB r10.1).bind fun b11 =>
 ((bif ((!b11) == false) then
 some ([(.b (decide (n3 < 0)))], r10.2)
 else some ([(.b true)], r10.2)) : Option (List AV × AH O)).bind fun r12 =>
 (AV.asB (r12.1.getD 0 .u)).bind fun b13 =>
 ((bif (b13 == false) then
 (r12.2.ld (.n σ.next) 1).bind fun w14 =>
 (AV.asI .i64 w14).bind fun n15 =>
 some ([(.b (decide (n3 ≥ n15)))], r12.2)
 else some ([(.b true)], r12.2)) : Option (List AV × AH O)).bind fun r16 =>
 (AV.asB (r16.1.getD 0 .u)).bind fun b17 =>
 (bif b17 then
 some ((.tup [(.i .i64 0), (.i .i64 32)]), r16.2)
 else (r16.2.ld (.n σ.next) 0).bind fun w18 =>
 (AV.asI .i64 w18).bind fun n19 =>
 let v20 : Int := (IntKind.i64.wrap ((IntKind.i64.wrap (1 + n19)) + n3))
 some ((.tup [(.i .i64 v20), (.i .i64 0)]), r16.2))
 else none
noncomputable def shape_Cell {O : Type} : Sm O := shape_Cell_c shape_Right
theorem shape_Cell_ent : Entered Try.prog 118 := Try.call118
theorem shape_Cell_run {O : Type} (k153 : Sm O) : run (O := O) Try.prog [(153, k153)] Try.f118 (.n .z (.n (.n (.g [(3, 2, [(12, .one .b)]), (7, 4, [(18, .one .b)])]) (.n .z .z)) .z)) = shape_Cell_c k153 := by kernel_rfl
theorem shape_Cell_sound {O : Type} {RO : O → Loc → (Nat → Option Obj) → Prop} : FSound RO Try.prog 118 (shape_Cell) :=
   have h : FSound RO Try.prog 118 (shape_Cell_c shape_Right) := (shape_Cell_run shape_Right) ▸ run_sound (gcons shape_Right_ent (shape_Right_sound) <| gnil) mixed Try.func118 (by kernel_rfl) _
   h

/-- (*haymow/store.Store).Raw -/
noncomputable def store_Store__Raw_c {O : Type} (k50 k118 k47 : Sm O) : Sm O := fun xs σ =>
 bif Nat.beq xs.length 3 then
 (AV.asP (xs.getD 0 .u)).bind fun p0 =>
 (AV.asI .u64 (xs.getD 1 .u)).bind fun n1 =>
 (AV.asI .i64 (xs.getD 2 .u)).bind fun n2 =>
 let σ3 := σ.bump 1
 (k50 [(.p p0), (.i .u64 n1)] σ3).bind fun r4 =>
 (AV.asTup 2 r4.1).bind fun c5 =>
 (AV.asAgg 5 (c5.getD 0 .u)).bind fun c6 =>
 (AV.asI .i64 (c6.getD 0 .u)).bind fun n7 =>
 (AV.asI .i64 (c6.getD 1 .u)).bind fun n8 =>
 (AV.asI .i64 (c6.getD 2 .u)).bind fun n9 =>
 (AV.asI .i64 (c6.getD 3 .u)).bind fun n10 =>
 (AV.asB (c6.getD 4 .u)).bind fun b11 =>
 (AV.asI .i64 (c5.getD 1 .u)).bind fun n12 =>
 let σ13 := r4.2.put σ.next (.cells true 115 [(.i .i64 0), (.i .i64 0), (.i .i64 0), (.i .i64 0), (.b false)])
 (σ13.st (.n σ.next) 0 [(.i .i64 n7), (.i .i64 n8), (.i .i64 n9), (.i .i64 n10), (.b b11)]).bind fun σ14 =>
 (bif ((n12 : Int) != 0) then
 some ((.tup [(.i .u64 0), (.i .i64 n12)]), σ14)
 else (σ14.ld (.n σ.next) 0).bind fun w15 =>
 (AV.asI .i64 w15).bind fun n16 =>
 (σ14.ld (.n σ.next) 1).bind fun w17 =>
 (AV.asI .i64 w17).bind fun n18 =>
 (k118 [(.agg [(.i .i64 n16), (.i .i64 n18)]), (.i .i64 n2)] σ14).bind fun r19 =>
 (AV.asTup 2 r19.1).bind fun c20 =>
 (AV.asI .i64 (c20.getD 0 .u)).bind fun n21 =>
 (AV.asI .i64 (c20.getD 1 .u)).bind fun n22 =>
 (bif ((n22 : Int) != 0) then
 some ((.tup [(.i .u64 0), (.i .i64 n22)]), r19.2)
 else (k47 [(.p p0), (.i .u64 n1), (.i .i64 n21)] r19.2).bind fun r23 =>
 (AV.asTup 2 r23.1).bind fun c24 =>
 (AV.asI .u64 (c24.getD 0 .u)).bind fun n25 =>
 (AV.asI .i64 (c24.getD 1 .u)).bind fun n26 =>
 some ((.tup [(.i .u64 n25), (.i .i64 n26)]), r23.2)))
 else none
noncomputable def store_Store__Raw {O : Type} : Sm O := store_Store__Raw_c store_Store__Header shape_Cell store_Store__Word
theorem store_Store__Raw_ent : Entered Try.prog 53 := Try.call53
theorem store_Store__Raw_run {O : Type} (k50 k118 k47 : Sm O) : run (O := O) Try.prog [(50, k50), (118, k118), (47, k47)] Try.f53 (.n .z (.n .z (.n (.n .z (.n .z .z)) (.n .z (.n (.n .z (.n .z .z)) .z))))) = store_Store__Raw_c k50 k118 k47 := by kernel_rfl
theorem store_Store__Raw_sound {O : Type} {RO : O → Loc → (Nat → Option Obj) → Prop} : FSound RO Try.prog 53 (store_Store__Raw) :=
   have h : FSound RO Try.prog 53 (store_Store__Raw_c store_Store__Header shape_Cell store_Store__Word) := (store_Store__Raw_run store_Store__Header shape_Cell store_Store__Word) ▸ run_sound (gcons store_Store__Header_ent (store_Store__Header_sound) <| gcons shape_Cell_ent (shape_Cell_sound) <| gcons store_Store__Word_ent (store_Store__Word_sound) <| gnil) mixed Try.func53 (by kernel_rfl) _
   h

/-- (*haymow/store.Store).SetRaw -/
noncomputable def store_Store__SetRaw_c {O : Type} (k50 k118 k48 : Sm O) : Sm O := fun xs σ =>
 bif Nat.beq xs.length 4 then
 (AV.asP (xs.getD 0 .u)).bind fun p0 =>
 (AV.asI .u64 (xs.getD 1 .u)).bind fun n1 =>
 (AV.asI .i64 (xs.getD 2 .u)).bind fun n2 =>
 (AV.asI .u64 (xs.getD 3 .u)).bind fun n3 =>
 let σ4 := σ.bump 1
 (k50 [(.p p0), (.i .u64 n1)] σ4).bind fun r5 =>
 (AV.asTup 2 r5.1).bind fun c6 =>
 (AV.asAgg 5 (c6.getD 0 .u)).bind fun c7 =>
 (AV.asI .i64 (c7.getD 0 .u)).bind fun n8 =>
 (AV.asI .i64 (c7.getD 1 .u)).bind fun n9 =>
 (AV.asI .i64 (c7.getD 2 .u)).bind fun n10 =>
 (AV.asI .i64 (c7.getD 3 .u)).bind fun n11 =>
 (AV.asB (c7.getD 4 .u)).bind fun b12 =>
 (AV.asI .i64 (c6.getD 1 .u)).bind fun n13 =>
 let σ14 := r5.2.put σ.next (.cells true 115 [(.i .i64 0), (.i .i64 0), (.i .i64 0), (.i .i64 0), (.b false)])
 (σ14.st (.n σ.next) 0 [(.i .i64 n8), (.i .i64 n9), (.i .i64 n10), (.i .i64 n11), (.b b12)]).bind fun σ15 =>
 (bif ((n13 : Int) != 0) then
 some ((.i .i64 n13), σ15)
 else (σ15.ld (.n σ.next) 0).bind fun w16 =>
 (AV.asI .i64 w16).bind fun n17 =>
 (σ15.ld (.n σ.next) 1).bind fun w18 =>
 (AV.asI .i64 w18).bind fun n19 =>
 (k118 [(.agg [(.i .i64 n17), (.i .i64 n19)]), (.i .i64 n2)] σ15).bind fun r20 =>
 (AV.asTup 2 r20.1).bind fun c21 =>
 (AV.asI .i64 (c21.getD 0 .u)).bind fun n22 =>
 (AV.asI .i64 (c21.getD 1 .u)).bind fun n23 =>
 (bif ((n23 : Int) != 0) then
 some ((.i .i64 n23), r20.2)
 else (k48 [(.p p0), (.i .u64 n1), (.i .i64 n22), (.i .u64 n3)] r20.2).bind fun r24 =>
 (AV.asI .i64 r24.1).bind fun n25 =>
 some ((.i .i64 n25), r24.2)))
 else none
noncomputable def store_Store__SetRaw {O : Type} : Sm O := store_Store__SetRaw_c store_Store__Header shape_Cell store_Store__SetWord
theorem store_Store__SetRaw_ent : Entered Try.prog 54 := Try.call54
theorem store_Store__SetRaw_run {O : Type} (k50 k118 k48 : Sm O) : run (O := O) Try.prog [(50, k50), (118, k118), (48, k48)] Try.f54 (.n .z (.n .z (.n (.n .z (.n .z .z)) (.n .z (.n (.n .z (.n .z .z)) .z))))) = store_Store__SetRaw_c k50 k118 k48 := by kernel_rfl
theorem store_Store__SetRaw_sound {O : Type} {RO : O → Loc → (Nat → Option Obj) → Prop} : FSound RO Try.prog 54 (store_Store__SetRaw) :=
   have h : FSound RO Try.prog 54 (store_Store__SetRaw_c store_Store__Header shape_Cell store_Store__SetWord) := (store_Store__SetRaw_run store_Store__Header shape_Cell store_Store__SetWord) ▸ run_sound (gcons store_Store__Header_ent (store_Store__Header_sound) <| gcons shape_Cell_ent (shape_Cell_sound) <| gcons store_Store__SetWord_ent (store_Store__SetWord_sound) <| gnil) mixed Try.func54 (by kernel_rfl) _
   h

/-- haymow/haymowlaw16.StoreSteps -/
noncomputable def law16_StoreSteps_L1 {O : Type} (r46 : AV × AH O) : List AV × AH O → Option ((List AV × AH O) ⊕ ((List AV × AH O) ⊕ (AV × AH O))) := (fun r119 =>
 (AV.asI .i64 (r119.1.getD 0 .u)).bind fun n120 =>
 (bif (decide (n120 < 5)) then
 (bif ((decide ((0 : Int) ≤ (IntKind.i64.wrap (n120 + 1)))) && (decide ((IntKind.i64.wrap (n120 + 1)) < 6))) then
 (r119.2.ld (.n r46.2.next) ((0 + ((IntKind.i64.wrap (n120 + 1)).toNat * 2)) + 1)).bind fun w121 =>
 (AV.asI .u64 w121).bind fun n122 =>
 (bif ((decide ((0 : Int) ≤ n120)) && (decide (n120 < 6))) then
 (r119.2.ld (.n r46.2.next) ((0 + (n120.toNat * 2)) + 1)).bind fun w123 =>
 (AV.asI .u64 w123).bind fun n124 =>
 ((bif ((decide ((IntKind.u64.wrap (n122 - n124)) > 8)) == false) then
 (bif ((decide ((0 : Int) ≤ (IntKind.i64.wrap (n120 + 1)))) && (decide ((IntKind.i64.wrap (n120 + 1)) < 6))) then
 (r119.2.ld (.n r46.2.next) ((0 + ((IntKind.i64.wrap (n120 + 1)).toNat * 2)) + 1)).bind fun w125 =>
 (AV.asI .u64 w125).bind fun n126 =>
 (bif ((decide ((0 : Int) ≤ n120)) && (decide (n120 < 6))) then
 (r119.2.ld (.n r46.2.next) ((0 + (n120.toNat * 2)) + 1)).bind fun w127 =>
 (AV.asI .u64 w127).bind fun n128 =>
 some ([(.b ((n126 : Int) == n128))], r119.2)
 else none)
 else none)
 else some ([(.b true)], r119.2)) : Option (List AV × AH O)).bind fun r129 =>
 (AV.asB (r129.1.getD 0 .u)).bind fun b130 =>
 (bif b130 then
 ((some ((.b false), r129.2) : Option (AV × AH O)).map fun r => Sum.inr (Sum.inr r))
 else some (Sum.inl ([(.i .i64 (IntKind.i64.wrap (n120 + 1)))], r129.2)))
 else none)
 else none)
 else some (Sum.inr (Sum.inl ([], r119.2)))))
noncomputable def law16_StoreSteps_c {O : Type} (k44 k45 k49 k46 k12 k17 k50 k51 k52 k53 k54 : Sm O) : Sm O := fun xs σ =>
 bif Nat.beq xs.length 3 then
 (AV.asAgg 2 (xs.getD 0 .u)).bind fun c0 =>
 (AV.asI .i64 (c0.getD 0 .u)).bind fun n1 =>
 (AV.asI .i64 (c0.getD 1 .u)).bind fun n2 =>
 (AV.asI .i64 (xs.getD 1 .u)).bind fun n3 =>
 (AV.asI .i64 (xs.getD 2 .u)).bind fun n4 =>
 let σ5 := σ.bump 1
 let σ6 := σ5.put σ.next (.cells true 106 [(.i .i64 n1), (.i .i64 n2)])
 (k44 [] σ6).bind fun r7 =>
 (AV.asB r7.1).bind fun b8 =>
 (bif (!b8) then
 some ((.b false), r7.2)
 else (r7.2.ld (.n σ.next) 0).bind fun w9 =>
 (AV.asI .i64 w9).bind fun n10 =>
 ((bif ((decide (n10 > 300)) == true) then
 (r7.2.ld (.n σ.next) 0).bind fun w11 =>
 (AV.asI .i64 w11).bind fun n12 =>
 some ([(.b (decide (n12 < 4096)))], r7.2)
 else some ([(.b false)], r7.2)) : Option (List AV × AH O)).bind fun r13 =>
 (AV.asB (r13.1.getD 0 .u)).bind fun b14 =>
 ((bif (b14 == false) then
 (r13.2.ld (.n σ.next) 1).bind fun w15 =>
 (AV.asI .i64 w15).bind fun n16 =>
 ((bif ((decide (n16 > 300)) == true) then
 (r13.2.ld (.n σ.next) 1).bind fun w17 =>
 (AV.asI .i64 w17).bind fun n18 =>
 some ([(.b (decide (n18 < 4096)))], r13.2)
 else some ([(.b false)], r13.2)) : Option (List AV × AH O)).bind fun r19 =>
 (AV.asB (r19.1.getD 0 .u)).bind fun b20 =>
 some ([(.b b20)], r19.2)
 else some ([(.b true)], r13.2)) : Option (List AV × AH O)).bind fun r21 =>
 (AV.asB (r21.1.getD 0 .u)).bind fun b22 =>
 (bif b22 then
 some ((.b true), r21.2)
 else (k45 [(.i .i64 8), (.i .i64 20)] r21.2).bind fun r23 =>
 (AV.asTup 2 r23.1).bind fun c24 =>
 (AV.asP (c24.getD 0 .u)).bind fun p25 =>
 (AV.asI .i64 (c24.getD 1 .u)).bind fun n26 =>
 ((bif ((Option.isNone p25) == false) then
 some ([(.b ((n26 : Int) != 0))], r23.2)
 else some ([(.b true)], r23.2)) : Option (List AV × AH O)).bind fun r27 =>
 (AV.asB (r27.1.getD 0 .u)).bind fun b28 =>
 (bif b28 then
 some ((.b false), r27.2)
 else (k49 [(.p p25)] r27.2).bind fun r29 =>
 (AV.asP r29.1).bind fun p30 =>
 (r29.2.ld (.n σ.next) 0).bind fun w31 =>
 (AV.asI .i64 w31).bind fun n32 =>
 (r29.2.ld (.n σ.next) 1).bind fun w33 =>
 (AV.asI .i64 w33).bind fun n34 =>
 (k46 [(.p p25), (.agg [(.i .i64 n32), (.i .i64 n34)]), (.i .i64 n3)] r29.2).bind fun r35 =>
 (AV.asTup 2 r35.1).bind fun c36 =>
 (AV.asI .u64 (c36.getD 0 .u)).bind fun n37 =>
 (AV.asI .i64 (c36.getD 1 .u)).bind fun n38 =>
 Option.bind p30 fun q39 =>
 (r35.2.ld q39.1 q39.2).bind fun w40 =>
 (AV.asP w40).bind fun p41 =>
 (k12 [(.p p41)] r35.2).bind fun r42 =>
 (AV.asAgg 2 r42.1).bind fun c43 =>
 (AV.asI .u64 (c43.getD 0 .u)).bind fun n44 =>
 (AV.asI .u64 (c43.getD 1 .u)).bind fun n45 =>
 (k17 [(.agg [(.i .u64 n44), (.i .u64 n45)]), (.agg [(.i .u64 0), (.i .u64 30)])] r42.2).bind fun r46 =>
 (AV.asI .i64 r46.1).bind fun n47 =>
 (bif (decide (n47 > 0)) then
 some ((.b false), r46.2)
 else (bif ((n38 : Int) != 0) then
 some ((.b ((n37 : Int) == 0)), r46.2)
 else let σ48 := r46.2.bump 1
 let σ49 := σ48.put r46.2.next (.cells true 113 [(.i .u64 0), (.i .u64 0), (.i .u64 0), (.i .u64 0), (.i .u64 0), (.i .u64 0), (.i .u64 0), (.i .u64 0), (.i .u64 0), (.i .u64 0), (.i .u64 0), (.i .u64 0)])
 Option.bind p30 fun q50 =>
 (σ49.ld q50.1 q50.2).bind fun w51 =>
 (AV.asP w51).bind fun p52 =>
 (k12 [(.p p52)] σ49).bind fun r53 =>
 (AV.asAgg 2 r53.1).bind fun c54 =>
 (AV.asI .u64 (c54.getD 0 .u)).bind fun n55 =>
 (AV.asI .u64 (c54.getD 1 .u)).bind fun n56 =>
 (r53.2.st (.n r46.2.next) 0 [(.i .u64 n55), (.i .u64 n56)]).bind fun σ57 =>
 (k50 [(.p p25), (.i .u64 n37)] σ57).bind fun r58 =>
 (AV.asTup 2 r58.1).bind fun c59 =>
 (AV.asAgg 5 (c59.getD 0 .u)).bind fun c60 =>
 (AV.asI .i64 (c60.getD 0 .u)).bind fun n61 =>
 (AV.asI .i64 (c60.getD 1 .u)).bind fun n62 =>
 (AV.asI .i64 (c60.getD 2 .u)).bind fun n63 =>
 (AV.asI .i64 (c60.getD 3 .u)).bind fun n64 =>
 (AV.asB (c60.getD 4 .u)).bind fun b65 =>
 (AV.asI .i64 (c59.getD 1 .u)).bind fun n66 =>
 Option.bind p30 fun q67 =>
 (r58.2.ld q67.1 q67.2).bind fun w68 =>
 (AV.asP w68).bind fun p69 =>
 (k12 [(.p p69)] r58.2).bind fun r70 =>
 (AV.asAgg 2 r70.1).bind fun c71 =>
 (AV.asI .u64 (c71.getD 0 .u)).bind fun n72 =>
 (AV.asI .u64 (c71.getD 1 .u)).bind fun n73 =>
 (r70.2.st (.n r46.2.next) 2 [(.i .u64 n72), (.i .u64 n73)]).bind fun σ74 =>
 (k51 [(.p p25), (.i .u64 n37), (.i .i64 n4)] σ74).bind fun r75 =>
 (AV.asTup 2 r75.1).bind fun c76 =>
 (AV.asI .u64 (c76.getD 0 .u)).bind fun n77 =>
 (AV.asI .i64 (c76.getD 1 .u)).bind fun n78 =>
 Option.bind p30 fun q79 =>
 (r75.2.ld q79.1 q79.2).bind fun w80 =>
 (AV.asP w80).bind fun p81 =>
 (k12 [(.p p81)] r75.2).bind fun r82 =>
 (AV.asAgg 2 r82.1).bind fun c83 =>
 (AV.asI .u64 (c83.getD 0 .u)).bind fun n84 =>
 (AV.asI .u64 (c83.getD 1 .u)).bind fun n85 =>
 (r82.2.st (.n r46.2.next) 4 [(.i .u64 n84), (.i .u64 n85)]).bind fun σ86 =>
 (k52 [(.p p25), (.i .u64 n37), (.i .i64 n4), (.i .u64 n37)] σ86).bind fun r87 =>
 (AV.asI .i64 r87.1).bind fun n88 =>
 Option.bind p30 fun q89 =>
 (r87.2.ld q89.1 q89.2).bind fun w90 =>
 (AV.asP w90).bind fun p91 =>
 (k12 [(.p p91)] r87.2).bind fun r92 =>
 (AV.asAgg 2 r92.1).bind fun c93 =>
 (AV.asI .u64 (c93.getD 0 .u)).bind fun n94 =>
 (AV.asI .u64 (c93.getD 1 .u)).bind fun n95 =>
 (r92.2.st (.n r46.2.next) 6 [(.i .u64 n94), (.i .u64 n95)]).bind fun σ96 =>
 (k53 [(.p p25), (.i .u64 n37), (.i .i64 n4)] σ96).bind fun r97 =>
 (AV.asTup 2 r97.1).bind fun c98 =>
 (AV.asI .u64 (c98.getD 0 .u)).bind fun n99 =>
 (AV.asI .i64 (c98.getD 1 .u)).bind fun n100 =>
 Option.bind p30 fun q101 =>
 (r97.2.ld q101.1 q101.2).bind fun w102 =>
 (AV.asP w102).bind fun p103 =>
 (k12 [(.p p103)] r97.2).bind fun r104 =>
 (AV.asAgg 2 r104.1).bind fun c105 =>
 (AV.asI .u64 (c105.getD 0 .u)).bind fun n106 =>
 (AV.asI .u64 (c105.getD 1 .u)).bind fun n107 =>
 (r104.2.st (.n r46.2.next) 8 [(.i .u64 n106), (.i .u64 n107)]).bind fun σ108 =>
 (k54 [(.p p25), (.i .u64 n37), (.i .i64 n4), (.i .u64 5)] σ108).bind fun r109 =>
 (AV.asI .i64 r109.1).bind fun n110 =>
 Option.bind p30 fun q111 =>
 (r109.2.ld q111.1 q111.2).bind fun w112 =>
 (AV.asP w112).bind fun p113 =>
 (k12 [(.p p113)] r109.2).bind fun r114 =>
 (AV.asAgg 2 r114.1).bind fun c115 =>
 (AV.asI .u64 (c115.getD 0 .u)).bind fun n116 =>
 (AV.asI .u64 (c115.getD 1 .u)).bind fun n117 =>
 (r114.2.st (.n r46.2.next) 10 [(.i .u64 n116), (.i .u64 n117)]).bind fun σ118 =>
 bindS (S := List AV × AH O) (R := (AV × AH O)) (loopF (S := List AV × AH O) (T := (List AV × AH O) ⊕ (AV × AH O)) (law16_StoreSteps_L1 r46) ([(.i .i64 0)], σ118)) fun r131 =>
 some ((.b true), r131.2))))))
 else none
noncomputable def law16_StoreSteps {O : Type} : Sm O := law16_StoreSteps_c law16_awake store_New store_Store__Mem store_Store__Make meter_Meter__Steps haymowref01_Cmp store_Store__Header store_Store__Pointer store_Store__SetPointer store_Store__Raw store_Store__SetRaw
theorem law16_StoreSteps_ent : Entered Try.prog 8 := Try.call8
theorem law16_StoreSteps_run {O : Type} (k44 k45 k49 k46 k12 k17 k50 k51 k52 k53 k54 : Sm O) : run (O := O) Try.prog [(44, k44), (45, k45), (49, k49), (46, k46), (12, k12), (17, k17), (50, k50), (51, k51), (52, k52), (53, k53), (54, k54)] Try.f8 (.n .z (.n (.n .z (.n .z .z)) (.n (.n (.g [(3, 3, [(23, .one .b)]), (8, 8, [(33, .one .b)]), (12, 3, [(32, .one .b)])]) (.n .z .z)) (.n .z (.n (.n (.g [(2, 2, [(43, .one .b)])]) (.n .z .z)) (.n .z (.n .z (.n (.n .z (.n .z .z)) (.n (.n .z (.n .z .z)) (.n .z (.n .z (.n .z (.n .z (.n .z (.n .z (.n .z (.n .z (.n .z (.n .z (.n .z (.n .z (.n (.n .z (.n (.lp true 0 [(13, .one (.i .i64))] [] (.n (.n .z .z) (.n (.n (.n (.d [(11, 10, [(147, .one .b)])] [0, 1, 2, 3, 4, 5, 6, 7, 8, 9, 10, 11, 12, 13, 14, 15, 16, 17, 18, 19, 20, 21, 22] [0, 1, 3, 7, 15, 0, 32, 96, 224, 511, 1023, 2047, 4095, 8191, 16383, 32767, 65535, 4095, 135167, 397311, 921599, 2097151, 4194303]) (.n .z .z)) .z) .z))) .z)) .z)))))))))))))))))))))) = law16_StoreSteps_c k44 k45 k49 k46 k12 k17 k50 k51 k52 k53 k54 := by kernel_rfl
theorem law16_StoreSteps_sound {O : Type} {RO : O → Loc → (Nat → Option Obj) → Prop} : FSound RO Try.prog 8 (law16_StoreSteps) :=
   have h : FSound RO Try.prog 8 (law16_StoreSteps_c law16_awake store_New store_Store__Mem store_Store__Make meter_Meter__Steps haymowref01_Cmp store_Store__Header store_Store__Pointer store_Store__SetPointer store_Store__Raw store_Store__SetRaw) := (law16_StoreSteps_run law16_awake store_New store_Store__Mem store_Store__Make meter_Meter__Steps haymowref01_Cmp store_Store__Header store_Store__Pointer store_Store__SetPointer store_Store__Raw store_Store__SetRaw) ▸ run_sound (gcons law16_awake_ent (law16_awake_sound) <| gcons store_New_ent (store_New_sound) <| gcons store_Store__Mem_ent (store_Store__Mem_sound) <| gcons store_Store__Make_ent (store_Store__Make_sound) <| gcons meter_Meter__Steps_ent (meter_Meter__Steps_sound) <| gcons haymowref01_Cmp_ent (haymowref01_Cmp_sound) <| gcons store_Store__Header_ent (store_Store__Header_sound) <| gcons store_Store__Pointer_ent (store_Store__Pointer_sound) <| gcons store_Store__SetPointer_ent (store_Store__SetPointer_sound) <| gcons store_Store__Raw_ent (store_Store__Raw_sound) <| gcons store_Store__SetRaw_ent (store_Store__SetRaw_sound) <| gnil) mixed Try.func8 (by kernel_rfl) _
   h

end Go.Abs.Try
