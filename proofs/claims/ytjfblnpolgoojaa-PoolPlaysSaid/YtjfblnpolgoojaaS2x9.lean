/-
  What the functions of the program do, each as a function of Lean, and that it does so. No conditions.
-/
import Derived.Test.YtjfblnpolgoojaaAbsExtern
import Derived.Test.YtjfblnpolgoojaaProg
import Derived.KernelRfl
set_option linter.unusedVariables false
set_option linter.unusedSimpArgs false
set_option linter.constructorNameAsVariable false
set_option maxRecDepth 100000
namespace Go.Abs.Try
open Go Go.Abs Go.Proofs

theorem mixed : Try.prog.follows .mixedOrders = true := by kernel_rfl
abbrev T_int64 : Nat := 2
abbrev T_int : Nat := 3
abbrev T_bool : Nat := 4
abbrev T_uint8 : Nat := 5
abbrev T_abi_BoundsErrorCode : Nat := 6
abbrev T_runtime_boundsError : Nat := 8
abbrev T_string : Nat := 9
abbrev T_runtime_errorString : Nat := 10
abbrev T_runtime_plainError : Nat := 11
abbrev T_uintptr : Nat := 12
abbrev T_runtime_errorAddressString : Nat := 14
abbrev T_maps_unhashableTypeError : Nat := 19
abbrev T_int32 : Nat := 21
abbrev T_uint64 : Nat := 22
abbrev T_canon_Form : Nat := 39
abbrev T_api_Errno : Nat := 41
abbrev T_mem_Mem : Nat := 56
abbrev T_api_Wide : Nat := 59
abbrev T_law08_Op : Nat := 67
abbrev T_int8 : Nat := 80
abbrev T_haymowref07_State : Nat := 87
abbrev T_haymowref08_State : Nat := 89
abbrev T_ref_Ref : Nat := 102
abbrev T_law17_Op : Nat := 104
abbrev T_law10_Op : Nat := 116
abbrev T_haymowref10_State : Nat := 123
abbrev T_haymowref10_Entry : Nat := 130
abbrev T_chain_Table : Nat := 136
abbrev T_chain_Chain : Nat := 139
abbrev T_iter_Seq_int_ : Nat := 143
abbrev T_load_Dice : Nat := 148
abbrev T_uint : Nat := 149
abbrev T_load_maker : Nat := 154
abbrev T_record_Kind : Nat := 156
abbrev T_api_Shape : Nat := 160
abbrev T_api_Header : Nat := 162
abbrev T_canon_Node : Nat := 164
abbrev T_diff_Kind : Nat := 165
abbrev T_diff_Change : Nat := 167
abbrev T_mem_space : Nat := 178
abbrev T_meter_words : Nat := 180
abbrev T_meter_Meter : Nat := 182
abbrev T_meter_Kind : Nat := 188
abbrev T_semi_side : Nat := 193
abbrev T_semi_Semi : Nat := 195
abbrev T_haymowref08_Space : Nat := 210
abbrev T_frames_top : Nat := 213
abbrev T_frames_Frames : Nat := 215
abbrev T_pool_Pool : Nat := 219
abbrev T_haymowref01_Four : Nat := 230
abbrev T_runtime_TypeAssertionError : Nat := 251
abbrev T_runtime_PanicNilError : Nat := 254
abbrev T_uint32 : Nat := 255
abbrev T_abi_TFlag : Nat := 256
abbrev T_abi_Kind : Nat := 257
abbrev T_abi_NameOff : Nat := 260
abbrev T_abi_TypeOff : Nat := 261
abbrev T_abi_Type : Nat := 263
theorem bits_Add64_ext {O : Type} : ExternOK Try.prog 154 (bits_Add64 (O := O)) := add64_ext Try.func154 (by kernel_rfl) (by kernel_rfl) (by kernel_rfl) rfl

/-- haymow/meter.New -/
noncomputable def meter_New_c {O : Type} : Sm O := fun xs σ =>
 bif Nat.beq xs.length 0 then
 let σ0 := σ.bump 1
 let σ1 := σ0.put σ.next (.cells true 182 [(.i .u64 0), (.i .u64 0), (.i .u64 0), (.i .u64 0), (.i .i64 0), (.i .i64 0)])
 some ((.p (some ((.n σ.next), 0))), σ1)
 else none
noncomputable def meter_New {O : Type} : Sm O := meter_New_c
theorem meter_New_ent : Entered Try.prog 106 := Try.call106
theorem meter_New_run {O : Type} : run (O := O) Try.prog [] Try.f106 (.n .z .z) = meter_New_c  := by kernel_rfl
theorem meter_New_sound {O : Type} {RO : O → Loc → (Nat → Option Obj) → Prop} : FSound RO Try.prog 106 (meter_New) :=
   have h : FSound RO Try.prog 106 (meter_New_c) := (meter_New_run) ▸ run_sound (gnil) mixed Try.func106 (by kernel_rfl) _
   h

/-- haymow/mem.New -/
noncomputable def mem_New_c {O : Type} (k106 : Sm O) : Sm O := fun xs σ =>
 bif Nat.beq xs.length 0 then
 let σ0 := σ.bump 1
 (k106 [] σ0).bind fun r1 =>
 (AV.asP r1.1).bind fun p2 =>
 let σ3 := r1.2.put σ.next (.cells true 56 [(.p p2), (.sl .nil 0), (.i .i64 0), (.i .i64 0)])
 some ((.p (some ((.n σ.next), 0))), σ3)
 else none
noncomputable def mem_New {O : Type} : Sm O := mem_New_c meter_New
theorem mem_New_ent : Entered Try.prog 35 := Try.call35
theorem mem_New_run {O : Type} (k106 : Sm O) : run (O := O) Try.prog [(106, k106)] Try.f35 (.n .z .z) = mem_New_c k106 := by kernel_rfl
theorem mem_New_sound {O : Type} {RO : O → Loc → (Nat → Option Obj) → Prop} : FSound RO Try.prog 35 (mem_New) :=
   have h : FSound RO Try.prog 35 (mem_New_c meter_New) := (mem_New_run meter_New) ▸ run_sound (gcons meter_New_ent (meter_New_sound) <| gnil) mixed Try.func35 (by kernel_rfl) _
   h

/-- (*haymow/meter.words).open -/
noncomputable def meter_words__open_c {O : Type} : Sm O := fun xs σ =>
 bif Nat.beq xs.length 2 then
 (AV.asP (xs.getD 0 .u)).bind fun p0 =>
 (AV.asI .i64 (xs.getD 1 .u)).bind fun n1 =>
 Option.bind p0 fun q2 =>
 (σ.ld q2.1 q2.2).bind fun w3 =>
 (AV.asI .i64 w3).bind fun n4 =>
 Option.bind p0 fun q5 =>
 (σ.st q5.1 q5.2 [(.i .i64 (IntKind.i64.wrap (n4 + n1)))]).bind fun σ6 =>
 Option.bind p0 fun q7 =>
 (σ6.ld q7.1 (q7.2 + 1)).bind fun w8 =>
 (AV.asI .i64 w8).bind fun n9 =>
 Option.bind p0 fun q10 =>
 (σ6.ld q10.1 q10.2).bind fun w11 =>
 (AV.asI .i64 w11).bind fun n12 =>
 Option.bind p0 fun q13 =>
 (σ6.st q13.1 (q13.2 + 1) [(.i .i64 (if n12 > n9 then n12 else n9))]).bind fun σ14 =>
 some ((.tup []), σ14)
 else none
noncomputable def meter_words__open {O : Type} : Sm O := meter_words__open_c
theorem meter_words__open_ent : Entered Try.prog 153 := Try.call153
theorem meter_words__open_run {O : Type} : run (O := O) Try.prog [] Try.f153 (.n .z (.d [] [0, 1, 2, 3, 4, 5, 6, 7, 8, 9, 10, 11, 12] [0, 0, 2, 6, 14, 0, 32, 96, 224, 510, 1023, 2047, 4095])) = meter_words__open_c  := by kernel_rfl
theorem meter_words__open_sound {O : Type} {RO : O → Loc → (Nat → Option Obj) → Prop} : FSound RO Try.prog 153 (meter_words__open) :=
   have h : FSound RO Try.prog 153 (meter_words__open_c) := (meter_words__open_run) ▸ run_sound (gnil) mixed Try.func153 (by kernel_rfl) _
   h

/-- (*haymow/meter.Meter).Hold -/
noncomputable def meter_Meter__Hold_c {O : Type} (k153 : Sm O) : Sm O := fun xs σ =>
 bif Nat.beq xs.length 2 then
 (AV.asP (xs.getD 0 .u)).bind fun p0 =>
 (AV.asI .i64 (xs.getD 1 .u)).bind fun n1 =>
 ((bif ((Option.isNone p0) == false) then
 some ([(.b (decide (n1 < 0)))], σ)
 else some ([(.b true)], σ)) : Option (List AV × AH O)).bind fun r2 =>
 (AV.asB (r2.1.getD 0 .u)).bind fun b3 =>
 (bif b3 then
 some ((.i .i64 1), r2.2)
 else Option.bind p0 fun q4 =>
 (r2.2.ld q4.1 (q4.2 + 4)).bind fun w5 =>
 (AV.asI .i64 w5).bind fun n6 =>
 let c7 : Bool := (decide (n1 > (IntKind.i64.wrap (281474976710656 - n6))))
 (bif c7 then
 some ((.i .i64 3), r2.2)
 else Option.bind p0 fun q8 =>
 (k153 [(.p (some (q8.1, (q8.2 + 4)))), (.i .i64 n1)] r2.2).bind fun r9 =>
 (AV.asTup 0 r9.1).bind fun c10 =>
 some ((.i .i64 0), r9.2)))
 else none
noncomputable def meter_Meter__Hold {O : Type} : Sm O := meter_Meter__Hold_c meter_words__open
theorem meter_Meter__Hold_ent : Entered Try.prog 107 := Try.call107
theorem meter_Meter__Hold_run {O : Type} (k153 : Sm O) : run (O := O) Try.prog [(153, k153)] Try.f107 (.n .z (.n (.n (.n (.g [(2, 2, [(11, .one .b)])]) (.n .z (.n .z (.n .z .z)))) .z) (.n .z .z))) = meter_Meter__Hold_c k153 := by kernel_rfl
theorem meter_Meter__Hold_sound {O : Type} {RO : O → Loc → (Nat → Option Obj) → Prop} : FSound RO Try.prog 107 (meter_Meter__Hold) :=
   have h : FSound RO Try.prog 107 (meter_Meter__Hold_c meter_words__open) := (meter_Meter__Hold_run meter_words__open) ▸ run_sound (gcons meter_words__open_ent (meter_words__open_sound) <| gnil) mixed Try.func107 (by kernel_rfl) _
   h

/-- (*haymow/mem.Mem).Open -/
noncomputable def mem_Mem__Open_L1 {O : Type} (p0 : Option (Bid × Nat)) : List AV × AH O → Option ((List AV × AH O) ⊕ (List AV × AH O)) := (fun r8 =>
 (AV.asI .i64 (r8.1.getD 0 .u)).bind fun n9 =>
 Option.bind p0 fun q10 =>
 (r8.2.ld q10.1 (q10.2 + 1)).bind fun w11 =>
 (AV.asSl w11).bind fun l12 =>
 ((bif ((decide (n9 < (l12.2 : Int))) == true) then
 Option.bind p0 fun q13 =>
 (r8.2.ld q13.1 (q13.2 + 1)).bind fun w14 =>
 (AV.asSl w14).bind fun l15 =>
 (bif ((decide ((0 : Int) ≤ n9)) && (decide (n9 < (l15.2 : Int)))) then
 (SA.ref l15.1).bind fun q16 =>
 (r8.2.ld q16.1 ((q16.2 + (n9.toNat * 2)) + 1)).bind fun w17 =>
 (AV.asB w17).bind fun b18 =>
 some ([(.b b18)], r8.2)
 else none)
 else some ([(.b false)], r8.2)) : Option (List AV × AH O)).bind fun r19 =>
 (AV.asB (r19.1.getD 0 .u)).bind fun b20 =>
 (bif b20 then
 some (Sum.inl ([(.i .i64 (IntKind.i64.wrap (n9 + 1)))], r19.2))
 else some (Sum.inr ([(.i .i64 n9)], r19.2))))
noncomputable def mem_Mem__Open_c {O : Type} (k107 : Sm O) : Sm O := fun xs σ =>
 bif Nat.beq xs.length 2 then
 (AV.asP (xs.getD 0 .u)).bind fun p0 =>
 (AV.asI .i64 (xs.getD 1 .u)).bind fun n1 =>
 (bif (decide (n1 < 0)) then
 some ((.tup [(.i .i64 0), (.i .i64 1)]), σ)
 else (bif (decide (n1 > 4194304)) then
 some ((.tup [(.i .i64 0), (.i .i64 7)]), σ)
 else Option.bind p0 fun q2 =>
 (σ.ld q2.1 (q2.2 + 3)).bind fun w3 =>
 (AV.asI .i64 w3).bind fun n4 =>
 (bif (decide (n4 ≥ 262144)) then
 some ((.tup [(.i .i64 0), (.i .i64 3)]), σ)
 else Option.bind p0 fun q5 =>
 (σ.ld q5.1 (q5.2 + 2)).bind fun w6 =>
 (AV.asI .i64 w6).bind fun n7 =>
 (loopF (S := List AV × AH O) (T := List AV × AH O) (mem_Mem__Open_L1 p0) ([(.i .i64 n7)], σ)).bind fun r21 =>
 (AV.asI .i64 (r21.1.getD 0 .u)).bind fun n22 =>
 Option.bind p0 fun q23 =>
 (r21.2.ld q23.1 (q23.2 + 1)).bind fun w24 =>
 (AV.asSl w24).bind fun l25 =>
 ((bif ((n22 : Int) == (l25.2 : Int)) then
 let σ26 := r21.2.bump 2
 Option.bind p0 fun q27 =>
 (σ26.ld q27.1 (q27.2 + 1)).bind fun w28 =>
 (AV.asSl w28).bind fun l29 =>
 let σ30 := σ26.put r21.2.next (.cells true 178 [(.sl .nil 0), (.b false)])
 (σ30.rdSl (.loc (.n r21.2.next) 0 2) 1 2).bind fun new31 =>
 (bif (Nat.ble ((l29.2 + 1) * 33) 35184372088832) then
 (σ30.appSl (r21.2.next + 1) 178 2 l29.1 l29.2 1 new31).bind fun r32 =>
 (AV.asSl r32.1).bind fun l33 =>
 Option.bind p0 fun q34 =>
 (r32.2.st q34.1 (q34.2 + 1) [(.sl l33.1 l33.2)]).bind fun σ35 =>
 some ([], σ35)
 else none)
 else some ([], r21.2)) : Option (List AV × AH O)).bind fun r36 =>
 let σ37 := r36.2.bump 1
 Option.bind p0 fun q38 =>
 (σ37.ld q38.1 (q38.2 + 1)).bind fun w39 =>
 (AV.asSl w39).bind fun l40 =>
 (bif ((((decide ((0 : Int) ≤ n1)) && (decide (n1 ≤ n1))) && (decide ((n1 * 8) ≤ 140737488355328))) && (decide (n1 ≤ 140737488355328))) then
 let σ41 := σ37.put r36.2.next (.cells true 22 ((List.replicate n1.toNat [(.i .u64 0)]).flatten))
 (bif ((decide ((0 : Int) ≤ n22)) && (decide (n22 < (l40.2 : Int)))) then
 (SA.ref l40.1).bind fun q42 =>
 (σ41.st q42.1 (q42.2 + (n22.toNat * 2)) [(.sl (.loc (.n r36.2.next) 0 1) n1.toNat), (.b true)]).bind fun σ43 =>
 Option.bind p0 fun q44 =>
 (σ43.ld q44.1 (q44.2 + 3)).bind fun w45 =>
 (AV.asI .i64 w45).bind fun n46 =>
 Option.bind p0 fun q47 =>
 (σ43.st q47.1 (q47.2 + 2) [(.i .i64 (IntKind.i64.wrap (n22 + 1)))]).bind fun σ48 =>
 Option.bind p0 fun q49 =>
 (σ48.st q49.1 (q49.2 + 3) [(.i .i64 (IntKind.i64.wrap (n46 + 1)))]).bind fun σ50 =>
 Option.bind p0 fun q51 =>
 (σ50.ld q51.1 q51.2).bind fun w52 =>
 (AV.asP w52).bind fun p53 =>
 (k107 [(.p p53), (.i .i64 n1)] σ50).bind fun r54 =>
 (AV.asI .i64 r54.1).bind fun n55 =>
 some ((.tup [(.i .i64 n22), (.i .i64 0)]), r54.2)
 else none)
 else none))))
 else none
noncomputable def mem_Mem__Open {O : Type} : Sm O := mem_Mem__Open_c meter_Meter__Hold
theorem mem_Mem__Open_ent : Entered Try.prog 36 := Try.call36
theorem mem_Mem__Open_run {O : Type} (k107 : Sm O) : run (O := O) Try.prog [(107, k107)] Try.f36 (.n .z (.n (.n (.n .z (.n .z (.n .z (.n .z (.n .z (.n .z .z)))))) .z) (.n .z (.n (.n (.lp false 1 [(6, .one (.i .i64))] [(6, .one (.i .i64))] (.n (.n (.g [(7, 8, [(39, .one .b)])]) .z) .z)) .z) (.n (.n .z (.j false [] .z .z)) (.n (.d [] [0, 1, 2, 3, 4, 5, 6, 7, 8, 9] [0, 1, 3, 7, 0, 0, 32, 96, 255, 511]) (.n .z (.n .z .z)))))))) = mem_Mem__Open_c k107 := by kernel_rfl
theorem mem_Mem__Open_sound {O : Type} {RO : O → Loc → (Nat → Option Obj) → Prop} : FSound RO Try.prog 36 (mem_Mem__Open) :=
   have h : FSound RO Try.prog 36 (mem_Mem__Open_c meter_Meter__Hold) := (mem_Mem__Open_run meter_Meter__Hold) ▸ run_sound (gcons meter_Meter__Hold_ent (meter_Meter__Hold_sound) <| gnil) mixed Try.func36 (by kernel_rfl) _
   h

/-- (*haymow/mem.Mem).at -/
noncomputable def mem_Mem__at_c {O : Type} : Sm O := fun xs σ =>
 bif Nat.beq xs.length 2 then
 (AV.asP (xs.getD 0 .u)).bind fun p0 =>
 (AV.asI .i64 (xs.getD 1 .u)).bind fun n1 =>
 ((bif ((decide (n1 < 0)) == false) then
 Option.bind p0 fun q2 =>
 (σ.ld q2.1 (q2.2 + 1)).bind fun w3 =>
 (AV.asSl w3).bind fun l4 =>
 some ([(.b (decide (n1 ≥ (l4.2 : Int))))], σ)
 else some ([(.b true)], σ)) : Option (List AV × AH O)).bind fun r5 =>
 (AV.asB (r5.1.getD 0 .u)).bind fun b6 =>
 ((bif (b6 == false) then
 Option.bind p0 fun q7 =>
 (r5.2.ld q7.1 (q7.2 + 1)).bind fun w8 =>
 (AV.asSl w8).bind fun l9 =>
 (bif ((decide ((0 : Int) ≤ n1)) && (decide (n1 < (l9.2 : Int)))) then
 (SA.ref l9.1).bind fun q10 =>
 (r5.2.ld q10.1 ((q10.2 + (n1.toNat * 2)) + 1)).bind fun w11 =>
 (AV.asB w11).bind fun b12 =>
 some ([(.b (!b12))], r5.2)
 else none)
 else some ([(.b true)], r5.2)) : Option (List AV × AH O)).bind fun r13 =>
 (AV.asB (r13.1.getD 0 .u)).bind fun b14 =>
 (bif b14 then
 some ((.p none), r13.2)
 else Option.bind p0 fun q15 =>
 (r13.2.ld q15.1 (q15.2 + 1)).bind fun w16 =>
 (AV.asSl w16).bind fun l17 =>
 (bif ((decide ((0 : Int) ≤ n1)) && (decide (n1 < (l17.2 : Int)))) then
 (SA.ref l17.1).bind fun q18 =>
 some ((.p (some (q18.1, (q18.2 + (n1.toNat * 2))))), r13.2)
 else none))
 else none
noncomputable def mem_Mem__at {O : Type} : Sm O := mem_Mem__at_c
theorem mem_Mem__at_ent : Entered Try.prog 108 := Try.call108
theorem mem_Mem__at_run {O : Type} : run (O := O) Try.prog [] Try.f108 (.n .z (.n (.n (.g [(2, 7, [(15, .one .b)]), (11, 9, [(26, .one .b)])]) (.n .z .z)) .z)) = mem_Mem__at_c  := by kernel_rfl
theorem mem_Mem__at_sound {O : Type} {RO : O → Loc → (Nat → Option Obj) → Prop} : FSound RO Try.prog 108 (mem_Mem__at) :=
   have h : FSound RO Try.prog 108 (mem_Mem__at_c) := (mem_Mem__at_run) ▸ run_sound (gnil) mixed Try.func108 (by kernel_rfl) _
   h

/-- (*haymow/mem.Mem).within -/
noncomputable def mem_Mem__within_c {O : Type} (k108 : Sm O) : Sm O := fun xs σ =>
 bif Nat.beq xs.length 4 then
 (AV.asP (xs.getD 0 .u)).bind fun p0 =>
 (AV.asI .i64 (xs.getD 1 .u)).bind fun n1 =>
 (AV.asI .i64 (xs.getD 2 .u)).bind fun n2 =>
 (AV.asI .i64 (xs.getD 3 .u)).bind fun n3 =>
 (k108 [(.p p0), (.i .i64 n1)] σ).bind fun r4 =>
 (AV.asP r4.1).bind fun p5 =>
 (bif (Option.isNone p5) then
 some ((.tup [(.sl .nil 0), (.i .i64 10)]), r4.2)
 else ((bif ((decide (n3 < 0)) == false) then
 some ([(.b (decide (n2 < 0)))], r4.2)
 else some ([(.b true)], r4.2)) : Option (List AV × AH O)).bind fun r6 =>
 (AV.asB (r6.1.getD 0 .u)).bind fun b7 =>
 ((bif (b7 == false) then
 Option.bind p5 fun q8 =>
 (r6.2.ld q8.1 q8.2).bind fun w9 =>
 (AV.asSl w9).bind fun l10 =>
 some ([(.b (decide (n2 > (l10.2 : Int))))], r6.2)
 else some ([(.b true)], r6.2)) : Option (List AV × AH O)).bind fun r11 =>
 (AV.asB (r11.1.getD 0 .u)).bind fun b12 =>
 ((bif (b12 == false) then
 Option.bind p5 fun q13 =>
 (r11.2.ld q13.1 q13.2).bind fun w14 =>
 (AV.asSl w14).bind fun l15 =>
 let c16 : Bool := (decide (n3 > (IntKind.i64.wrap ((l15.2 : Int) - n2))))
 some ([(.b c16)], r11.2)
 else some ([(.b true)], r11.2)) : Option (List AV × AH O)).bind fun r17 =>
 (AV.asB (r17.1.getD 0 .u)).bind fun b18 =>
 (bif b18 then
 some ((.tup [(.sl .nil 0), (.i .i64 11)]), r17.2)
 else Option.bind p5 fun q19 =>
 (r17.2.ld q19.1 q19.2).bind fun w20 =>
 (AV.asSl w20).bind fun l21 =>
 (bif (((decide ((0 : Int) ≤ n2)) && (decide (n2 ≤ (IntKind.i64.wrap (n2 + n3))))) && (decide ((IntKind.i64.wrap (n2 + n3)) ≤ (l21.2 : Int)))) then
 (SA.adv l21.1 n2.toNat 1).bind fun a22 =>
 some ((.tup [(.sl a22 ((IntKind.i64.wrap (n2 + n3)).toNat - n2.toNat)), (.i .i64 0)]), r17.2)
 else none)))
 else none
noncomputable def mem_Mem__within {O : Type} : Sm O := mem_Mem__within_c mem_Mem__at
theorem mem_Mem__within_ent : Entered Try.prog 112 := Try.call112
theorem mem_Mem__within_run {O : Type} (k108 : Sm O) : run (O := O) Try.prog [(108, k108)] Try.f112 (.n .z (.n .z (.n (.n (.n .z (.n .z (.n (.g [(2, 2, [(23, .one .b)]), (6, 7, [(32, .one .b)]), (15, 9, [(43, .one .b)])]) (.n .z .z)))) .z) .z))) = mem_Mem__within_c k108 := by kernel_rfl
theorem mem_Mem__within_sound {O : Type} {RO : O → Loc → (Nat → Option Obj) → Prop} : FSound RO Try.prog 112 (mem_Mem__within) :=
   have h : FSound RO Try.prog 112 (mem_Mem__within_c mem_Mem__at) := (mem_Mem__within_run mem_Mem__at) ▸ run_sound (gcons mem_Mem__at_ent (mem_Mem__at_sound) <| gnil) mixed Try.func112 (by kernel_rfl) _
   h

/-- haymow/wide.Of -/
noncomputable def wide_Of_c {O : Type} : Sm O := fun xs σ =>
 bif Nat.beq xs.length 1 then
 (AV.asI .u64 (xs.getD 0 .u)).bind fun n0 =>
 let σ1 := σ.bump 1
 let σ2 := σ1.put σ.next (.cells true 59 [(.i .u64 0), (.i .u64 0)])
 (σ2.st (.n σ.next) 0 [(.i .u64 0), (.i .u64 n0)]).bind fun σ3 =>
 (σ3.ld (.n σ.next) 0).bind fun w4 =>
 (AV.asI .u64 w4).bind fun n5 =>
 (σ3.ld (.n σ.next) 1).bind fun w6 =>
 (AV.asI .u64 w6).bind fun n7 =>
 some ((.agg [(.i .u64 n5), (.i .u64 n7)]), σ3)
 else none
noncomputable def wide_Of {O : Type} : Sm O := wide_Of_c
theorem wide_Of_ent : Entered Try.prog 156 := Try.call156
theorem wide_Of_run {O : Type} : run (O := O) Try.prog [] Try.f156 (.n .z .z) = wide_Of_c  := by kernel_rfl
theorem wide_Of_sound {O : Type} {RO : O → Loc → (Nat → Option Obj) → Prop} : FSound RO Try.prog 156 (wide_Of) :=
   have h : FSound RO Try.prog 156 (wide_Of_c) := (wide_Of_run) ▸ run_sound (gnil) mixed Try.func156 (by kernel_rfl) _
   h

/-- haymow/wide.Most -/
noncomputable def wide_Most_c {O : Type} : Sm O := fun xs σ =>
 bif Nat.beq xs.length 0 then
 let σ0 := σ.bump 1
 let σ1 := σ0.put σ.next (.cells true 59 [(.i .u64 0), (.i .u64 0)])
 (σ1.st (.n σ.next) 0 [(.i .u64 18446744073709551615), (.i .u64 18446744073709551615)]).bind fun σ2 =>
 (σ2.ld (.n σ.next) 0).bind fun w3 =>
 (AV.asI .u64 w3).bind fun n4 =>
 (σ2.ld (.n σ.next) 1).bind fun w5 =>
 (AV.asI .u64 w5).bind fun n6 =>
 some ((.agg [(.i .u64 n4), (.i .u64 n6)]), σ2)
 else none
noncomputable def wide_Most {O : Type} : Sm O := wide_Most_c
theorem wide_Most_ent : Entered Try.prog 155 := Try.call155
theorem wide_Most_run {O : Type} : run (O := O) Try.prog [] Try.f155 (.n .z .z) = wide_Most_c  := by kernel_rfl
theorem wide_Most_sound {O : Type} {RO : O → Loc → (Nat → Option Obj) → Prop} : FSound RO Try.prog 155 (wide_Most) :=
   have h : FSound RO Try.prog 155 (wide_Most_c) := (wide_Most_run) ▸ run_sound (gnil) mixed Try.func155 (by kernel_rfl) _
   h

/-- haymow/wide.Add -/
noncomputable def wide_Add_c {O : Type} (k154 k155 : Sm O) : Sm O := fun xs σ =>
 bif Nat.beq xs.length 2 then
 (AV.asAgg 2 (xs.getD 0 .u)).bind fun c0 =>
 (AV.asI .u64 (c0.getD 0 .u)).bind fun n1 =>
 (AV.asI .u64 (c0.getD 1 .u)).bind fun n2 =>
 (AV.asAgg 2 (xs.getD 1 .u)).bind fun c3 =>
 (AV.asI .u64 (c3.getD 0 .u)).bind fun n4 =>
 (AV.asI .u64 (c3.getD 1 .u)).bind fun n5 =>
 let σ6 := σ.bump 3
 let σ7 := σ6.put σ.next (.cells true 59 [(.i .u64 n1), (.i .u64 n2)])
 let σ8 := σ7.put (σ.next + 1) (.cells true 59 [(.i .u64 n4), (.i .u64 n5)])
 let σ9 := σ8.put ((σ.next + 1) + 1) (.cells true 59 [(.i .u64 0), (.i .u64 0)])
 (σ9.ld (.n σ.next) 1).bind fun w10 =>
 (AV.asI .u64 w10).bind fun n11 =>
 (σ9.ld (.n (σ.next + 1)) 1).bind fun w12 =>
 (AV.asI .u64 w12).bind fun n13 =>
 (k154 [(.i .u64 n11), (.i .u64 n13), (.i .u64 0)] σ9).bind fun r14 =>
 (AV.asTup 2 r14.1).bind fun c15 =>
 (AV.asI .u64 (c15.getD 0 .u)).bind fun n16 =>
 (AV.asI .u64 (c15.getD 1 .u)).bind fun n17 =>
 (r14.2.ld (.n σ.next) 0).bind fun w18 =>
 (AV.asI .u64 w18).bind fun n19 =>
 (r14.2.ld (.n (σ.next + 1)) 0).bind fun w20 =>
 (AV.asI .u64 w20).bind fun n21 =>
 (k154 [(.i .u64 n19), (.i .u64 n21), (.i .u64 n17)] r14.2).bind fun r22 =>
 (AV.asTup 2 r22.1).bind fun c23 =>
 (AV.asI .u64 (c23.getD 0 .u)).bind fun n24 =>
 (AV.asI .u64 (c23.getD 1 .u)).bind fun n25 =>
 (bif ((n25 : Int) != 0) then
 (k155 [] r22.2).bind fun r26 =>
 (AV.asAgg 2 r26.1).bind fun c27 =>
 (AV.asI .u64 (c27.getD 0 .u)).bind fun n28 =>
 (AV.asI .u64 (c27.getD 1 .u)).bind fun n29 =>
 (r26.2.st (.n ((σ.next + 1) + 1)) 0 [(.i .u64 n28), (.i .u64 n29)]).bind fun σ30 =>
 (σ30.ld (.n ((σ.next + 1) + 1)) 0).bind fun w31 =>
 (AV.asI .u64 w31).bind fun n32 =>
 (σ30.ld (.n ((σ.next + 1) + 1)) 1).bind fun w33 =>
 (AV.asI .u64 w33).bind fun n34 =>
 some ((.tup [(.agg [(.i .u64 n32), (.i .u64 n34)]), (.b false)]), σ30)
 else (r22.2.st (.n ((σ.next + 1) + 1)) 0 [(.i .u64 n24), (.i .u64 n16)]).bind fun σ35 =>
 (σ35.ld (.n ((σ.next + 1) + 1)) 0).bind fun w36 =>
 (AV.asI .u64 w36).bind fun n37 =>
 (σ35.ld (.n ((σ.next + 1) + 1)) 1).bind fun w38 =>
 (AV.asI .u64 w38).bind fun n39 =>
 some ((.tup [(.agg [(.i .u64 n37), (.i .u64 n39)]), (.b true)]), σ35))
 else none
noncomputable def wide_Add {O : Type} : Sm O := wide_Add_c bits_Add64 wide_Most
theorem wide_Add_ent : Entered Try.prog 110 := Try.call110
theorem wide_Add_run {O : Type} (k154 k155 : Sm O) : run (O := O) Try.prog [(154, k154), (155, k155)] Try.f110 (.n .z (.n .z (.n .z (.n (.n .z (.n .z .z)) .z)))) = wide_Add_c k154 k155 := by kernel_rfl
theorem wide_Add_sound {O : Type} {RO : O → Loc → (Nat → Option Obj) → Prop} : FSound RO Try.prog 110 (wide_Add) :=
   have h : FSound RO Try.prog 110 (wide_Add_c bits_Add64 wide_Most) := (wide_Add_run bits_Add64 wide_Most) ▸ run_sound (gext bits_Add64_ext <| gcons wide_Most_ent (wide_Most_sound) <| gnil) mixed Try.func110 (by kernel_rfl) _
   h

/-- (*haymow/meter.Meter).Step -/
noncomputable def meter_Meter__Step_c {O : Type} (k156 k110 : Sm O) : Sm O := fun xs σ =>
 bif Nat.beq xs.length 3 then
 (AV.asP (xs.getD 0 .u)).bind fun p0 =>
 (AV.asI .i64 (xs.getD 1 .u)).bind fun n1 =>
 (AV.asI .i64 (xs.getD 2 .u)).bind fun n2 =>
 ((bif ((Option.isNone p0) == false) then
 some ([(.b (decide (n1 < 0)))], σ)
 else some ([(.b true)], σ)) : Option (List AV × AH O)).bind fun r3 =>
 (AV.asB (r3.1.getD 0 .u)).bind fun b4 =>
 ((bif (b4 == false) then
 some ([(.b (decide (n1 ≥ 2)))], r3.2)
 else some ([(.b true)], r3.2)) : Option (List AV × AH O)).bind fun r5 =>
 (AV.asB (r5.1.getD 0 .u)).bind fun b6 =>
 ((bif (b6 == false) then
 some ([(.b (decide (n2 < 1)))], r5.2)
 else some ([(.b true)], r5.2)) : Option (List AV × AH O)).bind fun r7 =>
 (AV.asB (r7.1.getD 0 .u)).bind fun b8 =>
 (bif b8 then
 some ((.tup []), r7.2)
 else Option.bind p0 fun q9 =>
 (bif ((decide ((0 : Int) ≤ n1)) && (decide (n1 < 2))) then
 (r7.2.ld q9.1 (q9.2 + (n1.toNat * 2))).bind fun w10 =>
 (AV.asI .u64 w10).bind fun n11 =>
 (r7.2.ld q9.1 ((q9.2 + (n1.toNat * 2)) + 1)).bind fun w12 =>
 (AV.asI .u64 w12).bind fun n13 =>
 Option.bind p0 fun q14 =>
 (k156 [(.i .u64 (IntKind.u64.wrap n2))] r7.2).bind fun r15 =>
 (AV.asAgg 2 r15.1).bind fun c16 =>
 (AV.asI .u64 (c16.getD 0 .u)).bind fun n17 =>
 (AV.asI .u64 (c16.getD 1 .u)).bind fun n18 =>
 (chk (r15.2.ld q9.1 (q9.2 + (n1.toNat * 2)) = some (.i .u64 n11))).bind fun _ =>
 (chk (r15.2.ld q9.1 ((q9.2 + (n1.toNat * 2)) + 1) = some (.i .u64 n13))).bind fun _ =>
 (k110 [(.agg [(.i .u64 n11), (.i .u64 n13)]), (.agg [(.i .u64 n17), (.i .u64 n18)])] r15.2).bind fun r19 =>
 (AV.asTup 2 r19.1).bind fun c20 =>
 (AV.asAgg 2 (c20.getD 0 .u)).bind fun c21 =>
 (AV.asI .u64 (c21.getD 0 .u)).bind fun n22 =>
 (AV.asI .u64 (c21.getD 1 .u)).bind fun n23 =>
 (AV.asB (c20.getD 1 .u)).bind fun b24 =>
 (bif ((decide ((0 : Int) ≤ n1)) && (decide (n1 < 2))) then
 (r19.2.st q14.1 (q14.2 + (n1.toNat * 2)) [(.i .u64 n22), (.i .u64 n23)]).bind fun σ25 =>
 some ((.tup []), σ25)
 else none)
 else none))
 else none
noncomputable def meter_Meter__Step {O : Type} : Sm O := meter_Meter__Step_c wide_Of wide_Add
theorem meter_Meter__Step_ent : Entered Try.prog 113 := Try.call113
theorem meter_Meter__Step_run {O : Type} (k156 k110 : Sm O) : run (O := O) Try.prog [(156, k156), (110, k110)] Try.f113 (.n (.n (.g [(2, 2, [(11, .one .b)]), (6, 2, [(15, .one .b)]), (10, 2, [(19, .one .b)])]) .z) (.d [] [0, 1, 2, 3, 4, 5, 6, 7, 8, 9, 15, 16, 10, 11, 12, 13, 14, 17, 18] [0, 0, 0, 0, 4, 20, 60, 124, 0, 256, 768, 2044, 4092, 8188, 8188, 1, 32769, 114687, 245759])) = meter_Meter__Step_c k156 k110 := by kernel_rfl
theorem meter_Meter__Step_sound {O : Type} {RO : O → Loc → (Nat → Option Obj) → Prop} : FSound RO Try.prog 113 (meter_Meter__Step) :=
   have h : FSound RO Try.prog 113 (meter_Meter__Step_c wide_Of wide_Add) := (meter_Meter__Step_run wide_Of wide_Add) ▸ run_sound (gcons wide_Of_ent (wide_Of_sound) <| gcons wide_Add_ent (wide_Add_sound) <| gnil) mixed Try.func113 (by kernel_rfl) _
   h

/-- (*haymow/mem.Mem).Write -/
noncomputable def mem_Mem__Write_c {O : Type} (k112 k113 : Sm O) : Sm O := fun xs σ =>
 bif Nat.beq xs.length 4 then
 (AV.asP (xs.getD 0 .u)).bind fun p0 =>
 (AV.asI .i64 (xs.getD 1 .u)).bind fun n1 =>
 (AV.asI .i64 (xs.getD 2 .u)).bind fun n2 =>
 (AV.asI .u64 (xs.getD 3 .u)).bind fun n3 =>
 (k112 [(.p p0), (.i .i64 n1), (.i .i64 n2), (.i .i64 1)] σ).bind fun r4 =>
 (AV.asTup 2 r4.1).bind fun c5 =>
 (AV.asSl (c5.getD 0 .u)).bind fun l6 =>
 (AV.asI .i64 (c5.getD 1 .u)).bind fun n7 =>
 (bif ((n7 : Int) != 0) then
 some ((.i .i64 n7), r4.2)
 else Option.bind p0 fun q8 =>
 (r4.2.ld q8.1 q8.2).bind fun w9 =>
 (AV.asP w9).bind fun p10 =>
 (k113 [(.p p10), (.i .i64 1), (.i .i64 1)] r4.2).bind fun r11 =>
 (AV.asTup 0 r11.1).bind fun c12 =>
 (bif (decide ((0 : Int) < (l6.2 : Int))) then
 (SA.ref l6.1).bind fun q13 =>
 (r11.2.st q13.1 q13.2 [(.i .u64 n3)]).bind fun σ14 =>
 some ((.i .i64 0), σ14)
 else none))
 else none
noncomputable def mem_Mem__Write {O : Type} : Sm O := mem_Mem__Write_c mem_Mem__within meter_Meter__Step
theorem mem_Mem__Write_ent : Entered Try.prog 43 := Try.call43
theorem mem_Mem__Write_run {O : Type} (k112 k113 : Sm O) : run (O := O) Try.prog [(112, k112), (113, k113)] Try.f43 (.n .z (.n .z (.n (.n .z (.n .z .z)) (.n .z (.n .z .z))))) = mem_Mem__Write_c k112 k113 := by kernel_rfl
theorem mem_Mem__Write_sound {O : Type} {RO : O → Loc → (Nat → Option Obj) → Prop} : FSound RO Try.prog 43 (mem_Mem__Write) :=
   have h : FSound RO Try.prog 43 (mem_Mem__Write_c mem_Mem__within meter_Meter__Step) := (mem_Mem__Write_run mem_Mem__within meter_Meter__Step) ▸ run_sound (gcons mem_Mem__within_ent (mem_Mem__within_sound) <| gcons meter_Meter__Step_ent (meter_Meter__Step_sound) <| gnil) mixed Try.func43 (by kernel_rfl) _
   h

/-- (*haymow/mem.Mem).Grow -/
noncomputable def mem_Mem__Grow_c {O : Type} (k108 k107 : Sm O) : Sm O := fun xs σ =>
 bif Nat.beq xs.length 3 then
 (AV.asP (xs.getD 0 .u)).bind fun p0 =>
 (AV.asI .i64 (xs.getD 1 .u)).bind fun n1 =>
 (AV.asI .i64 (xs.getD 2 .u)).bind fun n2 =>
 (k108 [(.p p0), (.i .i64 n1)] σ).bind fun r3 =>
 (AV.asP r3.1).bind fun p4 =>
 (bif (Option.isNone p4) then
 some ((.i .i64 10), r3.2)
 else Option.bind p4 fun q5 =>
 (r3.2.ld q5.1 q5.2).bind fun w6 =>
 (AV.asSl w6).bind fun l7 =>
 (bif (decide (n2 < (l7.2 : Int))) then
 some ((.i .i64 1), r3.2)
 else (bif (decide (n2 > 4194304)) then
 some ((.i .i64 7), r3.2)
 else Option.bind p0 fun q8 =>
 (r3.2.ld q8.1 q8.2).bind fun w9 =>
 (AV.asP w9).bind fun p10 =>
 Option.bind p4 fun q11 =>
 (r3.2.ld q11.1 q11.2).bind fun w12 =>
 (AV.asSl w12).bind fun l13 =>
 (k107 [(.p p10), (.i .i64 (IntKind.i64.wrap (n2 - (l13.2 : Int))))] r3.2).bind fun r14 =>
 (AV.asI .i64 r14.1).bind fun n15 =>
 let σ16 := r14.2.bump 1
 (bif ((((decide ((0 : Int) ≤ n2)) && (decide (n2 ≤ n2))) && (decide ((n2 * 8) ≤ 140737488355328))) && (decide (n2 ≤ 140737488355328))) then
 let σ17 := σ16.put r14.2.next (.cells true 22 ((List.replicate n2.toNat [(.i .u64 0)]).flatten))
 Option.bind p4 fun q18 =>
 (σ17.ld q18.1 q18.2).bind fun w19 =>
 (AV.asSl w19).bind fun l20 =>
 (bif Nat.beq (min l20.2 n2.toNat) 0 then
 Option.bind p4 fun q24 =>
 (σ17.st q24.1 q24.2 [(.sl (.loc (.n r14.2.next) 0 1) n2.toNat)]).bind fun σ25 =>
 some ((.i .i64 0), σ25)
 else
 (σ17.rdSl l20.1 (min l20.2 n2.toNat) 1).bind fun c22 =>
 (σ17.wrSl (.loc (.n r14.2.next) 0 1) c22).bind fun σ23 =>
 Option.bind p4 fun q26 =>
 (σ23.st q26.1 q26.2 [(.sl (.loc (.n r14.2.next) 0 1) n2.toNat)]).bind fun σ27 =>
 some ((.i .i64 0), σ27))
 else none))))
 else none
noncomputable def mem_Mem__Grow {O : Type} : Sm O := mem_Mem__Grow_c mem_Mem__at meter_Meter__Hold
theorem mem_Mem__Grow_ent : Entered Try.prog 44 := Try.call44
theorem mem_Mem__Grow_run {O : Type} (k108 k107 : Sm O) : run (O := O) Try.prog [(108, k108), (107, k107)] Try.f44 (.n .z (.n .z (.n (.n (.n .z (.n .z (.n .z (.n .z (.n .z (.n .z .z)))))) .z) (.n (.d [] [0, 1, 2, 3, 4, 5, 6, 7, 8, 9, 10, 11] [0, 1, 3, 7, 0, 0, 32, 96, 224, 480, 1008, 2047]) (.n .z (.n .z (.n .z .z))))))) = mem_Mem__Grow_c k108 k107 := by kernel_rfl
theorem mem_Mem__Grow_sound {O : Type} {RO : O → Loc → (Nat → Option Obj) → Prop} : FSound RO Try.prog 44 (mem_Mem__Grow) :=
   have h : FSound RO Try.prog 44 (mem_Mem__Grow_c mem_Mem__at meter_Meter__Hold) := (mem_Mem__Grow_run mem_Mem__at meter_Meter__Hold) ▸ run_sound (gcons mem_Mem__at_ent (mem_Mem__at_sound) <| gcons meter_Meter__Hold_ent (meter_Meter__Hold_sound) <| gnil) mixed Try.func44 (by kernel_rfl) _
   h

/-- (*haymow/mem.Mem).Read -/
noncomputable def mem_Mem__Read_c {O : Type} (k112 k113 : Sm O) : Sm O := fun xs σ =>
 bif Nat.beq xs.length 3 then
 (AV.asP (xs.getD 0 .u)).bind fun p0 =>
 (AV.asI .i64 (xs.getD 1 .u)).bind fun n1 =>
 (AV.asI .i64 (xs.getD 2 .u)).bind fun n2 =>
 (k112 [(.p p0), (.i .i64 n1), (.i .i64 n2), (.i .i64 1)] σ).bind fun r3 =>
 (AV.asTup 2 r3.1).bind fun c4 =>
 (AV.asSl (c4.getD 0 .u)).bind fun l5 =>
 (AV.asI .i64 (c4.getD 1 .u)).bind fun n6 =>
 (bif ((n6 : Int) != 0) then
 some ((.tup [(.i .u64 0), (.i .i64 n6)]), r3.2)
 else Option.bind p0 fun q7 =>
 (r3.2.ld q7.1 q7.2).bind fun w8 =>
 (AV.asP w8).bind fun p9 =>
 (k113 [(.p p9), (.i .i64 0), (.i .i64 1)] r3.2).bind fun r10 =>
 (AV.asTup 0 r10.1).bind fun c11 =>
 (bif (decide ((0 : Int) < (l5.2 : Int))) then
 (SA.ref l5.1).bind fun q12 =>
 (r10.2.ld q12.1 q12.2).bind fun w13 =>
 (AV.asI .u64 w13).bind fun n14 =>
 some ((.tup [(.i .u64 n14), (.i .i64 0)]), r10.2)
 else none))
 else none
noncomputable def mem_Mem__Read {O : Type} : Sm O := mem_Mem__Read_c mem_Mem__within meter_Meter__Step
theorem mem_Mem__Read_ent : Entered Try.prog 47 := Try.call47
theorem mem_Mem__Read_run {O : Type} (k112 k113 : Sm O) : run (O := O) Try.prog [(112, k112), (113, k113)] Try.f47 (.n .z (.n .z (.n (.n .z (.n .z .z)) (.n .z .z)))) = mem_Mem__Read_c k112 k113 := by kernel_rfl
theorem mem_Mem__Read_sound {O : Type} {RO : O → Loc → (Nat → Option Obj) → Prop} : FSound RO Try.prog 47 (mem_Mem__Read) :=
   have h : FSound RO Try.prog 47 (mem_Mem__Read_c mem_Mem__within meter_Meter__Step) := (mem_Mem__Read_run mem_Mem__within meter_Meter__Step) ▸ run_sound (gcons mem_Mem__within_ent (mem_Mem__within_sound) <| gcons meter_Meter__Step_ent (meter_Meter__Step_sound) <| gnil) mixed Try.func47 (by kernel_rfl) _
   h

/-- (*haymow/meter.Meter).Of -/
noncomputable def meter_Meter__Of_c {O : Type} : Sm O := fun xs σ =>
 bif Nat.beq xs.length 2 then
 (AV.asP (xs.getD 0 .u)).bind fun p0 =>
 (AV.asI .i64 (xs.getD 1 .u)).bind fun n1 =>
 let σ2 := σ.bump 1
 let σ3 := σ2.put σ.next (.cells true 59 [(.i .u64 0), (.i .u64 0)])
 ((bif ((Option.isNone p0) == false) then
 some ([(.b (decide (n1 < 0)))], σ3)
 else some ([(.b true)], σ3)) : Option (List AV × AH O)).bind fun r4 =>
 (AV.asB (r4.1.getD 0 .u)).bind fun b5 =>
 ((bif (b5 == false) then
 some ([(.b (decide (n1 ≥ 2)))], r4.2)
 else some ([(.b true)], r4.2)) : Option (List AV × AH O)).bind fun r6 =>
 (AV.asB (r6.1.getD 0 .u)).bind fun b7 =>
 (bif b7 then
 (r6.2.st (.n σ.next) 0 [(.i .u64 0), (.i .u64 0)]).bind fun σ8 =>
 (σ8.ld (.n σ.next) 0).bind fun w9 =>
 (AV.asI .u64 w9).bind fun n10 =>
 (σ8.ld (.n σ.next) 1).bind fun w11 =>
 (AV.asI .u64 w11).bind fun n12 =>
 some ((.agg [(.i .u64 n10), (.i .u64 n12)]), σ8)
 else Option.bind p0 fun q13 =>
 (bif ((decide ((0 : Int) ≤ n1)) && (decide (n1 < 2))) then
 (r6.2.ld q13.1 (q13.2 + (n1.toNat * 2))).bind fun w14 =>
 (AV.asI .u64 w14).bind fun n15 =>
 (r6.2.ld q13.1 ((q13.2 + (n1.toNat * 2)) + 1)).bind fun w16 =>
 (AV.asI .u64 w16).bind fun n17 =>
 (r6.2.st (.n σ.next) 0 [(.i .u64 n15), (.i .u64 n17)]).bind fun σ18 =>
 (σ18.ld (.n σ.next) 0).bind fun w19 =>
 (AV.asI .u64 w19).bind fun n20 =>
 (σ18.ld (.n σ.next) 1).bind fun w21 =>
 (AV.asI .u64 w21).bind fun n22 =>
 some ((.agg [(.i .u64 n20), (.i .u64 n22)]), σ18)
 else none))
 else none
noncomputable def meter_Meter__Of {O : Type} : Sm O := meter_Meter__Of_c
theorem meter_Meter__Of_ent : Entered Try.prog 111 := Try.call111
theorem meter_Meter__Of_run {O : Type} : run (O := O) Try.prog [] Try.f111 (.n .z (.n (.n (.g [(2, 2, [(10, .one .b)]), (6, 2, [(14, .one .b)])]) (.n .z .z)) .z)) = meter_Meter__Of_c  := by kernel_rfl
theorem meter_Meter__Of_sound {O : Type} {RO : O → Loc → (Nat → Option Obj) → Prop} : FSound RO Try.prog 111 (meter_Meter__Of) :=
   have h : FSound RO Try.prog 111 (meter_Meter__Of_c) := (meter_Meter__Of_run) ▸ run_sound (gnil) mixed Try.func111 (by kernel_rfl) _
   h

/-- (*haymow/meter.Meter).Steps -/
noncomputable def meter_Meter__Steps_c {O : Type} (k111 k110 : Sm O) : Sm O := fun xs σ =>
 bif Nat.beq xs.length 1 then
 (AV.asP (xs.getD 0 .u)).bind fun p0 =>
 let σ1 := σ.bump 1
 let σ2 := σ1.put σ.next (.cells true 59 [(.i .u64 0), (.i .u64 0)])
 let σ3 := σ2.bump 1
 (k111 [(.p p0), (.i .i64 0)] σ3).bind fun r4 =>
 (AV.asAgg 2 r4.1).bind fun c5 =>
 (AV.asI .u64 (c5.getD 0 .u)).bind fun n6 =>
 (AV.asI .u64 (c5.getD 1 .u)).bind fun n7 =>
 (k111 [(.p p0), (.i .i64 1)] r4.2).bind fun r8 =>
 (AV.asAgg 2 r8.1).bind fun c9 =>
 (AV.asI .u64 (c9.getD 0 .u)).bind fun n10 =>
 (AV.asI .u64 (c9.getD 1 .u)).bind fun n11 =>
 (k110 [(.agg [(.i .u64 n6), (.i .u64 n7)]), (.agg [(.i .u64 n10), (.i .u64 n11)])] r8.2).bind fun r12 =>
 (AV.asTup 2 r12.1).bind fun c13 =>
 (AV.asAgg 2 (c13.getD 0 .u)).bind fun c14 =>
 (AV.asI .u64 (c14.getD 0 .u)).bind fun n15 =>
 (AV.asI .u64 (c14.getD 1 .u)).bind fun n16 =>
 (AV.asB (c13.getD 1 .u)).bind fun b17 =>
 let σ18 := r12.2.put σ2.next (.cells true 59 [(.i .u64 0), (.i .u64 0)])
 (σ18.st (.n σ2.next) 0 [(.i .u64 n15), (.i .u64 n16)]).bind fun σ19 =>
 (σ19.ld (.n σ2.next) 0).bind fun w20 =>
 (AV.asI .u64 w20).bind fun n21 =>
 (σ19.ld (.n σ2.next) 1).bind fun w22 =>
 (AV.asI .u64 w22).bind fun n23 =>
 (σ19.st (.n σ.next) 0 [(.i .u64 n21), (.i .u64 n23)]).bind fun σ24 =>
 (σ24.ld (.n σ.next) 0).bind fun w25 =>
 (AV.asI .u64 w25).bind fun n26 =>
 (σ24.ld (.n σ.next) 1).bind fun w27 =>
 (AV.asI .u64 w27).bind fun n28 =>
 some ((.agg [(.i .u64 n26), (.i .u64 n28)]), σ24)
 else none
noncomputable def meter_Meter__Steps {O : Type} : Sm O := meter_Meter__Steps_c meter_Meter__Of wide_Add
theorem meter_Meter__Steps_ent : Entered Try.prog 41 := Try.call41
theorem meter_Meter__Steps_run {O : Type} (k111 k110 : Sm O) : run (O := O) Try.prog [(111, k111), (110, k110)] Try.f41 (.n .z (.n .z .z)) = meter_Meter__Steps_c k111 k110 := by kernel_rfl
theorem meter_Meter__Steps_sound {O : Type} {RO : O → Loc → (Nat → Option Obj) → Prop} : FSound RO Try.prog 41 (meter_Meter__Steps) :=
   have h : FSound RO Try.prog 41 (meter_Meter__Steps_c meter_Meter__Of wide_Add) := (meter_Meter__Steps_run meter_Meter__Of wide_Add) ▸ run_sound (gcons meter_Meter__Of_ent (meter_Meter__Of_sound) <| gcons wide_Add_ent (wide_Add_sound) <| gnil) mixed Try.func41 (by kernel_rfl) _
   h

/-- (*haymow/meter.Meter).Held -/
noncomputable def meter_Meter__Held_c {O : Type} : Sm O := fun xs σ =>
 bif Nat.beq xs.length 1 then
 (AV.asP (xs.getD 0 .u)).bind fun p0 =>
 (bif (Option.isNone p0) then
 some ((.i .i64 0), σ)
 else Option.bind p0 fun q1 =>
 (σ.ld q1.1 (q1.2 + 4)).bind fun w2 =>
 (AV.asI .i64 w2).bind fun n3 =>
 some ((.i .i64 n3), σ))
 else none
noncomputable def meter_Meter__Held {O : Type} : Sm O := meter_Meter__Held_c
theorem meter_Meter__Held_ent : Entered Try.prog 37 := Try.call37
theorem meter_Meter__Held_run {O : Type} : run (O := O) Try.prog [] Try.f37 (.n .z (.n (.n .z (.n .z .z)) .z)) = meter_Meter__Held_c  := by kernel_rfl
theorem meter_Meter__Held_sound {O : Type} {RO : O → Loc → (Nat → Option Obj) → Prop} : FSound RO Try.prog 37 (meter_Meter__Held) :=
   have h : FSound RO Try.prog 37 (meter_Meter__Held_c) := (meter_Meter__Held_run) ▸ run_sound (gnil) mixed Try.func37 (by kernel_rfl) _
   h

/-- haymow/haymowlaw08.awake -/
noncomputable def law08_awake_c {O : Type} (k35 k36 k43 k44 k47 k41 k37 : Sm O) : Sm O := fun xs σ =>
 bif Nat.beq xs.length 0 then
 (k35 [] σ).bind fun r0 =>
 (AV.asP r0.1).bind fun p1 =>
 (bif (Option.isNone p1) then
 some ((.b false), r0.2)
 else (k36 [(.p p1), (.i .i64 3)] r0.2).bind fun r2 =>
 (AV.asTup 2 r2.1).bind fun c3 =>
 (AV.asI .i64 (c3.getD 0 .u)).bind fun n4 =>
 (AV.asI .i64 (c3.getD 1 .u)).bind fun n5 =>
 (k43 [(.p p1), (.i .i64 n4), (.i .i64 1), (.i .u64 77)] r2.2).bind fun r6 =>
 (AV.asI .i64 r6.1).bind fun n7 =>
 (k44 [(.p p1), (.i .i64 n4), (.i .i64 5)] r6.2).bind fun r8 =>
 (AV.asI .i64 r8.1).bind fun n9 =>
 (k47 [(.p p1), (.i .i64 n4), (.i .i64 1)] r8.2).bind fun r10 =>
 (AV.asTup 2 r10.1).bind fun c11 =>
 (AV.asI .u64 (c11.getD 0 .u)).bind fun n12 =>
 (AV.asI .i64 (c11.getD 1 .u)).bind fun n13 =>
 ((bif (((n5 : Int) == 0) == true) then
 some ([(.b ((n9 : Int) == 0))], r10.2)
 else some ([(.b false)], r10.2)) : Option (List AV × AH O)).bind fun r14 =>
 (AV.asB (r14.1.getD 0 .u)).bind fun b15 =>
 ((bif (b15 == true) then
 some ([(.b ((n12 : Int) == 77))], r14.2)
 else some ([(.b false)], r14.2)) : Option (List AV × AH O)).bind fun r16 =>
 (AV.asB (r16.1.getD 0 .u)).bind fun b17 =>
 ((bif (b17 == true) then
 some ([(.b ((n13 : Int) == 0))], r16.2)
 else some ([(.b false)], r16.2)) : Option (List AV × AH O)).bind fun r18 =>
 (AV.asB (r18.1.getD 0 .u)).bind fun b19 =>
 ((bif (b19 == true) then
 Option.bind p1 fun q20 =>
 (r18.2.ld q20.1 q20.2).bind fun w21 =>
 (AV.asP w21).bind fun p22 =>
 (k41 [(.p p22)] r18.2).bind fun r23 =>
 (AV.asAgg 2 r23.1).bind fun c24 =>
 (AV.asI .u64 (c24.getD 0 .u)).bind fun n25 =>
 (AV.asI .u64 (c24.getD 1 .u)).bind fun n26 =>
 let c27 : Bool := (((n25 : Int) == 0) && (((n26 : Int) == 2) && true))
 some ([(.b c27)], r23.2)
 else some ([(.b false)], r18.2)) : Option (List AV × AH O)).bind fun r28 =>
 (AV.asB (r28.1.getD 0 .u)).bind fun b29 =>
 ((bif (b29 == true) then
 Option.bind p1 fun q30 =>
 (r28.2.ld q30.1 q30.2).bind fun w31 =>
 (AV.asP w31).bind fun p32 =>
 (k37 [(.p p32)] r28.2).bind fun r33 =>
 (AV.asI .i64 r33.1).bind fun n34 =>
 some ([(.b ((n34 : Int) == 5))], r33.2)
 else some ([(.b false)], r28.2)) : Option (List AV × AH O)).bind fun r35 =>
 (AV.asB (r35.1.getD 0 .u)).bind fun b36 =>
 some ((.b b36), r35.2))
 else none
noncomputable def law08_awake {O : Type} : Sm O := law08_awake_c mem_New mem_Mem__Open mem_Mem__Write mem_Mem__Grow mem_Mem__Read meter_Meter__Steps meter_Meter__Held
theorem law08_awake_ent : Entered Try.prog 34 := Try.call34
theorem law08_awake_run {O : Type} (k35 k36 k43 k44 k47 k41 k37 : Sm O) : run (O := O) Try.prog [(35, k35), (36, k36), (43, k43), (44, k44), (47, k47), (41, k41), (37, k37)] Try.f34 (.n .z (.n .z (.n (.n .z (.n .z .z)) (.n .z (.n .z (.n .z (.n .z (.n (.g [(2, 2, [(32, .one .b)]), (6, 2, [(36, .one .b)]), (10, 2, [(40, .one .b)]), (14, 7, [(49, .one .b)]), (23, 6, [(57, .one .b)])]) .z)))))))) = law08_awake_c k35 k36 k43 k44 k47 k41 k37 := by kernel_rfl
theorem law08_awake_sound {O : Type} {RO : O → Loc → (Nat → Option Obj) → Prop} : FSound RO Try.prog 34 (law08_awake) :=
   have h : FSound RO Try.prog 34 (law08_awake_c mem_New mem_Mem__Open mem_Mem__Write mem_Mem__Grow mem_Mem__Read meter_Meter__Steps meter_Meter__Held) := (law08_awake_run mem_New mem_Mem__Open mem_Mem__Write mem_Mem__Grow mem_Mem__Read meter_Meter__Steps meter_Meter__Held) ▸ run_sound (gcons mem_New_ent (mem_New_sound) <| gcons mem_Mem__Open_ent (mem_Mem__Open_sound) <| gcons mem_Mem__Write_ent (mem_Mem__Write_sound) <| gcons mem_Mem__Grow_ent (mem_Mem__Grow_sound) <| gcons mem_Mem__Read_ent (mem_Mem__Read_sound) <| gcons meter_Meter__Steps_ent (meter_Meter__Steps_sound) <| gcons meter_Meter__Held_ent (meter_Meter__Held_sound) <| gnil) mixed Try.func34 (by kernel_rfl) _
   h

/-- haymow/haymowlaw08.few -/
noncomputable def law08_few_L1 {O : Type} (l0 : SA × Nat) : List AV × AH O → Option ((List AV × AH O) ⊕ ((List AV × AH O) ⊕ (AV × AH O))) := (fun r1 =>
 (AV.asI .i64 (r1.1.getD 0 .u)).bind fun n2 =>
 (bif (decide (n2 < (l0.2 : Int))) then
 (bif ((decide ((0 : Int) ≤ n2)) && (decide (n2 < (l0.2 : Int)))) then
 (SA.ref l0.1).bind fun q3 =>
 (r1.2.ld q3.1 (q3.2 + (n2.toNat * 7))).bind fun w4 =>
 (AV.asI .i64 w4).bind fun n5 =>
 ((bif (((n5 : Int) == 0) == false) then
 (bif ((decide ((0 : Int) ≤ n2)) && (decide (n2 < (l0.2 : Int)))) then
 (SA.ref l0.1).bind fun q6 =>
 (r1.2.ld q6.1 (q6.2 + (n2.toNat * 7))).bind fun w7 =>
 (AV.asI .i64 w7).bind fun n8 =>
 some ([(.b ((n8 : Int) == 2))], r1.2)
 else none)
 else some ([(.b true)], r1.2)) : Option (List AV × AH O)).bind fun r9 =>
 (AV.asB (r9.1.getD 0 .u)).bind fun b10 =>
 ((bif (b10 == true) then
 (bif ((decide ((0 : Int) ≤ n2)) && (decide (n2 < (l0.2 : Int)))) then
 (SA.ref l0.1).bind fun q11 =>
 (r9.2.ld q11.1 ((q11.2 + (n2.toNat * 7)) + 5)).bind fun w12 =>
 (AV.asI .i64 w12).bind fun n13 =>
 some ([(.b (decide (n13 > 200)))], r9.2)
 else none)
 else some ([(.b false)], r9.2)) : Option (List AV × AH O)).bind fun r14 =>
 (AV.asB (r14.1.getD 0 .u)).bind fun b15 =>
 ((bif (b15 == true) then
 (bif ((decide ((0 : Int) ≤ n2)) && (decide (n2 < (l0.2 : Int)))) then
 (SA.ref l0.1).bind fun q16 =>
 (r14.2.ld q16.1 ((q16.2 + (n2.toNat * 7)) + 5)).bind fun w17 =>
 (AV.asI .i64 w17).bind fun n18 =>
 some ([(.b (decide (n18 ≤ 4194304)))], r14.2)
 else none)
 else some ([(.b false)], r14.2)) : Option (List AV × AH O)).bind fun r19 =>
 (AV.asB (r19.1.getD 0 .u)).bind fun b20 =>
 (bif b20 then
 ((some ((.b false), r19.2) : Option (AV × AH O)).map fun r => Sum.inr (Sum.inr r))
 else some (Sum.inl ([(.i .i64 (IntKind.i64.wrap (n2 + 1)))], r19.2)))
 else none)
 else some (Sum.inr (Sum.inl ([], r1.2)))))
noncomputable def law08_few_c {O : Type} : Sm O := fun xs σ =>
 bif Nat.beq xs.length 1 then
 (AV.asSl (xs.getD 0 .u)).bind fun l0 =>
 (bif (decide ((l0.2 : Int) > 60)) then
 some ((.b false), σ)
 else bindS (S := List AV × AH O) (R := (AV × AH O)) (loopF (S := List AV × AH O) (T := (List AV × AH O) ⊕ (AV × AH O)) (law08_few_L1 l0) ([(.i .i64 0)], σ)) fun r21 =>
 some ((.b true), r21.2))
 else none
noncomputable def law08_few {O : Type} : Sm O := law08_few_c
theorem law08_few_ent : Entered Try.prog 42 := Try.call42
theorem law08_few_run {O : Type} : run (O := O) Try.prog [] Try.f42 (.n .z (.n (.n .z (.n .z .z)) (.n (.n .z (.n (.lp true 0 [(3, .one (.i .i64))] [] (.n (.n .z .z) (.n (.n (.n (.g [(6, 6, [(26, .one .b)]), (14, 6, [(34, .one .b)]), (22, 6, [(42, .one .b)])]) (.n .z .z)) .z) .z))) .z)) .z))) = law08_few_c  := by kernel_rfl
theorem law08_few_sound {O : Type} {RO : O → Loc → (Nat → Option Obj) → Prop} : FSound RO Try.prog 42 (law08_few) :=
   have h : FSound RO Try.prog 42 (law08_few_c) := (law08_few_run) ▸ run_sound (gnil) mixed Try.func42 (by kernel_rfl) _
   h

/-- haymow/haymowref08.Count -/
noncomputable def haymowref08_Count_L1 {O : Type} (σ : AH O) : List AV × AH O → Option ((List AV × AH O) ⊕ (List AV × AH O)) := (fun r10 =>
 (AV.asI .i64 (r10.1.getD 0 .u)).bind fun n11 =>
 (AV.asI .i64 (r10.1.getD 1 .u)).bind fun n12 =>
 (r10.2.ld (.n σ.next) 0).bind fun w13 =>
 (AV.asSl w13).bind fun l14 =>
 (bif (decide (n12 < (l14.2 : Int))) then
 (r10.2.ld (.n σ.next) 0).bind fun w15 =>
 (AV.asSl w15).bind fun l16 =>
 (bif ((decide ((0 : Int) ≤ n12)) && (decide (n12 < (l16.2 : Int)))) then
 (SA.ref l16.1).bind fun q17 =>
 (r10.2.ld q17.1 (q17.2 + (n12.toNat * 2))).bind fun w18 =>
 (AV.asB w18).bind fun b19 =>
 ((bif b19 then
 some ([(.i .i64 (IntKind.i64.wrap (n11 + 1)))], r10.2)
 else some ([(.i .i64 n11)], r10.2)) : Option (List AV × AH O)).bind fun r20 =>
 (AV.asI .i64 (r20.1.getD 0 .u)).bind fun n21 =>
 some (Sum.inl ([(.i .i64 n21), (.i .i64 (IntKind.i64.wrap (n12 + 1)))], r20.2))
 else none)
 else some (Sum.inr ([(.i .i64 n11)], r10.2))))
noncomputable def haymowref08_Count_c {O : Type} : Sm O := fun xs σ =>
 bif Nat.beq xs.length 1 then
 (AV.asAgg 7 (xs.getD 0 .u)).bind fun c0 =>
 (AV.asSl (c0.getD 0 .u)).bind fun l1 =>
 (AV.asI .u64 (c0.getD 1 .u)).bind fun n2 =>
 (AV.asI .u64 (c0.getD 2 .u)).bind fun n3 =>
 (AV.asI .u64 (c0.getD 3 .u)).bind fun n4 =>
 (AV.asI .u64 (c0.getD 4 .u)).bind fun n5 =>
 (AV.asI .i64 (c0.getD 5 .u)).bind fun n6 =>
 (AV.asI .i64 (c0.getD 6 .u)).bind fun n7 =>
 let σ8 := σ.bump 1
 let σ9 := σ8.put σ.next (.cells true 89 [(.sl l1.1 l1.2), (.i .u64 n2), (.i .u64 n3), (.i .u64 n4), (.i .u64 n5), (.i .i64 n6), (.i .i64 n7)])
 (loopF (S := List AV × AH O) (T := List AV × AH O) (haymowref08_Count_L1 σ) ([(.i .i64 0), (.i .i64 0)], σ9)).bind fun r22 =>
 (AV.asI .i64 (r22.1.getD 0 .u)).bind fun n23 =>
 some ((.i .i64 n23), r22.2)
 else none
noncomputable def haymowref08_Count {O : Type} : Sm O := haymowref08_Count_c
theorem haymowref08_Count_ent : Entered Try.prog 56 := Try.call56
theorem haymowref08_Count_run {O : Type} : run (O := O) Try.prog [] Try.f56 (.n .z (.n .z (.n (.n .z (.n (.lp false 0 [(3, .one (.i .i64)), (4, .one (.i .i64))] [(3, .one (.i .i64))] (.n (.n .z .z) (.n (.n (.n .z (.j false [(3, .one (.i .i64))] .z .z)) .z) .z))) .z)) .z))) = haymowref08_Count_c  := by kernel_rfl
theorem haymowref08_Count_sound {O : Type} {RO : O → Loc → (Nat → Option Obj) → Prop} : FSound RO Try.prog 56 (haymowref08_Count) :=
   have h : FSound RO Try.prog 56 (haymowref08_Count_c) := (haymowref08_Count_run) ▸ run_sound (gnil) mixed Try.func56 (by kernel_rfl) _
   h

/-- haymow/haymowref08.copied -/
noncomputable def haymowref08_copied_L1 {O : Type} (l17 : SA × Nat) : List AV × AH O → Option ((List AV × AH O) ⊕ (List AV × AH O)) := (fun r18 =>
 (AV.asI .i64 (r18.1.getD 0 .u)).bind fun n19 =>
 (bif (decide (n19 < (l17.2 : Int))) then
 let σ20 := r18.2.bump 2
 let σ21 := σ20.put r18.2.next (.cells true 22 [])
 (bif ((decide ((0 : Int) ≤ n19)) && (decide (n19 < (l17.2 : Int)))) then
 (SA.ref l17.1).bind fun q22 =>
 (σ21.ld q22.1 ((q22.2 + (n19.toNat * 2)) + 1)).bind fun w23 =>
 (AV.asSl w23).bind fun l24 =>
 (σ21.rdSl l24.1 l24.2 1).bind fun new25 =>
 (bif (Nat.ble ((0 + l24.2) * 9) 35184372088832) then
 (σ21.appSl (r18.2.next + 1) 22 1 (.loc (.n r18.2.next) 0 1) 0 l24.2 new25).bind fun r26 =>
 (AV.asSl r26.1).bind fun l27 =>
 (bif ((decide ((0 : Int) ≤ n19)) && (decide (n19 < (l17.2 : Int)))) then
 (SA.ref l17.1).bind fun q28 =>
 (r26.2.st q28.1 ((q28.2 + (n19.toNat * 2)) + 1) [(.sl l27.1 l27.2)]).bind fun σ29 =>
 some (Sum.inl ([(.i .i64 (IntKind.i64.wrap (n19 + 1)))], σ29))
 else none)
 else none)
 else none)
 else some (Sum.inr ([], r18.2))))
noncomputable def haymowref08_copied_c {O : Type} : Sm O := fun xs σ =>
 bif Nat.beq xs.length 1 then
 (AV.asAgg 7 (xs.getD 0 .u)).bind fun c0 =>
 (AV.asSl (c0.getD 0 .u)).bind fun l1 =>
 (AV.asI .u64 (c0.getD 1 .u)).bind fun n2 =>
 (AV.asI .u64 (c0.getD 2 .u)).bind fun n3 =>
 (AV.asI .u64 (c0.getD 3 .u)).bind fun n4 =>
 (AV.asI .u64 (c0.getD 4 .u)).bind fun n5 =>
 (AV.asI .i64 (c0.getD 5 .u)).bind fun n6 =>
 (AV.asI .i64 (c0.getD 6 .u)).bind fun n7 =>
 let σ8 := σ.bump 2
 let σ9 := σ8.put σ.next (.cells true 89 [(.sl l1.1 l1.2), (.i .u64 n2), (.i .u64 n3), (.i .u64 n4), (.i .u64 n5), (.i .i64 n6), (.i .i64 n7)])
 let σ10 := σ9.put (σ.next + 1) (.cells true 89 [(.sl .nil 0), (.i .u64 0), (.i .u64 0), (.i .u64 0), (.i .u64 0), (.i .i64 0), (.i .i64 0)])
 let σ11 := σ10.bump 2
 let σ12 := σ11.put σ10.next (.cells true 210 [])
 (σ12.ld (.n σ.next) 0).bind fun w13 =>
 (AV.asSl w13).bind fun l14 =>
 (σ12.rdSl l14.1 l14.2 2).bind fun new15 =>
 (bif (Nat.ble ((0 + l14.2) * 33) 35184372088832) then
 (σ12.appSl (σ10.next + 1) 210 2 (.loc (.n σ10.next) 0 2) 0 l14.2 new15).bind fun r16 =>
 (AV.asSl r16.1).bind fun l17 =>
 (loopF (S := List AV × AH O) (T := List AV × AH O) (haymowref08_copied_L1 l17) ([(.i .i64 0)], r16.2)).bind fun r30 =>
 (r30.2.st (.n σ.next) 0 [(.sl l17.1 l17.2)]).bind fun σ31 =>
 (σ31.ld (.n σ.next) 0).bind fun w32 =>
 (AV.asSl w32).bind fun l33 =>
 (σ31.ld (.n σ.next) 1).bind fun w34 =>
 (AV.asI .u64 w34).bind fun n35 =>
 (σ31.ld (.n σ.next) 2).bind fun w36 =>
 (AV.asI .u64 w36).bind fun n37 =>
 (σ31.ld (.n σ.next) 3).bind fun w38 =>
 (AV.asI .u64 w38).bind fun n39 =>
 (σ31.ld (.n σ.next) 4).bind fun w40 =>
 (AV.asI .u64 w40).bind fun n41 =>
 (σ31.ld (.n σ.next) 5).bind fun w42 =>
 (AV.asI .i64 w42).bind fun n43 =>
 (σ31.ld (.n σ.next) 6).bind fun w44 =>
 (AV.asI .i64 w44).bind fun n45 =>
 (σ31.st (.n (σ.next + 1)) 0 [(.sl l33.1 l33.2), (.i .u64 n35), (.i .u64 n37), (.i .u64 n39), (.i .u64 n41), (.i .i64 n43), (.i .i64 n45)]).bind fun σ46 =>
 (σ46.ld (.n (σ.next + 1)) 0).bind fun w47 =>
 (AV.asSl w47).bind fun l48 =>
 (σ46.ld (.n (σ.next + 1)) 1).bind fun w49 =>
 (AV.asI .u64 w49).bind fun n50 =>
 (σ46.ld (.n (σ.next + 1)) 2).bind fun w51 =>
 (AV.asI .u64 w51).bind fun n52 =>
 (σ46.ld (.n (σ.next + 1)) 3).bind fun w53 =>
 (AV.asI .u64 w53).bind fun n54 =>
 (σ46.ld (.n (σ.next + 1)) 4).bind fun w55 =>
 (AV.asI .u64 w55).bind fun n56 =>
 (σ46.ld (.n (σ.next + 1)) 5).bind fun w57 =>
 (AV.asI .i64 w57).bind fun n58 =>
 (σ46.ld (.n (σ.next + 1)) 6).bind fun w59 =>
 (AV.asI .i64 w59).bind fun n60 =>
 some ((.agg [(.sl l48.1 l48.2), (.i .u64 n50), (.i .u64 n52), (.i .u64 n54), (.i .u64 n56), (.i .i64 n58), (.i .i64 n60)]), σ46)
 else none)
 else none
noncomputable def haymowref08_copied {O : Type} : Sm O := haymowref08_copied_c
theorem haymowref08_copied_ent : Entered Try.prog 158 := Try.call158
theorem haymowref08_copied_run {O : Type} : run (O := O) Try.prog [] Try.f158 (.n .z (.n .z (.n (.n .z (.n (.lp false 0 [(4, .one (.i .i64))] [] (.n (.n .z .z) (.n .z .z))) .z)) (.n .z .z)))) = haymowref08_copied_c  := by kernel_rfl
theorem haymowref08_copied_sound {O : Type} {RO : O → Loc → (Nat → Option Obj) → Prop} : FSound RO Try.prog 158 (haymowref08_copied) :=
   have h : FSound RO Try.prog 158 (haymowref08_copied_c) := (haymowref08_copied_run) ▸ run_sound (gnil) mixed Try.func158 (by kernel_rfl) _
   h

/-- haymow/haymowref07.Hold -/
noncomputable def haymowref07_Hold_c {O : Type} : Sm O := fun xs σ =>
 bif Nat.beq xs.length 2 then
 (AV.asAgg 6 (xs.getD 0 .u)).bind fun c0 =>
 (AV.asI .u64 (c0.getD 0 .u)).bind fun n1 =>
 (AV.asI .u64 (c0.getD 1 .u)).bind fun n2 =>
 (AV.asI .u64 (c0.getD 2 .u)).bind fun n3 =>
 (AV.asI .u64 (c0.getD 3 .u)).bind fun n4 =>
 (AV.asI .i64 (c0.getD 4 .u)).bind fun n5 =>
 (AV.asI .i64 (c0.getD 5 .u)).bind fun n6 =>
 (AV.asI .i64 (xs.getD 1 .u)).bind fun n7 =>
 let σ8 := σ.bump 2
 let σ9 := σ8.put σ.next (.cells true 87 [(.i .u64 n1), (.i .u64 n2), (.i .u64 n3), (.i .u64 n4), (.i .i64 n5), (.i .i64 n6)])
 let σ10 := σ9.put (σ.next + 1) (.cells true 87 [(.i .u64 0), (.i .u64 0), (.i .u64 0), (.i .u64 0), (.i .i64 0), (.i .i64 0)])
 (bif (decide (n7 < 0)) then
 (σ10.ld (.n σ.next) 0).bind fun w11 =>
 (AV.asI .u64 w11).bind fun n12 =>
 (σ10.ld (.n σ.next) 1).bind fun w13 =>
 (AV.asI .u64 w13).bind fun n14 =>
 (σ10.ld (.n σ.next) 2).bind fun w15 =>
 (AV.asI .u64 w15).bind fun n16 =>
 (σ10.ld (.n σ.next) 3).bind fun w17 =>
 (AV.asI .u64 w17).bind fun n18 =>
 (σ10.ld (.n σ.next) 4).bind fun w19 =>
 (AV.asI .i64 w19).bind fun n20 =>
 (σ10.ld (.n σ.next) 5).bind fun w21 =>
 (AV.asI .i64 w21).bind fun n22 =>
 (σ10.st (.n (σ.next + 1)) 0 [(.i .u64 n12), (.i .u64 n14), (.i .u64 n16), (.i .u64 n18), (.i .i64 n20), (.i .i64 n22)]).bind fun σ23 =>
 (σ23.ld (.n (σ.next + 1)) 0).bind fun w24 =>
 (AV.asI .u64 w24).bind fun n25 =>
 (σ23.ld (.n (σ.next + 1)) 1).bind fun w26 =>
 (AV.asI .u64 w26).bind fun n27 =>
 (σ23.ld (.n (σ.next + 1)) 2).bind fun w28 =>
 (AV.asI .u64 w28).bind fun n29 =>
 (σ23.ld (.n (σ.next + 1)) 3).bind fun w30 =>
 (AV.asI .u64 w30).bind fun n31 =>
 (σ23.ld (.n (σ.next + 1)) 4).bind fun w32 =>
 (AV.asI .i64 w32).bind fun n33 =>
 (σ23.ld (.n (σ.next + 1)) 5).bind fun w34 =>
 (AV.asI .i64 w34).bind fun n35 =>
 some ((.tup [(.agg [(.i .u64 n25), (.i .u64 n27), (.i .u64 n29), (.i .u64 n31), (.i .i64 n33), (.i .i64 n35)]), (.i .i64 1)]), σ23)
 else (σ10.ld (.n σ.next) 4).bind fun w36 =>
 (AV.asI .i64 w36).bind fun n37 =>
 let c38 : Bool := (decide (n7 > (IntKind.i64.wrap (281474976710656 - n37))))
 (bif c38 then
 (σ10.ld (.n σ.next) 0).bind fun w39 =>
 (AV.asI .u64 w39).bind fun n40 =>
 (σ10.ld (.n σ.next) 1).bind fun w41 =>
 (AV.asI .u64 w41).bind fun n42 =>
 (σ10.ld (.n σ.next) 2).bind fun w43 =>
 (AV.asI .u64 w43).bind fun n44 =>
 (σ10.ld (.n σ.next) 3).bind fun w45 =>
 (AV.asI .u64 w45).bind fun n46 =>
 (σ10.ld (.n σ.next) 4).bind fun w47 =>
 (AV.asI .i64 w47).bind fun n48 =>
 (σ10.ld (.n σ.next) 5).bind fun w49 =>
 (AV.asI .i64 w49).bind fun n50 =>
 (σ10.st (.n (σ.next + 1)) 0 [(.i .u64 n40), (.i .u64 n42), (.i .u64 n44), (.i .u64 n46), (.i .i64 n48), (.i .i64 n50)]).bind fun σ51 =>
 (σ51.ld (.n (σ.next + 1)) 0).bind fun w52 =>
 (AV.asI .u64 w52).bind fun n53 =>
 (σ51.ld (.n (σ.next + 1)) 1).bind fun w54 =>
 (AV.asI .u64 w54).bind fun n55 =>
 (σ51.ld (.n (σ.next + 1)) 2).bind fun w56 =>
 (AV.asI .u64 w56).bind fun n57 =>
 (σ51.ld (.n (σ.next + 1)) 3).bind fun w58 =>
 (AV.asI .u64 w58).bind fun n59 =>
 (σ51.ld (.n (σ.next + 1)) 4).bind fun w60 =>
 (AV.asI .i64 w60).bind fun n61 =>
 (σ51.ld (.n (σ.next + 1)) 5).bind fun w62 =>
 (AV.asI .i64 w62).bind fun n63 =>
 some ((.tup [(.agg [(.i .u64 n53), (.i .u64 n55), (.i .u64 n57), (.i .u64 n59), (.i .i64 n61), (.i .i64 n63)]), (.i .i64 3)]), σ51)
 else (σ10.ld (.n σ.next) 4).bind fun w64 =>
 (AV.asI .i64 w64).bind fun n65 =>
 (σ10.st (.n σ.next) 4 [(.i .i64 (IntKind.i64.wrap (n65 + n7)))]).bind fun σ66 =>
 (σ66.ld (.n σ.next) 4).bind fun w67 =>
 (AV.asI .i64 w67).bind fun n68 =>
 (σ66.ld (.n σ.next) 5).bind fun w69 =>
 (AV.asI .i64 w69).bind fun n70 =>
 ((bif (decide (n68 > n70)) then
 (σ66.ld (.n σ.next) 4).bind fun w71 =>
 (AV.asI .i64 w71).bind fun n72 =>
 (σ66.st (.n σ.next) 5 [(.i .i64 n72)]).bind fun σ73 =>
 some ([], σ73)
 else some ([], σ66)) : Option (List AV × AH O)).bind fun r74 =>
 (r74.2.ld (.n σ.next) 0).bind fun w75 =>
 (AV.asI .u64 w75).bind fun n76 =>
 (r74.2.ld (.n σ.next) 1).bind fun w77 =>
 (AV.asI .u64 w77).bind fun n78 =>
 (r74.2.ld (.n σ.next) 2).bind fun w79 =>
 (AV.asI .u64 w79).bind fun n80 =>
 (r74.2.ld (.n σ.next) 3).bind fun w81 =>
 (AV.asI .u64 w81).bind fun n82 =>
 (r74.2.ld (.n σ.next) 4).bind fun w83 =>
 (AV.asI .i64 w83).bind fun n84 =>
 (r74.2.ld (.n σ.next) 5).bind fun w85 =>
 (AV.asI .i64 w85).bind fun n86 =>
 (r74.2.st (.n (σ.next + 1)) 0 [(.i .u64 n76), (.i .u64 n78), (.i .u64 n80), (.i .u64 n82), (.i .i64 n84), (.i .i64 n86)]).bind fun σ87 =>
 (σ87.ld (.n (σ.next + 1)) 0).bind fun w88 =>
 (AV.asI .u64 w88).bind fun n89 =>
 (σ87.ld (.n (σ.next + 1)) 1).bind fun w90 =>
 (AV.asI .u64 w90).bind fun n91 =>
 (σ87.ld (.n (σ.next + 1)) 2).bind fun w92 =>
 (AV.asI .u64 w92).bind fun n93 =>
 (σ87.ld (.n (σ.next + 1)) 3).bind fun w94 =>
 (AV.asI .u64 w94).bind fun n95 =>
 (σ87.ld (.n (σ.next + 1)) 4).bind fun w96 =>
 (AV.asI .i64 w96).bind fun n97 =>
 (σ87.ld (.n (σ.next + 1)) 5).bind fun w98 =>
 (AV.asI .i64 w98).bind fun n99 =>
 some ((.tup [(.agg [(.i .u64 n89), (.i .u64 n91), (.i .u64 n93), (.i .u64 n95), (.i .i64 n97), (.i .i64 n99)]), (.i .i64 0)]), σ87)))
 else none
noncomputable def haymowref07_Hold {O : Type} : Sm O := haymowref07_Hold_c
theorem haymowref07_Hold_ent : Entered Try.prog 159 := Try.call159
theorem haymowref07_Hold_run {O : Type} : run (O := O) Try.prog [] Try.f159 (.n .z (.n (.n .z (.n .z .z)) (.n (.n .z (.n .z .z)) (.n .z (.n (.n .z (.j false [] .z .z)) .z))))) = haymowref07_Hold_c  := by kernel_rfl
theorem haymowref07_Hold_sound {O : Type} {RO : O → Loc → (Nat → Option Obj) → Prop} : FSound RO Try.prog 159 (haymowref07_Hold) :=
   have h : FSound RO Try.prog 159 (haymowref07_Hold_c) := (haymowref07_Hold_run) ▸ run_sound (gnil) mixed Try.func159 (by kernel_rfl) _
   h

/-- haymow/haymowref08.Open -/
noncomputable def haymowref08_Open_L1 {O : Type} (σ : AH O) : List AV × AH O → Option ((List AV × AH O) ⊕ (List AV × AH O)) := (fun r139 =>
 (AV.asI .i64 (r139.1.getD 0 .u)).bind fun n140 =>
 (r139.2.ld (.n σ.next) 0).bind fun w141 =>
 (AV.asSl w141).bind fun l142 =>
 ((bif ((decide (n140 < (l142.2 : Int))) == true) then
 (r139.2.ld (.n σ.next) 0).bind fun w143 =>
 (AV.asSl w143).bind fun l144 =>
 (bif ((decide ((0 : Int) ≤ n140)) && (decide (n140 < (l144.2 : Int)))) then
 (SA.ref l144.1).bind fun q145 =>
 (r139.2.ld q145.1 (q145.2 + (n140.toNat * 2))).bind fun w146 =>
 (AV.asB w146).bind fun b147 =>
 some ([(.b b147)], r139.2)
 else none)
 else some ([(.b false)], r139.2)) : Option (List AV × AH O)).bind fun r148 =>
 (AV.asB (r148.1.getD 0 .u)).bind fun b149 =>
 (bif b149 then
 some (Sum.inl ([(.i .i64 (IntKind.i64.wrap (n140 + 1)))], r148.2))
 else some (Sum.inr ([(.i .i64 n140)], r148.2))))
noncomputable def haymowref08_Open_c {O : Type} (k56 k158 k159 : Sm O) : Sm O := fun xs σ =>
 bif Nat.beq xs.length 2 then
 (AV.asAgg 7 (xs.getD 0 .u)).bind fun c0 =>
 (AV.asSl (c0.getD 0 .u)).bind fun l1 =>
 (AV.asI .u64 (c0.getD 1 .u)).bind fun n2 =>
 (AV.asI .u64 (c0.getD 2 .u)).bind fun n3 =>
 (AV.asI .u64 (c0.getD 3 .u)).bind fun n4 =>
 (AV.asI .u64 (c0.getD 4 .u)).bind fun n5 =>
 (AV.asI .i64 (c0.getD 5 .u)).bind fun n6 =>
 (AV.asI .i64 (c0.getD 6 .u)).bind fun n7 =>
 (AV.asI .i64 (xs.getD 1 .u)).bind fun n8 =>
 let σ9 := σ.bump 2
 let σ10 := σ9.put σ.next (.cells true 89 [(.sl l1.1 l1.2), (.i .u64 n2), (.i .u64 n3), (.i .u64 n4), (.i .u64 n5), (.i .i64 n6), (.i .i64 n7)])
 let σ11 := σ10.put (σ.next + 1) (.cells true 89 [(.sl .nil 0), (.i .u64 0), (.i .u64 0), (.i .u64 0), (.i .u64 0), (.i .i64 0), (.i .i64 0)])
 (bif (decide (n8 < 0)) then
 (σ11.ld (.n σ.next) 0).bind fun w12 =>
 (AV.asSl w12).bind fun l13 =>
 (σ11.ld (.n σ.next) 1).bind fun w14 =>
 (AV.asI .u64 w14).bind fun n15 =>
 (σ11.ld (.n σ.next) 2).bind fun w16 =>
 (AV.asI .u64 w16).bind fun n17 =>
 (σ11.ld (.n σ.next) 3).bind fun w18 =>
 (AV.asI .u64 w18).bind fun n19 =>
 (σ11.ld (.n σ.next) 4).bind fun w20 =>
 (AV.asI .u64 w20).bind fun n21 =>
 (σ11.ld (.n σ.next) 5).bind fun w22 =>
 (AV.asI .i64 w22).bind fun n23 =>
 (σ11.ld (.n σ.next) 6).bind fun w24 =>
 (AV.asI .i64 w24).bind fun n25 =>
 (σ11.st (.n (σ.next + 1)) 0 [(.sl l13.1 l13.2), (.i .u64 n15), (.i .u64 n17), (.i .u64 n19), (.i .u64 n21), (.i .i64 n23), (.i .i64 n25)]).bind fun σ26 =>
 (σ26.ld (.n (σ.next + 1)) 0).bind fun w27 =>
 (AV.asSl w27).bind fun l28 =>
 (σ26.ld (.n (σ.next + 1)) 1).bind fun w29 =>
 (AV.asI .u64 w29).bind fun n30 =>
 (σ26.ld (.n (σ.next + 1)) 2).bind fun w31 =>
 (AV.asI .u64 w31).bind fun n32 =>
 (σ26.ld (.n (σ.next + 1)) 3).bind fun w33 =>
 (AV.asI .u64 w33).bind fun n34 =>
 (σ26.ld (.n (σ.next + 1)) 4).bind fun w35 =>
 (AV.asI .u64 w35).bind fun n36 =>
 (σ26.ld (.n (σ.next + 1)) 5).bind fun w37 =>
 (AV.asI .i64 w37).bind fun n38 =>
 (σ26.ld (.n (σ.next + 1)) 6).bind fun w39 =>
 (AV.asI .i64 w39).bind fun n40 =>
 some ((.tup [(.agg [(.sl l28.1 l28.2), (.i .u64 n30), (.i .u64 n32), (.i .u64 n34), (.i .u64 n36), (.i .i64 n38), (.i .i64 n40)]), (.i .i64 0), (.i .i64 1)]), σ26)
 else (bif (decide (n8 > 4194304)) then
 (σ11.ld (.n σ.next) 0).bind fun w41 =>
 (AV.asSl w41).bind fun l42 =>
 (σ11.ld (.n σ.next) 1).bind fun w43 =>
 (AV.asI .u64 w43).bind fun n44 =>
 (σ11.ld (.n σ.next) 2).bind fun w45 =>
 (AV.asI .u64 w45).bind fun n46 =>
 (σ11.ld (.n σ.next) 3).bind fun w47 =>
 (AV.asI .u64 w47).bind fun n48 =>
 (σ11.ld (.n σ.next) 4).bind fun w49 =>
 (AV.asI .u64 w49).bind fun n50 =>
 (σ11.ld (.n σ.next) 5).bind fun w51 =>
 (AV.asI .i64 w51).bind fun n52 =>
 (σ11.ld (.n σ.next) 6).bind fun w53 =>
 (AV.asI .i64 w53).bind fun n54 =>
 (σ11.st (.n (σ.next + 1)) 0 [(.sl l42.1 l42.2), (.i .u64 n44), (.i .u64 n46), (.i .u64 n48), (.i .u64 n50), (.i .i64 n52), (.i .i64 n54)]).bind fun σ55 =>
 (σ55.ld (.n (σ.next + 1)) 0).bind fun w56 =>
 (AV.asSl w56).bind fun l57 =>
 (σ55.ld (.n (σ.next + 1)) 1).bind fun w58 =>
 (AV.asI .u64 w58).bind fun n59 =>
 (σ55.ld (.n (σ.next + 1)) 2).bind fun w60 =>
 (AV.asI .u64 w60).bind fun n61 =>
 (σ55.ld (.n (σ.next + 1)) 3).bind fun w62 =>
 (AV.asI .u64 w62).bind fun n63 =>
 (σ55.ld (.n (σ.next + 1)) 4).bind fun w64 =>
 (AV.asI .u64 w64).bind fun n65 =>
 (σ55.ld (.n (σ.next + 1)) 5).bind fun w66 =>
 (AV.asI .i64 w66).bind fun n67 =>
 (σ55.ld (.n (σ.next + 1)) 6).bind fun w68 =>
 (AV.asI .i64 w68).bind fun n69 =>
 some ((.tup [(.agg [(.sl l57.1 l57.2), (.i .u64 n59), (.i .u64 n61), (.i .u64 n63), (.i .u64 n65), (.i .i64 n67), (.i .i64 n69)]), (.i .i64 0), (.i .i64 7)]), σ55)
 else (σ11.ld (.n σ.next) 0).bind fun w70 =>
 (AV.asSl w70).bind fun l71 =>
 (σ11.ld (.n σ.next) 1).bind fun w72 =>
 (AV.asI .u64 w72).bind fun n73 =>
 (σ11.ld (.n σ.next) 2).bind fun w74 =>
 (AV.asI .u64 w74).bind fun n75 =>
 (σ11.ld (.n σ.next) 3).bind fun w76 =>
 (AV.asI .u64 w76).bind fun n77 =>
 (σ11.ld (.n σ.next) 4).bind fun w78 =>
 (AV.asI .u64 w78).bind fun n79 =>
 (σ11.ld (.n σ.next) 5).bind fun w80 =>
 (AV.asI .i64 w80).bind fun n81 =>
 (σ11.ld (.n σ.next) 6).bind fun w82 =>
 (AV.asI .i64 w82).bind fun n83 =>
 (k56 [(.agg [(.sl l71.1 l71.2), (.i .u64 n73), (.i .u64 n75), (.i .u64 n77), (.i .u64 n79), (.i .i64 n81), (.i .i64 n83)])] σ11).bind fun r84 =>
 (AV.asI .i64 r84.1).bind fun n85 =>
 (bif (decide (n85 ≥ 262144)) then
 (r84.2.ld (.n σ.next) 0).bind fun w86 =>
 (AV.asSl w86).bind fun l87 =>
 (r84.2.ld (.n σ.next) 1).bind fun w88 =>
 (AV.asI .u64 w88).bind fun n89 =>
 (r84.2.ld (.n σ.next) 2).bind fun w90 =>
 (AV.asI .u64 w90).bind fun n91 =>
 (r84.2.ld (.n σ.next) 3).bind fun w92 =>
 (AV.asI .u64 w92).bind fun n93 =>
 (r84.2.ld (.n σ.next) 4).bind fun w94 =>
 (AV.asI .u64 w94).bind fun n95 =>
 (r84.2.ld (.n σ.next) 5).bind fun w96 =>
 (AV.asI .i64 w96).bind fun n97 =>
 (r84.2.ld (.n σ.next) 6).bind fun w98 =>
 (AV.asI .i64 w98).bind fun n99 =>
 (r84.2.st (.n (σ.next + 1)) 0 [(.sl l87.1 l87.2), (.i .u64 n89), (.i .u64 n91), (.i .u64 n93), (.i .u64 n95), (.i .i64 n97), (.i .i64 n99)]).bind fun σ100 =>
 (σ100.ld (.n (σ.next + 1)) 0).bind fun w101 =>
 (AV.asSl w101).bind fun l102 =>
 (σ100.ld (.n (σ.next + 1)) 1).bind fun w103 =>
 (AV.asI .u64 w103).bind fun n104 =>
 (σ100.ld (.n (σ.next + 1)) 2).bind fun w105 =>
 (AV.asI .u64 w105).bind fun n106 =>
 (σ100.ld (.n (σ.next + 1)) 3).bind fun w107 =>
 (AV.asI .u64 w107).bind fun n108 =>
 (σ100.ld (.n (σ.next + 1)) 4).bind fun w109 =>
 (AV.asI .u64 w109).bind fun n110 =>
 (σ100.ld (.n (σ.next + 1)) 5).bind fun w111 =>
 (AV.asI .i64 w111).bind fun n112 =>
 (σ100.ld (.n (σ.next + 1)) 6).bind fun w113 =>
 (AV.asI .i64 w113).bind fun n114 =>
 some ((.tup [(.agg [(.sl l102.1 l102.2), (.i .u64 n104), (.i .u64 n106), (.i .u64 n108), (.i .u64 n110), (.i .i64 n112), (.i .i64 n114)]), (.i .i64 0), (.i .i64 3)]), σ100)
 else (r84.2.ld (.n σ.next) 0).bind fun w115 =>
 (AV.asSl w115).bind fun l116 =>
 (r84.2.ld (.n σ.next) 1).bind fun w117 =>
 (AV.asI .u64 w117).bind fun n118 =>
 (r84.2.ld (.n σ.next) 2).bind fun w119 =>
 (AV.asI .u64 w119).bind fun n120 =>
 (r84.2.ld (.n σ.next) 3).bind fun w121 =>
 (AV.asI .u64 w121).bind fun n122 =>
 (r84.2.ld (.n σ.next) 4).bind fun w123 =>
 (AV.asI .u64 w123).bind fun n124 =>
 (r84.2.ld (.n σ.next) 5).bind fun w125 =>
 (AV.asI .i64 w125).bind fun n126 =>
 (r84.2.ld (.n σ.next) 6).bind fun w127 =>
 (AV.asI .i64 w127).bind fun n128 =>
 (k158 [(.agg [(.sl l116.1 l116.2), (.i .u64 n118), (.i .u64 n120), (.i .u64 n122), (.i .u64 n124), (.i .i64 n126), (.i .i64 n128)])] r84.2).bind fun r129 =>
 (AV.asAgg 7 r129.1).bind fun c130 =>
 (AV.asSl (c130.getD 0 .u)).bind fun l131 =>
 (AV.asI .u64 (c130.getD 1 .u)).bind fun n132 =>
 (AV.asI .u64 (c130.getD 2 .u)).bind fun n133 =>
 (AV.asI .u64 (c130.getD 3 .u)).bind fun n134 =>
 (AV.asI .u64 (c130.getD 4 .u)).bind fun n135 =>
 (AV.asI .i64 (c130.getD 5 .u)).bind fun n136 =>
 (AV.asI .i64 (c130.getD 6 .u)).bind fun n137 =>
 (r129.2.st (.n σ.next) 0 [(.sl l131.1 l131.2), (.i .u64 n132), (.i .u64 n133), (.i .u64 n134), (.i .u64 n135), (.i .i64 n136), (.i .i64 n137)]).bind fun σ138 =>
 (loopF (S := List AV × AH O) (T := List AV × AH O) (haymowref08_Open_L1 σ) ([(.i .i64 0)], σ138)).bind fun r150 =>
 (AV.asI .i64 (r150.1.getD 0 .u)).bind fun n151 =>
 (r150.2.ld (.n σ.next) 0).bind fun w152 =>
 (AV.asSl w152).bind fun l153 =>
 ((bif ((n151 : Int) == (l153.2 : Int)) then
 let σ154 := r150.2.bump 2
 (σ154.ld (.n σ.next) 0).bind fun w155 =>
 (AV.asSl w155).bind fun l156 =>
 let σ157 := σ154.put r150.2.next (.cells true 210 [(.b false), (.sl .nil 0)])
 (σ157.rdSl (.loc (.n r150.2.next) 0 2) 1 2).bind fun new158 =>
 (bif (Nat.ble ((l156.2 + 1) * 33) 35184372088832) then
 (σ157.appSl (r150.2.next + 1) 210 2 l156.1 l156.2 1 new158).bind fun r159 =>
 (AV.asSl r159.1).bind fun l160 =>
 (r159.2.st (.n σ.next) 0 [(.sl l160.1 l160.2)]).bind fun σ161 =>
 some ([], σ161)
 else none)
 else some ([], r150.2)) : Option (List AV × AH O)).bind fun r162 =>
 let σ163 := r162.2.bump 1
 (σ163.ld (.n σ.next) 0).bind fun w164 =>
 (AV.asSl w164).bind fun l165 =>
 (bif ((((decide ((0 : Int) ≤ n8)) && (decide (n8 ≤ n8))) && (decide ((n8 * 8) ≤ 140737488355328))) && (decide (n8 ≤ 140737488355328))) then
 let σ166 := σ163.put r162.2.next (.cells true 22 ((List.replicate n8.toNat [(.i .u64 0)]).flatten))
 (bif ((decide ((0 : Int) ≤ n151)) && (decide (n151 < (l165.2 : Int)))) then
 (SA.ref l165.1).bind fun q167 =>
 (σ166.st q167.1 (q167.2 + (n151.toNat * 2)) [(.b true), (.sl (.loc (.n r162.2.next) 0 1) n8.toNat)]).bind fun σ168 =>
 (σ168.ld (.n σ.next) 1).bind fun w169 =>
 (AV.asI .u64 w169).bind fun n170 =>
 (σ168.ld (.n σ.next) 2).bind fun w171 =>
 (AV.asI .u64 w171).bind fun n172 =>
 (σ168.ld (.n σ.next) 3).bind fun w173 =>
 (AV.asI .u64 w173).bind fun n174 =>
 (σ168.ld (.n σ.next) 4).bind fun w175 =>
 (AV.asI .u64 w175).bind fun n176 =>
 (σ168.ld (.n σ.next) 5).bind fun w177 =>
 (AV.asI .i64 w177).bind fun n178 =>
 (σ168.ld (.n σ.next) 6).bind fun w179 =>
 (AV.asI .i64 w179).bind fun n180 =>
 (k159 [(.agg [(.i .u64 n170), (.i .u64 n172), (.i .u64 n174), (.i .u64 n176), (.i .i64 n178), (.i .i64 n180)]), (.i .i64 n8)] σ168).bind fun r181 =>
 (AV.asTup 2 r181.1).bind fun c182 =>
 (AV.asAgg 6 (c182.getD 0 .u)).bind fun c183 =>
 (AV.asI .u64 (c183.getD 0 .u)).bind fun n184 =>
 (AV.asI .u64 (c183.getD 1 .u)).bind fun n185 =>
 (AV.asI .u64 (c183.getD 2 .u)).bind fun n186 =>
 (AV.asI .u64 (c183.getD 3 .u)).bind fun n187 =>
 (AV.asI .i64 (c183.getD 4 .u)).bind fun n188 =>
 (AV.asI .i64 (c183.getD 5 .u)).bind fun n189 =>
 (AV.asI .i64 (c182.getD 1 .u)).bind fun n190 =>
 (r181.2.st (.n σ.next) 1 [(.i .u64 n184), (.i .u64 n185), (.i .u64 n186), (.i .u64 n187), (.i .i64 n188), (.i .i64 n189)]).bind fun σ191 =>
 (σ191.ld (.n σ.next) 0).bind fun w192 =>
 (AV.asSl w192).bind fun l193 =>
 (σ191.ld (.n σ.next) 1).bind fun w194 =>
 (AV.asI .u64 w194).bind fun n195 =>
 (σ191.ld (.n σ.next) 2).bind fun w196 =>
 (AV.asI .u64 w196).bind fun n197 =>
 (σ191.ld (.n σ.next) 3).bind fun w198 =>
 (AV.asI .u64 w198).bind fun n199 =>
 (σ191.ld (.n σ.next) 4).bind fun w200 =>
 (AV.asI .u64 w200).bind fun n201 =>
 (σ191.ld (.n σ.next) 5).bind fun w202 =>
 (AV.asI .i64 w202).bind fun n203 =>
 (σ191.ld (.n σ.next) 6).bind fun w204 =>
 (AV.asI .i64 w204).bind fun n205 =>
 (σ191.st (.n (σ.next + 1)) 0 [(.sl l193.1 l193.2), (.i .u64 n195), (.i .u64 n197), (.i .u64 n199), (.i .u64 n201), (.i .i64 n203), (.i .i64 n205)]).bind fun σ206 =>
 (σ206.ld (.n (σ.next + 1)) 0).bind fun w207 =>
 (AV.asSl w207).bind fun l208 =>
 (σ206.ld (.n (σ.next + 1)) 1).bind fun w209 =>
 (AV.asI .u64 w209).bind fun n210 =>
 (σ206.ld (.n (σ.next + 1)) 2).bind fun w211 =>
 (AV.asI .u64 w211).bind fun n212 =>
 (σ206.ld (.n (σ.next + 1)) 3).bind fun w213 =>
 (AV.asI .u64 w213).bind fun n214 =>
 (σ206.ld (.n (σ.next + 1)) 4).bind fun w215 =>
 (AV.asI .u64 w215).bind fun n216 =>
 (σ206.ld (.n (σ.next + 1)) 5).bind fun w217 =>
 (AV.asI .i64 w217).bind fun n218 =>
 (σ206.ld (.n (σ.next + 1)) 6).bind fun w219 =>
 (AV.asI .i64 w219).bind fun n220 =>
 some ((.tup [(.agg [(.sl l208.1 l208.2), (.i .u64 n210), (.i .u64 n212), (.i .u64 n214), (.i .u64 n216), (.i .i64 n218), (.i .i64 n220)]), (.i .i64 n151), (.i .i64 0)]), σ206)
 else none)
 else none))))
 else none
noncomputable def haymowref08_Open {O : Type} : Sm O := frz (haymowref08_Open_c haymowref08_Count haymowref08_copied haymowref07_Hold)
theorem haymowref08_Open_ent : Entered Try.prog 117 := Try.call117
theorem haymowref08_Open_run {O : Type} (k56 k158 k159 : Sm O) : run (O := O) Try.prog [(56, k56), (158, k158), (159, k159)] Try.f117 (.n .z (.n (.n (.n .z (.n .z (.n .z (.n .z (.n .z (.n .z .z)))))) .z) (.n .z (.n .z (.n (.n (.lp false 1 [(7, .one (.i .i64))] [(7, .one (.i .i64))] (.n (.n (.g [(5, 6, [(35, .one .b)])]) .z) .z)) .z) (.n (.n .z (.j false [] .z .z)) (.n (.d [] [0, 1, 2, 3, 4, 5, 6, 7] [0, 1, 0, 0, 8, 24, 63, 127]) (.n .z .z)))))))) = haymowref08_Open_c k56 k158 k159 := by kernel_rfl
theorem haymowref08_Open_sound {O : Type} {RO : O → Loc → (Nat → Option Obj) → Prop} : FSound RO Try.prog 117 (haymowref08_Open) :=
   have h : FSound RO Try.prog 117 (haymowref08_Open_c haymowref08_Count haymowref08_copied haymowref07_Hold) := (haymowref08_Open_run haymowref08_Count haymowref08_copied haymowref07_Hold) ▸ run_sound (gcons haymowref08_Count_ent (haymowref08_Count_sound) <| gcons haymowref08_copied_ent (haymowref08_copied_sound) <| gcons haymowref07_Hold_ent (haymowref07_Hold_sound) <| gnil) mixed Try.func117 (by kernel_rfl) _
   h.frz

/-- (*haymow/meter.Meter).Free -/
noncomputable def meter_Meter__Free_c {O : Type} : Sm O := fun xs σ =>
 bif Nat.beq xs.length 2 then
 (AV.asP (xs.getD 0 .u)).bind fun p0 =>
 (AV.asI .i64 (xs.getD 1 .u)).bind fun n1 =>
 ((bif ((Option.isNone p0) == false) then
 some ([(.b (decide (n1 < 0)))], σ)
 else some ([(.b true)], σ)) : Option (List AV × AH O)).bind fun r2 =>
 (AV.asB (r2.1.getD 0 .u)).bind fun b3 =>
 (bif b3 then
 some ((.i .i64 1), r2.2)
 else Option.bind p0 fun q4 =>
 (r2.2.ld q4.1 (q4.2 + 4)).bind fun w5 =>
 (AV.asI .i64 w5).bind fun n6 =>
 (bif (decide (n1 > n6)) then
 some ((.i .i64 4), r2.2)
 else Option.bind p0 fun q7 =>
 (r2.2.ld q7.1 (q7.2 + 4)).bind fun w8 =>
 (AV.asI .i64 w8).bind fun n9 =>
 Option.bind p0 fun q10 =>
 (r2.2.st q10.1 (q10.2 + 4) [(.i .i64 (IntKind.i64.wrap (n9 - n1)))]).bind fun σ11 =>
 some ((.i .i64 0), σ11)))
 else none
noncomputable def meter_Meter__Free {O : Type} : Sm O := meter_Meter__Free_c
theorem meter_Meter__Free_ent : Entered Try.prog 109 := Try.call109
theorem meter_Meter__Free_run {O : Type} : run (O := O) Try.prog [] Try.f109 (.n .z (.n (.n (.n (.g [(2, 2, [(11, .one .b)])]) (.n .z (.n .z (.n .z .z)))) .z) (.n .z .z))) = meter_Meter__Free_c  := by kernel_rfl
theorem meter_Meter__Free_sound {O : Type} {RO : O → Loc → (Nat → Option Obj) → Prop} : FSound RO Try.prog 109 (meter_Meter__Free) :=
   have h : FSound RO Try.prog 109 (meter_Meter__Free_c) := (meter_Meter__Free_run) ▸ run_sound (gnil) mixed Try.func109 (by kernel_rfl) _
   h

/-- (*haymow/mem.Mem).Close -/
noncomputable def mem_Mem__Close_c {O : Type} (k108 k109 : Sm O) : Sm O := fun xs σ =>
 bif Nat.beq xs.length 2 then
 (AV.asP (xs.getD 0 .u)).bind fun p0 =>
 (AV.asI .i64 (xs.getD 1 .u)).bind fun n1 =>
 (k108 [(.p p0), (.i .i64 n1)] σ).bind fun r2 =>
 (AV.asP r2.1).bind fun p3 =>
 (bif (Option.isNone p3) then
 some ((.i .i64 10), r2.2)
 else Option.bind p0 fun q4 =>
 (r2.2.ld q4.1 q4.2).bind fun w5 =>
 (AV.asP w5).bind fun p6 =>
 Option.bind p3 fun q7 =>
 (r2.2.ld q7.1 q7.2).bind fun w8 =>
 (AV.asSl w8).bind fun l9 =>
 (k109 [(.p p6), (.i .i64 (l9.2 : Int))] r2.2).bind fun r10 =>
 (AV.asI .i64 r10.1).bind fun n11 =>
 Option.bind p3 fun q12 =>
 (r10.2.st q12.1 q12.2 [(.sl .nil 0), (.b false)]).bind fun σ13 =>
 Option.bind p0 fun q14 =>
 (σ13.ld q14.1 (q14.2 + 2)).bind fun w15 =>
 (AV.asI .i64 w15).bind fun n16 =>
 Option.bind p0 fun q17 =>
 (σ13.ld q17.1 (q17.2 + 3)).bind fun w18 =>
 (AV.asI .i64 w18).bind fun n19 =>
 Option.bind p0 fun q20 =>
 (σ13.st q20.1 (q20.2 + 2) [(.i .i64 (if n1 < n16 then n1 else n16))]).bind fun σ21 =>
 Option.bind p0 fun q22 =>
 (σ21.st q22.1 (q22.2 + 3) [(.i .i64 (IntKind.i64.wrap (n19 - 1)))]).bind fun σ23 =>
 some ((.i .i64 0), σ23))
 else none
noncomputable def mem_Mem__Close {O : Type} : Sm O := mem_Mem__Close_c mem_Mem__at meter_Meter__Free
theorem mem_Mem__Close_ent : Entered Try.prog 39 := Try.call39
theorem mem_Mem__Close_run {O : Type} (k108 k109 : Sm O) : run (O := O) Try.prog [(108, k108), (109, k109)] Try.f39 (.n .z (.n .z (.n (.n .z (.n .z .z)) (.n (.d [] [0, 1, 2, 3, 4, 5, 6, 7, 8, 9] [0, 1, 3, 7, 0, 16, 48, 112, 240, 511]) (.n .z (.n (.d [] [0, 1, 2, 3, 4, 5, 6, 7, 8, 9, 10, 11, 12, 13, 14, 15, 16, 17, 18] [0, 0, 0, 4, 12, 28, 0, 124, 0, 256, 768, 1792, 3840, 4093, 12285, 28669, 65535, 131071, 262143]) .z)))))) = mem_Mem__Close_c k108 k109 := by kernel_rfl
theorem mem_Mem__Close_sound {O : Type} {RO : O → Loc → (Nat → Option Obj) → Prop} : FSound RO Try.prog 39 (mem_Mem__Close) :=
   have h : FSound RO Try.prog 39 (mem_Mem__Close_c mem_Mem__at meter_Meter__Free) := (mem_Mem__Close_run mem_Mem__at meter_Meter__Free) ▸ run_sound (gcons mem_Mem__at_ent (mem_Mem__at_sound) <| gcons meter_Meter__Free_ent (meter_Meter__Free_sound) <| gnil) mixed Try.func39 (by kernel_rfl) _
   h

/-- haymow/haymowref08.Is -/
noncomputable def haymowref08_Is_c {O : Type} : Sm O := fun xs σ =>
 bif Nat.beq xs.length 2 then
 (AV.asAgg 7 (xs.getD 0 .u)).bind fun c0 =>
 (AV.asSl (c0.getD 0 .u)).bind fun l1 =>
 (AV.asI .u64 (c0.getD 1 .u)).bind fun n2 =>
 (AV.asI .u64 (c0.getD 2 .u)).bind fun n3 =>
 (AV.asI .u64 (c0.getD 3 .u)).bind fun n4 =>
 (AV.asI .u64 (c0.getD 4 .u)).bind fun n5 =>
 (AV.asI .i64 (c0.getD 5 .u)).bind fun n6 =>
 (AV.asI .i64 (c0.getD 6 .u)).bind fun n7 =>
 (AV.asI .i64 (xs.getD 1 .u)).bind fun n8 =>
 let σ9 := σ.bump 1
 let σ10 := σ9.put σ.next (.cells true 89 [(.sl l1.1 l1.2), (.i .u64 n2), (.i .u64 n3), (.i .u64 n4), (.i .u64 n5), (.i .i64 n6), (.i .i64 n7)])
 ((bif ((decide (n8 ≥ 0)) == true) then
 (σ10.ld (.n σ.next) 0).bind fun w11 =>
 (AV.asSl w11).bind fun l12 =>
 some ([(.b (decide (n8 < (l12.2 : Int))))], σ10)
 else some ([(.b false)], σ10)) : Option (List AV × AH O)).bind fun r13 =>
 (AV.asB (r13.1.getD 0 .u)).bind fun b14 =>
 ((bif (b14 == true) then
 (r13.2.ld (.n σ.next) 0).bind fun w15 =>
 (AV.asSl w15).bind fun l16 =>
 (bif ((decide ((0 : Int) ≤ n8)) && (decide (n8 < (l16.2 : Int)))) then
 (SA.ref l16.1).bind fun q17 =>
 (r13.2.ld q17.1 (q17.2 + (n8.toNat * 2))).bind fun w18 =>
 (AV.asB w18).bind fun b19 =>
 some ([(.b b19)], r13.2)
 else none)
 else some ([(.b false)], r13.2)) : Option (List AV × AH O)).bind fun r20 =>
 (AV.asB (r20.1.getD 0 .u)).bind fun b21 =>
 some ((.b b21), r20.2)
 else none
noncomputable def haymowref08_Is {O : Type} : Sm O := haymowref08_Is_c
theorem haymowref08_Is_ent : Entered Try.prog 126 := Try.call126
theorem haymowref08_Is_run {O : Type} : run (O := O) Try.prog [] Try.f126 (.n .z (.n (.g [(2, 5, [(13, .one .b)]), (9, 6, [(21, .one .b)])]) .z)) = haymowref08_Is_c  := by kernel_rfl
theorem haymowref08_Is_sound {O : Type} {RO : O → Loc → (Nat → Option Obj) → Prop} : FSound RO Try.prog 126 (haymowref08_Is) :=
   have h : FSound RO Try.prog 126 (haymowref08_Is_c) := (haymowref08_Is_run) ▸ run_sound (gnil) mixed Try.func126 (by kernel_rfl) _
   h

/-- haymow/haymowref07.Free -/
noncomputable def haymowref07_Free_c {O : Type} : Sm O := fun xs σ =>
 bif Nat.beq xs.length 2 then
 (AV.asAgg 6 (xs.getD 0 .u)).bind fun c0 =>
 (AV.asI .u64 (c0.getD 0 .u)).bind fun n1 =>
 (AV.asI .u64 (c0.getD 1 .u)).bind fun n2 =>
 (AV.asI .u64 (c0.getD 2 .u)).bind fun n3 =>
 (AV.asI .u64 (c0.getD 3 .u)).bind fun n4 =>
 (AV.asI .i64 (c0.getD 4 .u)).bind fun n5 =>
 (AV.asI .i64 (c0.getD 5 .u)).bind fun n6 =>
 (AV.asI .i64 (xs.getD 1 .u)).bind fun n7 =>
 let σ8 := σ.bump 2
 let σ9 := σ8.put σ.next (.cells true 87 [(.i .u64 n1), (.i .u64 n2), (.i .u64 n3), (.i .u64 n4), (.i .i64 n5), (.i .i64 n6)])
 let σ10 := σ9.put (σ.next + 1) (.cells true 87 [(.i .u64 0), (.i .u64 0), (.i .u64 0), (.i .u64 0), (.i .i64 0), (.i .i64 0)])
 (bif (decide (n7 < 0)) then
 (σ10.ld (.n σ.next) 0).bind fun w11 =>
 (AV.asI .u64 w11).bind fun n12 =>
 (σ10.ld (.n σ.next) 1).bind fun w13 =>
 (AV.asI .u64 w13).bind fun n14 =>
 (σ10.ld (.n σ.next) 2).bind fun w15 =>
 (AV.asI .u64 w15).bind fun n16 =>
 (σ10.ld (.n σ.next) 3).bind fun w17 =>
 (AV.asI .u64 w17).bind fun n18 =>
 (σ10.ld (.n σ.next) 4).bind fun w19 =>
 (AV.asI .i64 w19).bind fun n20 =>
 (σ10.ld (.n σ.next) 5).bind fun w21 =>
 (AV.asI .i64 w21).bind fun n22 =>
 (σ10.st (.n (σ.next + 1)) 0 [(.i .u64 n12), (.i .u64 n14), (.i .u64 n16), (.i .u64 n18), (.i .i64 n20), (.i .i64 n22)]).bind fun σ23 =>
 (σ23.ld (.n (σ.next + 1)) 0).bind fun w24 =>
 (AV.asI .u64 w24).bind fun n25 =>
 (σ23.ld (.n (σ.next + 1)) 1).bind fun w26 =>
 (AV.asI .u64 w26).bind fun n27 =>
 (σ23.ld (.n (σ.next + 1)) 2).bind fun w28 =>
 (AV.asI .u64 w28).bind fun n29 =>
 (σ23.ld (.n (σ.next + 1)) 3).bind fun w30 =>
 (AV.asI .u64 w30).bind fun n31 =>
 (σ23.ld (.n (σ.next + 1)) 4).bind fun w32 =>
 (AV.asI .i64 w32).bind fun n33 =>
 (σ23.ld (.n (σ.next + 1)) 5).bind fun w34 =>
 (AV.asI .i64 w34).bind fun n35 =>
 some ((.tup [(.agg [(.i .u64 n25), (.i .u64 n27), (.i .u64 n29), (.i .u64 n31), (.i .i64 n33), (.i .i64 n35)]), (.i .i64 1)]), σ23)
 else (σ10.ld (.n σ.next) 4).bind fun w36 =>
 (AV.asI .i64 w36).bind fun n37 =>
 (bif (decide (n7 > n37)) then
 (σ10.ld (.n σ.next) 0).bind fun w38 =>
 (AV.asI .u64 w38).bind fun n39 =>
 (σ10.ld (.n σ.next) 1).bind fun w40 =>
 (AV.asI .u64 w40).bind fun n41 =>
 (σ10.ld (.n σ.next) 2).bind fun w42 =>
 (AV.asI .u64 w42).bind fun n43 =>
 (σ10.ld (.n σ.next) 3).bind fun w44 =>
 (AV.asI .u64 w44).bind fun n45 =>
 (σ10.ld (.n σ.next) 4).bind fun w46 =>
 (AV.asI .i64 w46).bind fun n47 =>
 (σ10.ld (.n σ.next) 5).bind fun w48 =>
 (AV.asI .i64 w48).bind fun n49 =>
 (σ10.st (.n (σ.next + 1)) 0 [(.i .u64 n39), (.i .u64 n41), (.i .u64 n43), (.i .u64 n45), (.i .i64 n47), (.i .i64 n49)]).bind fun σ50 =>
 (σ50.ld (.n (σ.next + 1)) 0).bind fun w51 =>
 (AV.asI .u64 w51).bind fun n52 =>
 (σ50.ld (.n (σ.next + 1)) 1).bind fun w53 =>
 (AV.asI .u64 w53).bind fun n54 =>
 (σ50.ld (.n (σ.next + 1)) 2).bind fun w55 =>
 (AV.asI .u64 w55).bind fun n56 =>
 (σ50.ld (.n (σ.next + 1)) 3).bind fun w57 =>
 (AV.asI .u64 w57).bind fun n58 =>
 (σ50.ld (.n (σ.next + 1)) 4).bind fun w59 =>
 (AV.asI .i64 w59).bind fun n60 =>
 (σ50.ld (.n (σ.next + 1)) 5).bind fun w61 =>
 (AV.asI .i64 w61).bind fun n62 =>
 some ((.tup [(.agg [(.i .u64 n52), (.i .u64 n54), (.i .u64 n56), (.i .u64 n58), (.i .i64 n60), (.i .i64 n62)]), (.i .i64 4)]), σ50)
 else (σ10.ld (.n σ.next) 4).bind fun w63 =>
 (AV.asI .i64 w63).bind fun n64 =>
 (σ10.st (.n σ.next) 4 [(.i .i64 (IntKind.i64.wrap (n64 - n7)))]).bind fun σ65 =>
 (σ65.ld (.n σ.next) 0).bind fun w66 =>
 (AV.asI .u64 w66).bind fun n67 =>
 (σ65.ld (.n σ.next) 1).bind fun w68 =>
 (AV.asI .u64 w68).bind fun n69 =>
 (σ65.ld (.n σ.next) 2).bind fun w70 =>
 (AV.asI .u64 w70).bind fun n71 =>
 (σ65.ld (.n σ.next) 3).bind fun w72 =>
 (AV.asI .u64 w72).bind fun n73 =>
 (σ65.ld (.n σ.next) 4).bind fun w74 =>
 (AV.asI .i64 w74).bind fun n75 =>
 (σ65.ld (.n σ.next) 5).bind fun w76 =>
 (AV.asI .i64 w76).bind fun n77 =>
 (σ65.st (.n (σ.next + 1)) 0 [(.i .u64 n67), (.i .u64 n69), (.i .u64 n71), (.i .u64 n73), (.i .i64 n75), (.i .i64 n77)]).bind fun σ78 =>
 (σ78.ld (.n (σ.next + 1)) 0).bind fun w79 =>
 (AV.asI .u64 w79).bind fun n80 =>
 (σ78.ld (.n (σ.next + 1)) 1).bind fun w81 =>
 (AV.asI .u64 w81).bind fun n82 =>
 (σ78.ld (.n (σ.next + 1)) 2).bind fun w83 =>
 (AV.asI .u64 w83).bind fun n84 =>
 (σ78.ld (.n (σ.next + 1)) 3).bind fun w85 =>
 (AV.asI .u64 w85).bind fun n86 =>
 (σ78.ld (.n (σ.next + 1)) 4).bind fun w87 =>
 (AV.asI .i64 w87).bind fun n88 =>
 (σ78.ld (.n (σ.next + 1)) 5).bind fun w89 =>
 (AV.asI .i64 w89).bind fun n90 =>
 some ((.tup [(.agg [(.i .u64 n80), (.i .u64 n82), (.i .u64 n84), (.i .u64 n86), (.i .i64 n88), (.i .i64 n90)]), (.i .i64 0)]), σ78)))
 else none
noncomputable def haymowref07_Free {O : Type} : Sm O := haymowref07_Free_c
theorem haymowref07_Free_ent : Entered Try.prog 160 := Try.call160
theorem haymowref07_Free_run {O : Type} : run (O := O) Try.prog [] Try.f160 (.n .z (.n (.n .z (.n .z .z)) (.n (.n .z (.n .z .z)) (.n .z .z)))) = haymowref07_Free_c  := by kernel_rfl
theorem haymowref07_Free_sound {O : Type} {RO : O → Loc → (Nat → Option Obj) → Prop} : FSound RO Try.prog 160 (haymowref07_Free) :=
   have h : FSound RO Try.prog 160 (haymowref07_Free_c) := (haymowref07_Free_run) ▸ run_sound (gnil) mixed Try.func160 (by kernel_rfl) _
   h

/-- haymow/haymowref08.Close -/
noncomputable def haymowref08_Close_c {O : Type} (k126 k158 k160 : Sm O) : Sm O := fun xs σ =>
 bif Nat.beq xs.length 2 then
 (AV.asAgg 7 (xs.getD 0 .u)).bind fun c0 =>
 (AV.asSl (c0.getD 0 .u)).bind fun l1 =>
 (AV.asI .u64 (c0.getD 1 .u)).bind fun n2 =>
 (AV.asI .u64 (c0.getD 2 .u)).bind fun n3 =>
 (AV.asI .u64 (c0.getD 3 .u)).bind fun n4 =>
 (AV.asI .u64 (c0.getD 4 .u)).bind fun n5 =>
 (AV.asI .i64 (c0.getD 5 .u)).bind fun n6 =>
 (AV.asI .i64 (c0.getD 6 .u)).bind fun n7 =>
 (AV.asI .i64 (xs.getD 1 .u)).bind fun n8 =>
 let σ9 := σ.bump 2
 let σ10 := σ9.put σ.next (.cells true 89 [(.sl l1.1 l1.2), (.i .u64 n2), (.i .u64 n3), (.i .u64 n4), (.i .u64 n5), (.i .i64 n6), (.i .i64 n7)])
 let σ11 := σ10.put (σ.next + 1) (.cells true 89 [(.sl .nil 0), (.i .u64 0), (.i .u64 0), (.i .u64 0), (.i .u64 0), (.i .i64 0), (.i .i64 0)])
 (σ11.ld (.n σ.next) 0).bind fun w12 =>
 (AV.asSl w12).bind fun l13 =>
 (σ11.ld (.n σ.next) 1).bind fun w14 =>
 (AV.asI .u64 w14).bind fun n15 =>
 (σ11.ld (.n σ.next) 2).bind fun w16 =>
 (AV.asI .u64 w16).bind fun n17 =>
 (σ11.ld (.n σ.next) 3).bind fun w18 =>
 (AV.asI .u64 w18).bind fun n19 =>
 (σ11.ld (.n σ.next) 4).bind fun w20 =>
 (AV.asI .u64 w20).bind fun n21 =>
 (σ11.ld (.n σ.next) 5).bind fun w22 =>
 (AV.asI .i64 w22).bind fun n23 =>
 (σ11.ld (.n σ.next) 6).bind fun w24 =>
 (AV.asI .i64 w24).bind fun n25 =>
 (k126 [(.agg [(.sl l13.1 l13.2), (.i .u64 n15), (.i .u64 n17), (.i .u64 n19), (.i .u64 n21), (.i .i64 n23), (.i .i64 n25)]), (.i .i64 n8)] σ11).bind fun r26 =>
 (AV.asB r26.1).bind fun b27 =>
 (bif (!b27) then
 (r26.2.ld (.n σ.next) 0).bind fun w28 =>
 (AV.asSl w28).bind fun l29 =>
 (r26.2.ld (.n σ.next) 1).bind fun w30 =>
 (AV.asI .u64 w30).bind fun n31 =>
 (r26.2.ld (.n σ.next) 2).bind fun w32 =>
 (AV.asI .u64 w32).bind fun n33 =>
 (r26.2.ld (.n σ.next) 3).bind fun w34 =>
 (AV.asI .u64 w34).bind fun n35 =>
 (r26.2.ld (.n σ.next) 4).bind fun w36 =>
 (AV.asI .u64 w36).bind fun n37 =>
 (r26.2.ld (.n σ.next) 5).bind fun w38 =>
 (AV.asI .i64 w38).bind fun n39 =>
 (r26.2.ld (.n σ.next) 6).bind fun w40 =>
 (AV.asI .i64 w40).bind fun n41 =>
 (r26.2.st (.n (σ.next + 1)) 0 [(.sl l29.1 l29.2), (.i .u64 n31), (.i .u64 n33), (.i .u64 n35), (.i .u64 n37), (.i .i64 n39), (.i .i64 n41)]).bind fun σ42 =>
 (σ42.ld (.n (σ.next + 1)) 0).bind fun w43 =>
 (AV.asSl w43).bind fun l44 =>
 (σ42.ld (.n (σ.next + 1)) 1).bind fun w45 =>
 (AV.asI .u64 w45).bind fun n46 =>
 (σ42.ld (.n (σ.next + 1)) 2).bind fun w47 =>
 (AV.asI .u64 w47).bind fun n48 =>
 (σ42.ld (.n (σ.next + 1)) 3).bind fun w49 =>
 (AV.asI .u64 w49).bind fun n50 =>
 (σ42.ld (.n (σ.next + 1)) 4).bind fun w51 =>
 (AV.asI .u64 w51).bind fun n52 =>
 (σ42.ld (.n (σ.next + 1)) 5).bind fun w53 =>
 (AV.asI .i64 w53).bind fun n54 =>
 (σ42.ld (.n (σ.next + 1)) 6).bind fun w55 =>
 (AV.asI .i64 w55).bind fun n56 =>
 some ((.tup [(.agg [(.sl l44.1 l44.2), (.i .u64 n46), (.i .u64 n48), (.i .u64 n50), (.i .u64 n52), (.i .i64 n54), (.i .i64 n56)]), (.i .i64 10)]), σ42)
 else (r26.2.ld (.n σ.next) 0).bind fun w57 =>
 (AV.asSl w57).bind fun l58 =>
 (r26.2.ld (.n σ.next) 1).bind fun w59 =>
 (AV.asI .u64 w59).bind fun n60 =>
 (r26.2.ld (.n σ.next) 2).bind fun w61 =>
 (AV.asI .u64 w61).bind fun n62 =>
 (r26.2.ld (.n σ.next) 3).bind fun w63 =>
 (AV.asI .u64 w63).bind fun n64 =>
 (r26.2.ld (.n σ.next) 4).bind fun w65 =>
 (AV.asI .u64 w65).bind fun n66 =>
 (r26.2.ld (.n σ.next) 5).bind fun w67 =>
 (AV.asI .i64 w67).bind fun n68 =>
 (r26.2.ld (.n σ.next) 6).bind fun w69 =>
 (AV.asI .i64 w69).bind fun n70 =>
 (k158 [(.agg [(.sl l58.1 l58.2), (.i .u64 n60), (.i .u64 n62), (.i .u64 n64), (.i .u64 n66), (.i .i64 n68), (.i .i64 n70)])] r26.2).bind fun r71 =>
 (AV.asAgg 7 r71.1).bind fun c72 =>
 (AV.asSl (c72.getD 0 .u)).bind fun l73 =>
 (AV.asI .u64 (c72.getD 1 .u)).bind fun n74 =>
 (AV.asI .u64 (c72.getD 2 .u)).bind fun n75 =>
 (AV.asI .u64 (c72.getD 3 .u)).bind fun n76 =>
 (AV.asI .u64 (c72.getD 4 .u)).bind fun n77 =>
 (AV.asI .i64 (c72.getD 5 .u)).bind fun n78 =>
 (AV.asI .i64 (c72.getD 6 .u)).bind fun n79 =>
 (r71.2.st (.n σ.next) 0 [(.sl l73.1 l73.2), (.i .u64 n74), (.i .u64 n75), (.i .u64 n76), (.i .u64 n77), (.i .i64 n78), (.i .i64 n79)]).bind fun σ80 =>
 (σ80.ld (.n σ.next) 1).bind fun w81 =>
 (AV.asI .u64 w81).bind fun n82 =>
 (σ80.ld (.n σ.next) 2).bind fun w83 =>
 (AV.asI .u64 w83).bind fun n84 =>
 (σ80.ld (.n σ.next) 3).bind fun w85 =>
 (AV.asI .u64 w85).bind fun n86 =>
 (σ80.ld (.n σ.next) 4).bind fun w87 =>
 (AV.asI .u64 w87).bind fun n88 =>
 (σ80.ld (.n σ.next) 5).bind fun w89 =>
 (AV.asI .i64 w89).bind fun n90 =>
 (σ80.ld (.n σ.next) 6).bind fun w91 =>
 (AV.asI .i64 w91).bind fun n92 =>
 (σ80.ld (.n σ.next) 0).bind fun w93 =>
 (AV.asSl w93).bind fun l94 =>
 (bif ((decide ((0 : Int) ≤ n8)) && (decide (n8 < (l94.2 : Int)))) then
 (SA.ref l94.1).bind fun q95 =>
 (σ80.ld q95.1 ((q95.2 + (n8.toNat * 2)) + 1)).bind fun w96 =>
 (AV.asSl w96).bind fun l97 =>
 (k160 [(.agg [(.i .u64 n82), (.i .u64 n84), (.i .u64 n86), (.i .u64 n88), (.i .i64 n90), (.i .i64 n92)]), (.i .i64 (l97.2 : Int))] σ80).bind fun r98 =>
 (AV.asTup 2 r98.1).bind fun c99 =>
 (AV.asAgg 6 (c99.getD 0 .u)).bind fun c100 =>
 (AV.asI .u64 (c100.getD 0 .u)).bind fun n101 =>
 (AV.asI .u64 (c100.getD 1 .u)).bind fun n102 =>
 (AV.asI .u64 (c100.getD 2 .u)).bind fun n103 =>
 (AV.asI .u64 (c100.getD 3 .u)).bind fun n104 =>
 (AV.asI .i64 (c100.getD 4 .u)).bind fun n105 =>
 (AV.asI .i64 (c100.getD 5 .u)).bind fun n106 =>
 (AV.asI .i64 (c99.getD 1 .u)).bind fun n107 =>
 (r98.2.st (.n σ.next) 1 [(.i .u64 n101), (.i .u64 n102), (.i .u64 n103), (.i .u64 n104), (.i .i64 n105), (.i .i64 n106)]).bind fun σ108 =>
 (σ108.ld (.n σ.next) 0).bind fun w109 =>
 (AV.asSl w109).bind fun l110 =>
 (bif ((decide ((0 : Int) ≤ n8)) && (decide (n8 < (l110.2 : Int)))) then
 (SA.ref l110.1).bind fun q111 =>
 (σ108.st q111.1 (q111.2 + (n8.toNat * 2)) [(.b false), (.sl .nil 0)]).bind fun σ112 =>
 (σ112.ld (.n σ.next) 0).bind fun w113 =>
 (AV.asSl w113).bind fun l114 =>
 (σ112.ld (.n σ.next) 1).bind fun w115 =>
 (AV.asI .u64 w115).bind fun n116 =>
 (σ112.ld (.n σ.next) 2).bind fun w117 =>
 (AV.asI .u64 w117).bind fun n118 =>
 (σ112.ld (.n σ.next) 3).bind fun w119 =>
 (AV.asI .u64 w119).bind fun n120 =>
 (σ112.ld (.n σ.next) 4).bind fun w121 =>
 (AV.asI .u64 w121).bind fun n122 =>
 (σ112.ld (.n σ.next) 5).bind fun w123 =>
 (AV.asI .i64 w123).bind fun n124 =>
 (σ112.ld (.n σ.next) 6).bind fun w125 =>
 (AV.asI .i64 w125).bind fun n126 =>
 (σ112.st (.n (σ.next + 1)) 0 [(.sl l114.1 l114.2), (.i .u64 n116), (.i .u64 n118), (.i .u64 n120), (.i .u64 n122), (.i .i64 n124), (.i .i64 n126)]).bind fun σ127 =>
 (σ127.ld (.n (σ.next + 1)) 0).bind fun w128 =>
 (AV.asSl w128).bind fun l129 =>
 (σ127.ld (.n (σ.next + 1)) 1).bind fun w130 =>
 (AV.asI .u64 w130).bind fun n131 =>
 (σ127.ld (.n (σ.next + 1)) 2).bind fun w132 =>
 (AV.asI .u64 w132).bind fun n133 =>
 (σ127.ld (.n (σ.next + 1)) 3).bind fun w134 =>
 (AV.asI .u64 w134).bind fun n135 =>
 (σ127.ld (.n (σ.next + 1)) 4).bind fun w136 =>
 (AV.asI .u64 w136).bind fun n137 =>
 (σ127.ld (.n (σ.next + 1)) 5).bind fun w138 =>
 (AV.asI .i64 w138).bind fun n139 =>
 (σ127.ld (.n (σ.next + 1)) 6).bind fun w140 =>
 (AV.asI .i64 w140).bind fun n141 =>
 some ((.tup [(.agg [(.sl l129.1 l129.2), (.i .u64 n131), (.i .u64 n133), (.i .u64 n135), (.i .u64 n137), (.i .i64 n139), (.i .i64 n141)]), (.i .i64 0)]), σ127)
 else none)
 else none))
 else none
noncomputable def haymowref08_Close {O : Type} : Sm O := frz (haymowref08_Close_c haymowref08_Is haymowref08_copied haymowref07_Free)
theorem haymowref08_Close_ent : Entered Try.prog 118 := Try.call118
theorem haymowref08_Close_run {O : Type} (k126 k158 k160 : Sm O) : run (O := O) Try.prog [(126, k126), (158, k158), (160, k160)] Try.f118 (.n .z (.n (.n .z (.n .z .z)) (.n .z (.n (.d [] [0, 1, 2, 3, 4, 5, 6, 7, 8, 9, 10, 11, 12, 13, 14] [0, 1, 0, 4, 0, 28, 60, 124, 252, 511, 1023, 2047, 2047, 4095, 12287]) (.n .z .z))))) = haymowref08_Close_c k126 k158 k160 := by kernel_rfl
theorem haymowref08_Close_sound {O : Type} {RO : O → Loc → (Nat → Option Obj) → Prop} : FSound RO Try.prog 118 (haymowref08_Close) :=
   have h : FSound RO Try.prog 118 (haymowref08_Close_c haymowref08_Is haymowref08_copied haymowref07_Free) := (haymowref08_Close_run haymowref08_Is haymowref08_copied haymowref07_Free) ▸ run_sound (gcons haymowref08_Is_ent (haymowref08_Is_sound) <| gcons haymowref08_copied_ent (haymowref08_copied_sound) <| gcons haymowref07_Free_ent (haymowref07_Free_sound) <| gnil) mixed Try.func118 (by kernel_rfl) _
   h.frz

/-- haymow/haymowref08.Grow -/
noncomputable def haymowref08_Grow_c {O : Type} (k126 k158 k159 : Sm O) : Sm O := fun xs σ =>
 bif Nat.beq xs.length 3 then
 (AV.asAgg 7 (xs.getD 0 .u)).bind fun c0 =>
 (AV.asSl (c0.getD 0 .u)).bind fun l1 =>
 (AV.asI .u64 (c0.getD 1 .u)).bind fun n2 =>
 (AV.asI .u64 (c0.getD 2 .u)).bind fun n3 =>
 (AV.asI .u64 (c0.getD 3 .u)).bind fun n4 =>
 (AV.asI .u64 (c0.getD 4 .u)).bind fun n5 =>
 (AV.asI .i64 (c0.getD 5 .u)).bind fun n6 =>
 (AV.asI .i64 (c0.getD 6 .u)).bind fun n7 =>
 (AV.asI .i64 (xs.getD 1 .u)).bind fun n8 =>
 (AV.asI .i64 (xs.getD 2 .u)).bind fun n9 =>
 let σ10 := σ.bump 2
 let σ11 := σ10.put σ.next (.cells true 89 [(.sl l1.1 l1.2), (.i .u64 n2), (.i .u64 n3), (.i .u64 n4), (.i .u64 n5), (.i .i64 n6), (.i .i64 n7)])
 let σ12 := σ11.put (σ.next + 1) (.cells true 89 [(.sl .nil 0), (.i .u64 0), (.i .u64 0), (.i .u64 0), (.i .u64 0), (.i .i64 0), (.i .i64 0)])
 (σ12.ld (.n σ.next) 0).bind fun w13 =>
 (AV.asSl w13).bind fun l14 =>
 (σ12.ld (.n σ.next) 1).bind fun w15 =>
 (AV.asI .u64 w15).bind fun n16 =>
 (σ12.ld (.n σ.next) 2).bind fun w17 =>
 (AV.asI .u64 w17).bind fun n18 =>
 (σ12.ld (.n σ.next) 3).bind fun w19 =>
 (AV.asI .u64 w19).bind fun n20 =>
 (σ12.ld (.n σ.next) 4).bind fun w21 =>
 (AV.asI .u64 w21).bind fun n22 =>
 (σ12.ld (.n σ.next) 5).bind fun w23 =>
 (AV.asI .i64 w23).bind fun n24 =>
 (σ12.ld (.n σ.next) 6).bind fun w25 =>
 (AV.asI .i64 w25).bind fun n26 =>
 (k126 [(.agg [(.sl l14.1 l14.2), (.i .u64 n16), (.i .u64 n18), (.i .u64 n20), (.i .u64 n22), (.i .i64 n24), (.i .i64 n26)]), (.i .i64 n8)] σ12).bind fun r27 =>
 (AV.asB r27.1).bind fun b28 =>
 (bif (!b28) then
 (r27.2.ld (.n σ.next) 0).bind fun w29 =>
 (AV.asSl w29).bind fun l30 =>
 (r27.2.ld (.n σ.next) 1).bind fun w31 =>
 (AV.asI .u64 w31).bind fun n32 =>
 (r27.2.ld (.n σ.next) 2).bind fun w33 =>
 (AV.asI .u64 w33).bind fun n34 =>
 (r27.2.ld (.n σ.next) 3).bind fun w35 =>
 (AV.asI .u64 w35).bind fun n36 =>
 (r27.2.ld (.n σ.next) 4).bind fun w37 =>
 (AV.asI .u64 w37).bind fun n38 =>
 (r27.2.ld (.n σ.next) 5).bind fun w39 =>
 (AV.asI .i64 w39).bind fun n40 =>
 (r27.2.ld (.n σ.next) 6).bind fun w41 =>
 (AV.asI .i64 w41).bind fun n42 =>
 (r27.2.st (.n (σ.next + 1)) 0 [(.sl l30.1 l30.2), (.i .u64 n32), (.i .u64 n34), (.i .u64 n36), (.i .u64 n38), (.i .i64 n40), (.i .i64 n42)]).bind fun σ43 =>
 (σ43.ld (.n (σ.next + 1)) 0).bind fun w44 =>
 (AV.asSl w44).bind fun l45 =>
 (σ43.ld (.n (σ.next + 1)) 1).bind fun w46 =>
 (AV.asI .u64 w46).bind fun n47 =>
 (σ43.ld (.n (σ.next + 1)) 2).bind fun w48 =>
 (AV.asI .u64 w48).bind fun n49 =>
 (σ43.ld (.n (σ.next + 1)) 3).bind fun w50 =>
 (AV.asI .u64 w50).bind fun n51 =>
 (σ43.ld (.n (σ.next + 1)) 4).bind fun w52 =>
 (AV.asI .u64 w52).bind fun n53 =>
 (σ43.ld (.n (σ.next + 1)) 5).bind fun w54 =>
 (AV.asI .i64 w54).bind fun n55 =>
 (σ43.ld (.n (σ.next + 1)) 6).bind fun w56 =>
 (AV.asI .i64 w56).bind fun n57 =>
 some ((.tup [(.agg [(.sl l45.1 l45.2), (.i .u64 n47), (.i .u64 n49), (.i .u64 n51), (.i .u64 n53), (.i .i64 n55), (.i .i64 n57)]), (.i .i64 10)]), σ43)
 else (r27.2.ld (.n σ.next) 0).bind fun w58 =>
 (AV.asSl w58).bind fun l59 =>
 (bif ((decide ((0 : Int) ≤ n8)) && (decide (n8 < (l59.2 : Int)))) then
 (SA.ref l59.1).bind fun q60 =>
 (r27.2.ld q60.1 ((q60.2 + (n8.toNat * 2)) + 1)).bind fun w61 =>
 (AV.asSl w61).bind fun l62 =>
 (bif (decide (n9 < (l62.2 : Int))) then
 (r27.2.ld (.n σ.next) 0).bind fun w63 =>
 (AV.asSl w63).bind fun l64 =>
 (r27.2.ld (.n σ.next) 1).bind fun w65 =>
 (AV.asI .u64 w65).bind fun n66 =>
 (r27.2.ld (.n σ.next) 2).bind fun w67 =>
 (AV.asI .u64 w67).bind fun n68 =>
 (r27.2.ld (.n σ.next) 3).bind fun w69 =>
 (AV.asI .u64 w69).bind fun n70 =>
 (r27.2.ld (.n σ.next) 4).bind fun w71 =>
 (AV.asI .u64 w71).bind fun n72 =>
 (r27.2.ld (.n σ.next) 5).bind fun w73 =>
 (AV.asI .i64 w73).bind fun n74 =>
 (r27.2.ld (.n σ.next) 6).bind fun w75 =>
 (AV.asI .i64 w75).bind fun n76 =>
 (r27.2.st (.n (σ.next + 1)) 0 [(.sl l64.1 l64.2), (.i .u64 n66), (.i .u64 n68), (.i .u64 n70), (.i .u64 n72), (.i .i64 n74), (.i .i64 n76)]).bind fun σ77 =>
 (σ77.ld (.n (σ.next + 1)) 0).bind fun w78 =>
 (AV.asSl w78).bind fun l79 =>
 (σ77.ld (.n (σ.next + 1)) 1).bind fun w80 =>
 (AV.asI .u64 w80).bind fun n81 =>
 (σ77.ld (.n (σ.next + 1)) 2).bind fun w82 =>
 (AV.asI .u64 w82).bind fun n83 =>
 (σ77.ld (.n (σ.next + 1)) 3).bind fun w84 =>
 (AV.asI .u64 w84).bind fun n85 =>
 (σ77.ld (.n (σ.next + 1)) 4).bind fun w86 =>
 (AV.asI .u64 w86).bind fun n87 =>
 (σ77.ld (.n (σ.next + 1)) 5).bind fun w88 =>
 (AV.asI .i64 w88).bind fun n89 =>
 (σ77.ld (.n (σ.next + 1)) 6).bind fun w90 =>
 (AV.asI .i64 w90).bind fun n91 =>
 some ((.tup [(.agg [(.sl l79.1 l79.2), (.i .u64 n81), (.i .u64 n83), (.i .u64 n85), (.i .u64 n87), (.i .i64 n89), (.i .i64 n91)]), (.i .i64 1)]), σ77)
 else (bif (decide (n9 > 4194304)) then
 (r27.2.ld (.n σ.next) 0).bind fun w92 =>
 (AV.asSl w92).bind fun l93 =>
 (r27.2.ld (.n σ.next) 1).bind fun w94 =>
 (AV.asI .u64 w94).bind fun n95 =>
 (r27.2.ld (.n σ.next) 2).bind fun w96 =>
 (AV.asI .u64 w96).bind fun n97 =>
 (r27.2.ld (.n σ.next) 3).bind fun w98 =>
 (AV.asI .u64 w98).bind fun n99 =>
 (r27.2.ld (.n σ.next) 4).bind fun w100 =>
 (AV.asI .u64 w100).bind fun n101 =>
 (r27.2.ld (.n σ.next) 5).bind fun w102 =>
 (AV.asI .i64 w102).bind fun n103 =>
 (r27.2.ld (.n σ.next) 6).bind fun w104 =>
 (AV.asI .i64 w104).bind fun n105 =>
 (r27.2.st (.n (σ.next + 1)) 0 [(.sl l93.1 l93.2), (.i .u64 n95), (.i .u64 n97), (.i .u64 n99), (.i .u64 n101), (.i .i64 n103), (.i .i64 n105)]).bind fun σ106 =>
 (σ106.ld (.n (σ.next + 1)) 0).bind fun w107 =>
 (AV.asSl w107).bind fun l108 =>
 (σ106.ld (.n (σ.next + 1)) 1).bind fun w109 =>
 (AV.asI .u64 w109).bind fun n110 =>
 (σ106.ld (.n (σ.next + 1)) 2).bind fun w111 =>
 (AV.asI .u64 w111).bind fun n112 =>
 (σ106.ld (.n (σ.next + 1)) 3).bind fun w113 =>
 (AV.asI .u64 w113).bind fun n114 =>
 (σ106.ld (.n (σ.next + 1)) 4).bind fun w115 =>
 (AV.asI .u64 w115).bind fun n116 =>
 (σ106.ld (.n (σ.next + 1)) 5).bind fun w117 =>
 (AV.asI .i64 w117).bind fun n118 =>
 (σ106.ld (.n (σ.next + 1)) 6).bind fun w119 =>
 (AV.asI .i64 w119).bind fun n120 =>
 some ((.tup [(.agg [(.sl l108.1 l108.2), (.i .u64 n110), (.i .u64 n112), (.i .u64 n114), (.i .u64 n116), (.i .i64 n118), (.i .i64 n120)]), (.i .i64 7)]), σ106)
 else (r27.2.ld (.n σ.next) 0).bind fun w121 =>
 (AV.asSl w121).bind fun l122 =>
 (r27.2.ld (.n σ.next) 1).bind fun w123 =>
 (AV.asI .u64 w123).bind fun n124 =>
 (r27.2.ld (.n σ.next) 2).bind fun w125 =>
 (AV.asI .u64 w125).bind fun n126 =>
 (r27.2.ld (.n σ.next) 3).bind fun w127 =>
 (AV.asI .u64 w127).bind fun n128 =>
 (r27.2.ld (.n σ.next) 4).bind fun w129 =>
 (AV.asI .u64 w129).bind fun n130 =>
 (r27.2.ld (.n σ.next) 5).bind fun w131 =>
 (AV.asI .i64 w131).bind fun n132 =>
 (r27.2.ld (.n σ.next) 6).bind fun w133 =>
 (AV.asI .i64 w133).bind fun n134 =>
 (k158 [(.agg [(.sl l122.1 l122.2), (.i .u64 n124), (.i .u64 n126), (.i .u64 n128), (.i .u64 n130), (.i .i64 n132), (.i .i64 n134)])] r27.2).bind fun r135 =>
 (AV.asAgg 7 r135.1).bind fun c136 =>
 (AV.asSl (c136.getD 0 .u)).bind fun l137 =>
 (AV.asI .u64 (c136.getD 1 .u)).bind fun n138 =>
 (AV.asI .u64 (c136.getD 2 .u)).bind fun n139 =>
 (AV.asI .u64 (c136.getD 3 .u)).bind fun n140 =>
 (AV.asI .u64 (c136.getD 4 .u)).bind fun n141 =>
 (AV.asI .i64 (c136.getD 5 .u)).bind fun n142 =>
 (AV.asI .i64 (c136.getD 6 .u)).bind fun n143 =>
 (r135.2.st (.n σ.next) 0 [(.sl l137.1 l137.2), (.i .u64 n138), (.i .u64 n139), (.i .u64 n140), (.i .u64 n141), (.i .i64 n142), (.i .i64 n143)]).bind fun σ144 =>
 (σ144.ld (.n σ.next) 0).bind fun w145 =>
 (AV.asSl w145).bind fun l146 =>
 (bif ((decide ((0 : Int) ≤ n8)) && (decide (n8 < (l146.2 : Int)))) then
 (SA.ref l146.1).bind fun q147 =>
 (σ144.ld q147.1 ((q147.2 + (n8.toNat * 2)) + 1)).bind fun w148 =>
 (AV.asSl w148).bind fun l149 =>
 (σ144.ld (.n σ.next) 1).bind fun w150 =>
 (AV.asI .u64 w150).bind fun n151 =>
 (σ144.ld (.n σ.next) 2).bind fun w152 =>
 (AV.asI .u64 w152).bind fun n153 =>
 (σ144.ld (.n σ.next) 3).bind fun w154 =>
 (AV.asI .u64 w154).bind fun n155 =>
 (σ144.ld (.n σ.next) 4).bind fun w156 =>
 (AV.asI .u64 w156).bind fun n157 =>
 (σ144.ld (.n σ.next) 5).bind fun w158 =>
 (AV.asI .i64 w158).bind fun n159 =>
 (σ144.ld (.n σ.next) 6).bind fun w160 =>
 (AV.asI .i64 w160).bind fun n161 =>
 (k159 [(.agg [(.i .u64 n151), (.i .u64 n153), (.i .u64 n155), (.i .u64 n157), (.i .i64 n159), (.i .i64 n161)]), (.i .i64 (IntKind.i64.wrap (n9 - (l149.2 : Int))))] σ144).bind fun r162 =>
 (AV.asTup 2 r162.1).bind fun c163 =>
 (AV.asAgg 6 (c163.getD 0 .u)).bind fun c164 =>
 (AV.asI .u64 (c164.getD 0 .u)).bind fun n165 =>
 (AV.asI .u64 (c164.getD 1 .u)).bind fun n166 =>
 (AV.asI .u64 (c164.getD 2 .u)).bind fun n167 =>
 (AV.asI .u64 (c164.getD 3 .u)).bind fun n168 =>
 (AV.asI .i64 (c164.getD 4 .u)).bind fun n169 =>
 (AV.asI .i64 (c164.getD 5 .u)).bind fun n170 =>
 (AV.asI .i64 (c163.getD 1 .u)).bind fun n171 =>
 (r162.2.st (.n σ.next) 1 [(.i .u64 n165), (.i .u64 n166), (.i .u64 n167), (.i .u64 n168), (.i .i64 n169), (.i .i64 n170)]).bind fun σ172 =>
 let σ173 := σ172.bump 1
 (σ173.ld (.n σ.next) 0).bind fun w174 =>
 (AV.asSl w174).bind fun l175 =>
 (σ173.ld (.n σ.next) 0).bind fun w176 =>
 (AV.asSl w176).bind fun l177 =>
 (bif ((decide ((0 : Int) ≤ n8)) && (decide (n8 < (l177.2 : Int)))) then
 (SA.ref l177.1).bind fun q178 =>
 (σ173.ld q178.1 ((q178.2 + (n8.toNat * 2)) + 1)).bind fun w179 =>
 (AV.asSl w179).bind fun l180 =>
 (bif (decide ((0 : Int) ≤ (IntKind.i64.wrap (n9 - (l149.2 : Int))))) then
 (bif (Nat.ble ((l180.2 + (IntKind.i64.wrap (n9 - (l149.2 : Int))).toNat) * 9) 35184372088832) then
 (σ173.appSl σ172.next 22 1 l180.1 l180.2 (IntKind.i64.wrap (n9 - (l149.2 : Int))).toNat ((List.replicate (IntKind.i64.wrap (n9 - (l149.2 : Int))).toNat [(.i .u64 0)]).flatten)).bind fun r181 =>
 (AV.asSl r181.1).bind fun l182 =>
 (chk (r181.2.ld (.n σ.next) 0 = some (.sl l175.1 l175.2))).bind fun _ =>
 (bif ((decide ((0 : Int) ≤ n8)) && (decide (n8 < (l175.2 : Int)))) then
 (SA.ref l175.1).bind fun q183 =>
 (r181.2.st q183.1 ((q183.2 + (n8.toNat * 2)) + 1) [(.sl l182.1 l182.2)]).bind fun σ184 =>
 (σ184.ld (.n σ.next) 0).bind fun w185 =>
 (AV.asSl w185).bind fun l186 =>
 (σ184.ld (.n σ.next) 1).bind fun w187 =>
 (AV.asI .u64 w187).bind fun n188 =>
 (σ184.ld (.n σ.next) 2).bind fun w189 =>
 (AV.asI .u64 w189).bind fun n190 =>
 (σ184.ld (.n σ.next) 3).bind fun w191 =>
 (AV.asI .u64 w191).bind fun n192 =>
 (σ184.ld (.n σ.next) 4).bind fun w193 =>
 (AV.asI .u64 w193).bind fun n194 =>
 (σ184.ld (.n σ.next) 5).bind fun w195 =>
 (AV.asI .i64 w195).bind fun n196 =>
 (σ184.ld (.n σ.next) 6).bind fun w197 =>
 (AV.asI .i64 w197).bind fun n198 =>
 (σ184.st (.n (σ.next + 1)) 0 [(.sl l186.1 l186.2), (.i .u64 n188), (.i .u64 n190), (.i .u64 n192), (.i .u64 n194), (.i .i64 n196), (.i .i64 n198)]).bind fun σ199 =>
 (σ199.ld (.n (σ.next + 1)) 0).bind fun w200 =>
 (AV.asSl w200).bind fun l201 =>
 (σ199.ld (.n (σ.next + 1)) 1).bind fun w202 =>
 (AV.asI .u64 w202).bind fun n203 =>
 (σ199.ld (.n (σ.next + 1)) 2).bind fun w204 =>
 (AV.asI .u64 w204).bind fun n205 =>
 (σ199.ld (.n (σ.next + 1)) 3).bind fun w206 =>
 (AV.asI .u64 w206).bind fun n207 =>
 (σ199.ld (.n (σ.next + 1)) 4).bind fun w208 =>
 (AV.asI .u64 w208).bind fun n209 =>
 (σ199.ld (.n (σ.next + 1)) 5).bind fun w210 =>
 (AV.asI .i64 w210).bind fun n211 =>
 (σ199.ld (.n (σ.next + 1)) 6).bind fun w212 =>
 (AV.asI .i64 w212).bind fun n213 =>
 some ((.tup [(.agg [(.sl l201.1 l201.2), (.i .u64 n203), (.i .u64 n205), (.i .u64 n207), (.i .u64 n209), (.i .i64 n211), (.i .i64 n213)]), (.i .i64 0)]), σ199)
 else none)
 else none)
 else none)
 else none)
 else none)))
 else none))
 else none
noncomputable def haymowref08_Grow {O : Type} : Sm O := frz (haymowref08_Grow_c haymowref08_Is haymowref08_copied haymowref07_Hold)
theorem haymowref08_Grow_ent : Entered Try.prog 119 := Try.call119
theorem haymowref08_Grow_run {O : Type} (k126 k158 k159 : Sm O) : run (O := O) Try.prog [(126, k126), (158, k158), (159, k159)] Try.f119 (.n .z (.n (.n (.n .z (.n .z (.n .z (.n .z (.n .z (.n .z .z)))))) .z) (.n .z (.n .z (.n .z (.n (.d [] [0, 1, 2, 3, 4, 5, 6, 7, 8, 9, 10, 11, 12, 13] [0, 1, 0, 0, 8, 0, 56, 120, 248, 0, 1016, 2047, 4095, 8191]) .z)))))) = haymowref08_Grow_c k126 k158 k159 := by kernel_rfl
theorem haymowref08_Grow_sound {O : Type} {RO : O → Loc → (Nat → Option Obj) → Prop} : FSound RO Try.prog 119 (haymowref08_Grow) :=
   have h : FSound RO Try.prog 119 (haymowref08_Grow_c haymowref08_Is haymowref08_copied haymowref07_Hold) := (haymowref08_Grow_run haymowref08_Is haymowref08_copied haymowref07_Hold) ▸ run_sound (gcons haymowref08_Is_ent (haymowref08_Is_sound) <| gcons haymowref08_copied_ent (haymowref08_copied_sound) <| gcons haymowref07_Hold_ent (haymowref07_Hold_sound) <| gnil) mixed Try.func119 (by kernel_rfl) _
   h.frz

/-- haymow/haymowref08.wrong -/
noncomputable def haymowref08_wrong_c {O : Type} (k126 : Sm O) : Sm O := fun xs σ =>
 bif Nat.beq xs.length 4 then
 (AV.asAgg 7 (xs.getD 0 .u)).bind fun c0 =>
 (AV.asSl (c0.getD 0 .u)).bind fun l1 =>
 (AV.asI .u64 (c0.getD 1 .u)).bind fun n2 =>
 (AV.asI .u64 (c0.getD 2 .u)).bind fun n3 =>
 (AV.asI .u64 (c0.getD 3 .u)).bind fun n4 =>
 (AV.asI .u64 (c0.getD 4 .u)).bind fun n5 =>
 (AV.asI .i64 (c0.getD 5 .u)).bind fun n6 =>
 (AV.asI .i64 (c0.getD 6 .u)).bind fun n7 =>
 (AV.asI .i64 (xs.getD 1 .u)).bind fun n8 =>
 (AV.asI .i64 (xs.getD 2 .u)).bind fun n9 =>
 (AV.asI .i64 (xs.getD 3 .u)).bind fun n10 =>
 let σ11 := σ.bump 1
 let σ12 := σ11.put σ.next (.cells true 89 [(.sl l1.1 l1.2), (.i .u64 n2), (.i .u64 n3), (.i .u64 n4), (.i .u64 n5), (.i .i64 n6), (.i .i64 n7)])
 (σ12.ld (.n σ.next) 0).bind fun w13 =>
 (AV.asSl w13).bind fun l14 =>
 (σ12.ld (.n σ.next) 1).bind fun w15 =>
 (AV.asI .u64 w15).bind fun n16 =>
 (σ12.ld (.n σ.next) 2).bind fun w17 =>
 (AV.asI .u64 w17).bind fun n18 =>
 (σ12.ld (.n σ.next) 3).bind fun w19 =>
 (AV.asI .u64 w19).bind fun n20 =>
 (σ12.ld (.n σ.next) 4).bind fun w21 =>
 (AV.asI .u64 w21).bind fun n22 =>
 (σ12.ld (.n σ.next) 5).bind fun w23 =>
 (AV.asI .i64 w23).bind fun n24 =>
 (σ12.ld (.n σ.next) 6).bind fun w25 =>
 (AV.asI .i64 w25).bind fun n26 =>
 (k126 [(.agg [(.sl l14.1 l14.2), (.i .u64 n16), (.i .u64 n18), (.i .u64 n20), (.i .u64 n22), (.i .i64 n24), (.i .i64 n26)]), (.i .i64 n8)] σ12).bind fun r27 =>
 (AV.asB r27.1).bind fun b28 =>
 (bif (!b28) then
 some ((.i .i64 10), r27.2)
 else (r27.2.ld (.n σ.next) 0).bind fun w29 =>
 (AV.asSl w29).bind fun l30 =>
 (bif ((decide ((0 : Int) ≤ n8)) && (decide (n8 < (l30.2 : Int)))) then
 (SA.ref l30.1).bind fun q31 =>
 (r27.2.ld q31.1 ((q31.2 + (n8.toNat * 2)) + 1)).bind fun w32 =>
 (AV.asSl w32).bind fun l33 =>
 ((bif ((decide (n10 < 0)) == false) then
 some ([(.b (decide (n9 < 0)))], r27.2)
 else some ([(.b true)], r27.2)) : Option (List AV × AH O)).bind fun r34 =>
 (AV.asB (r34.1.getD 0 .u)).bind fun b35 =>
 ((bif (b35 == false) then
 some ([(.b (decide (n10 > (l33.2 : Int))))], r34.2)
 else some ([(.b true)], r34.2)) : Option (List AV × AH O)).bind fun r36 =>
 (AV.asB (r36.1.getD 0 .u)).bind fun b37 =>
 ((bif (b37 == false) then
 let c38 : Bool := (decide (n9 > (IntKind.i64.wrap ((l33.2 : Int) - n10))))
 some ([(.b c38)], r36.2)
 else some ([(.b true)], r36.2)) : Option (List AV × AH O)).bind fun r39 =>
 (AV.asB (r39.1.getD 0 .u)).bind fun b40 =>
 (bif b40 then
 some ((.i .i64 11), r39.2)
 else some ((.i .i64 0), r39.2))
 else none))
 else none
noncomputable def haymowref08_wrong {O : Type} : Sm O := haymowref08_wrong_c haymowref08_Is
theorem haymowref08_wrong_ent : Entered Try.prog 161 := Try.call161
theorem haymowref08_wrong_run {O : Type} (k126 : Sm O) : run (O := O) Try.prog [(126, k126)] Try.f161 (.n .z (.n (.n .z (.n .z .z)) (.n .z (.n (.n (.g [(2, 2, [(26, .one .b)]), (6, 3, [(31, .one .b)]), (11, 5, [(38, .one .b)])]) (.n .z .z)) .z)))) = haymowref08_wrong_c k126 := by kernel_rfl
theorem haymowref08_wrong_sound {O : Type} {RO : O → Loc → (Nat → Option Obj) → Prop} : FSound RO Try.prog 161 (haymowref08_wrong) :=
   have h : FSound RO Try.prog 161 (haymowref08_wrong_c haymowref08_Is) := (haymowref08_wrong_run haymowref08_Is) ▸ run_sound (gcons haymowref08_Is_ent (haymowref08_Is_sound) <| gnil) mixed Try.func161 (by kernel_rfl) _
   h

/-- haymow/haymowref01.Parts -/
noncomputable def haymowref01_Parts_c {O : Type} : Sm O := fun xs σ =>
 bif Nat.beq xs.length 1 then
 (AV.asAgg 2 (xs.getD 0 .u)).bind fun c0 =>
 (AV.asI .u64 (c0.getD 0 .u)).bind fun n1 =>
 (AV.asI .u64 (c0.getD 1 .u)).bind fun n2 =>
 let σ3 := σ.bump 2
 let σ4 := σ3.put σ.next (.cells true 59 [(.i .u64 n1), (.i .u64 n2)])
 let σ5 := σ4.put (σ.next + 1) (.cells true 230 [(.i .u64 0), (.i .u64 0), (.i .u64 0), (.i .u64 0), (.i .u64 0), (.i .u64 0)])
 (σ5.ld (.n σ.next) 1).bind fun w6 =>
 (AV.asI .u64 w6).bind fun n7 =>
 (σ5.ld (.n σ.next) 1).bind fun w8 =>
 (AV.asI .u64 w8).bind fun n9 =>
 (σ5.ld (.n σ.next) 0).bind fun w10 =>
 (AV.asI .u64 w10).bind fun n11 =>
 (σ5.ld (.n σ.next) 0).bind fun w12 =>
 (AV.asI .u64 w12).bind fun n13 =>
 (σ5.st (.n (σ.next + 1)) 0 [(.i .u64 (Int.tmod n7 4294967296)), (.i .u64 (IntKind.u64.wrap (Int.tdiv n9 4294967296))), (.i .u64 (Int.tmod n11 4294967296)), (.i .u64 (IntKind.u64.wrap (Int.tdiv n13 4294967296))), (.i .u64 0), (.i .u64 0)]).bind fun σ14 =>
 (σ14.ld (.n (σ.next + 1)) 0).bind fun w15 =>
 (AV.asI .u64 w15).bind fun n16 =>
 (σ14.ld (.n (σ.next + 1)) 1).bind fun w17 =>
 (AV.asI .u64 w17).bind fun n18 =>
 (σ14.ld (.n (σ.next + 1)) 2).bind fun w19 =>
 (AV.asI .u64 w19).bind fun n20 =>
 (σ14.ld (.n (σ.next + 1)) 3).bind fun w21 =>
 (AV.asI .u64 w21).bind fun n22 =>
 (σ14.ld (.n (σ.next + 1)) 4).bind fun w23 =>
 (AV.asI .u64 w23).bind fun n24 =>
 (σ14.ld (.n (σ.next + 1)) 5).bind fun w25 =>
 (AV.asI .u64 w25).bind fun n26 =>
 some ((.agg [(.i .u64 n16), (.i .u64 n18), (.i .u64 n20), (.i .u64 n22), (.i .u64 n24), (.i .u64 n26)]), σ14)
 else none
noncomputable def haymowref01_Parts {O : Type} : Sm O := haymowref01_Parts_c
theorem haymowref01_Parts_ent : Entered Try.prog 142 := Try.call142
theorem haymowref01_Parts_run {O : Type} : run (O := O) Try.prog [] Try.f142 (.n .z .z) = haymowref01_Parts_c  := by kernel_rfl
theorem haymowref01_Parts_sound {O : Type} {RO : O → Loc → (Nat → Option Obj) → Prop} : FSound RO Try.prog 142 (haymowref01_Parts) :=
   have h : FSound RO Try.prog 142 (haymowref01_Parts_c) := (haymowref01_Parts_run) ▸ run_sound (gnil) mixed Try.func142 (by kernel_rfl) _
   h

/-- haymow/haymowref01.Most -/
noncomputable def haymowref01_Most_c {O : Type} : Sm O := fun xs σ =>
 bif Nat.beq xs.length 0 then
 let σ0 := σ.bump 1
 let σ1 := σ0.put σ.next (.cells true 59 [(.i .u64 0), (.i .u64 0)])
 (σ1.st (.n σ.next) 0 [(.i .u64 18446744073709551615), (.i .u64 18446744073709551615)]).bind fun σ2 =>
 (σ2.ld (.n σ.next) 0).bind fun w3 =>
 (AV.asI .u64 w3).bind fun n4 =>
 (σ2.ld (.n σ.next) 1).bind fun w5 =>
 (AV.asI .u64 w5).bind fun n6 =>
 some ((.agg [(.i .u64 n4), (.i .u64 n6)]), σ2)
 else none
noncomputable def haymowref01_Most {O : Type} : Sm O := haymowref01_Most_c
theorem haymowref01_Most_ent : Entered Try.prog 173 := Try.call173
theorem haymowref01_Most_run {O : Type} : run (O := O) Try.prog [] Try.f173 (.n .z .z) = haymowref01_Most_c  := by kernel_rfl
theorem haymowref01_Most_sound {O : Type} {RO : O → Loc → (Nat → Option Obj) → Prop} : FSound RO Try.prog 173 (haymowref01_Most) :=
   have h : FSound RO Try.prog 173 (haymowref01_Most_c) := (haymowref01_Most_run) ▸ run_sound (gnil) mixed Try.func173 (by kernel_rfl) _
   h

/-- haymow/haymowref01.Whole -/
noncomputable def haymowref01_Whole_c {O : Type} (k173 : Sm O) : Sm O := fun xs σ =>
 bif Nat.beq xs.length 1 then
 (AV.asAgg 6 (xs.getD 0 .u)).bind fun c0 =>
 (AV.asI .u64 (c0.getD 0 .u)).bind fun n1 =>
 (AV.asI .u64 (c0.getD 1 .u)).bind fun n2 =>
 (AV.asI .u64 (c0.getD 2 .u)).bind fun n3 =>
 (AV.asI .u64 (c0.getD 3 .u)).bind fun n4 =>
 (AV.asI .u64 (c0.getD 4 .u)).bind fun n5 =>
 (AV.asI .u64 (c0.getD 5 .u)).bind fun n6 =>
 let σ7 := σ.bump 2
 let σ8 := σ7.put σ.next (.cells true 230 [(.i .u64 n1), (.i .u64 n2), (.i .u64 n3), (.i .u64 n4), (.i .u64 n5), (.i .u64 n6)])
 let σ9 := σ8.put (σ.next + 1) (.cells true 59 [(.i .u64 0), (.i .u64 0)])
 (σ9.ld (.n σ.next) 4).bind fun w10 =>
 (AV.asI .u64 w10).bind fun n11 =>
 ((bif (((n11 : Int) != 0) == false) then
 (σ9.ld (.n σ.next) 5).bind fun w12 =>
 (AV.asI .u64 w12).bind fun n13 =>
 some ([(.b ((n13 : Int) != 0))], σ9)
 else some ([(.b true)], σ9)) : Option (List AV × AH O)).bind fun r14 =>
 (AV.asB (r14.1.getD 0 .u)).bind fun b15 =>
 (bif b15 then
 (k173 [] r14.2).bind fun r16 =>
 (AV.asAgg 2 r16.1).bind fun c17 =>
 (AV.asI .u64 (c17.getD 0 .u)).bind fun n18 =>
 (AV.asI .u64 (c17.getD 1 .u)).bind fun n19 =>
 (r16.2.st (.n (σ.next + 1)) 0 [(.i .u64 n18), (.i .u64 n19)]).bind fun σ20 =>
 (σ20.ld (.n (σ.next + 1)) 0).bind fun w21 =>
 (AV.asI .u64 w21).bind fun n22 =>
 (σ20.ld (.n (σ.next + 1)) 1).bind fun w23 =>
 (AV.asI .u64 w23).bind fun n24 =>
 some ((.tup [(.agg [(.i .u64 n22), (.i .u64 n24)]), (.b false)]), σ20)
 else (r14.2.ld (.n σ.next) 3).bind fun w25 =>
 (AV.asI .u64 w25).bind fun n26 =>
 (r14.2.ld (.n σ.next) 2).bind fun w27 =>
 (AV.asI .u64 w27).bind fun n28 =>
 let v29 : Int := (IntKind.u64.wrap ((IntKind.u64.wrap (n26 * 4294967296)) + n28))
 (r14.2.ld (.n σ.next) 1).bind fun w30 =>
 (AV.asI .u64 w30).bind fun n31 =>
 (r14.2.ld (.n σ.next) 0).bind fun w32 =>
 (AV.asI .u64 w32).bind fun n33 =>
 let v34 : Int := (IntKind.u64.wrap ((IntKind.u64.wrap (n31 * 4294967296)) + n33))
 (r14.2.st (.n (σ.next + 1)) 0 [(.i .u64 v29), (.i .u64 v34)]).bind fun σ35 =>
 (σ35.ld (.n (σ.next + 1)) 0).bind fun w36 =>
 (AV.asI .u64 w36).bind fun n37 =>
 (σ35.ld (.n (σ.next + 1)) 1).bind fun w38 =>
 (AV.asI .u64 w38).bind fun n39 =>
 some ((.tup [(.agg [(.i .u64 n37), (.i .u64 n39)]), (.b true)]), σ35))
 else none
noncomputable def haymowref01_Whole {O : Type} : Sm O := haymowref01_Whole_c haymowref01_Most
theorem haymowref01_Whole_ent : Entered Try.prog 172 := Try.call172
theorem haymowref01_Whole_run {O : Type} (k173 : Sm O) : run (O := O) Try.prog [(173, k173)] Try.f172 (.n .z (.n (.n (.g [(3, 3, [(11, .one .b)])]) (.n .z .z)) .z)) = haymowref01_Whole_c k173 := by kernel_rfl
theorem haymowref01_Whole_sound {O : Type} {RO : O → Loc → (Nat → Option Obj) → Prop} : FSound RO Try.prog 172 (haymowref01_Whole) :=
   have h : FSound RO Try.prog 172 (haymowref01_Whole_c haymowref01_Most) := (haymowref01_Whole_run haymowref01_Most) ▸ run_sound (gcons haymowref01_Most_ent (haymowref01_Most_sound) <| gnil) mixed Try.func172 (by kernel_rfl) _
   h

/-- haymow/haymowref01.Add -/
noncomputable def haymowref01_Add_L1 {O : Type} (σ9 : AH O) (σ38 : AH O) : List AV × AH O → Option ((List AV × AH O) ⊕ (List AV × AH O)) := (fun r41 =>
 (AV.asI .u64 (r41.1.getD 0 .u)).bind fun n42 =>
 (AV.asI .i64 (r41.1.getD 1 .u)).bind fun n43 =>
 (bif (decide (n43 < 5)) then
 (bif ((decide ((0 : Int) ≤ n43)) && (decide (n43 < 6))) then
 (r41.2.ld (.n σ9.next) (0 + (n43.toNat * 1))).bind fun w44 =>
 (AV.asI .u64 w44).bind fun n45 =>
 (bif ((decide ((0 : Int) ≤ n43)) && (decide (n43 < 6))) then
 (r41.2.ld (.n (σ9.next + 1)) (0 + (n43.toNat * 1))).bind fun w46 =>
 (AV.asI .u64 w46).bind fun n47 =>
 let v48 : Int := (IntKind.u64.wrap ((IntKind.u64.wrap (n45 + n47)) + n42))
 (bif ((decide ((0 : Int) ≤ n43)) && (decide (n43 < 6))) then
 (r41.2.st (.n σ38.next) (0 + (n43.toNat * 1)) [(.i .u64 (Int.tmod v48 4294967296))]).bind fun σ49 =>
 some (Sum.inl ([(.i .u64 (IntKind.u64.wrap (Int.tdiv v48 4294967296))), (.i .i64 (IntKind.i64.wrap (n43 + 1)))], σ49))
 else none)
 else none)
 else none)
 else some (Sum.inr ([], r41.2))))
noncomputable def haymowref01_Add_c {O : Type} (k142 k172 : Sm O) : Sm O := fun xs σ =>
 bif Nat.beq xs.length 2 then
 (AV.asAgg 2 (xs.getD 0 .u)).bind fun c0 =>
 (AV.asI .u64 (c0.getD 0 .u)).bind fun n1 =>
 (AV.asI .u64 (c0.getD 1 .u)).bind fun n2 =>
 (AV.asAgg 2 (xs.getD 1 .u)).bind fun c3 =>
 (AV.asI .u64 (c3.getD 0 .u)).bind fun n4 =>
 (AV.asI .u64 (c3.getD 1 .u)).bind fun n5 =>
 let σ6 := σ.bump 3
 let σ7 := σ6.put σ.next (.cells true 59 [(.i .u64 n1), (.i .u64 n2)])
 let σ8 := σ7.put (σ.next + 1) (.cells true 59 [(.i .u64 n4), (.i .u64 n5)])
 let σ9 := σ8.put ((σ.next + 1) + 1) (.cells true 59 [(.i .u64 0), (.i .u64 0)])
 let σ10 := σ9.bump 2
 (σ10.ld (.n σ.next) 0).bind fun w11 =>
 (AV.asI .u64 w11).bind fun n12 =>
 (σ10.ld (.n σ.next) 1).bind fun w13 =>
 (AV.asI .u64 w13).bind fun n14 =>
 (σ10.ld (.n (σ.next + 1)) 0).bind fun w15 =>
 (AV.asI .u64 w15).bind fun n16 =>
 (σ10.ld (.n (σ.next + 1)) 1).bind fun w17 =>
 (AV.asI .u64 w17).bind fun n18 =>
 (k142 [(.agg [(.i .u64 n12), (.i .u64 n14)])] σ10).bind fun r19 =>
 (AV.asAgg 6 r19.1).bind fun c20 =>
 (AV.asI .u64 (c20.getD 0 .u)).bind fun n21 =>
 (AV.asI .u64 (c20.getD 1 .u)).bind fun n22 =>
 (AV.asI .u64 (c20.getD 2 .u)).bind fun n23 =>
 (AV.asI .u64 (c20.getD 3 .u)).bind fun n24 =>
 (AV.asI .u64 (c20.getD 4 .u)).bind fun n25 =>
 (AV.asI .u64 (c20.getD 5 .u)).bind fun n26 =>
 (chk (r19.2.ld (.n (σ.next + 1)) 0 = some (.i .u64 n16))).bind fun _ =>
 (chk (r19.2.ld (.n (σ.next + 1)) 1 = some (.i .u64 n18))).bind fun _ =>
 (k142 [(.agg [(.i .u64 n16), (.i .u64 n18)])] r19.2).bind fun r27 =>
 (AV.asAgg 6 r27.1).bind fun c28 =>
 (AV.asI .u64 (c28.getD 0 .u)).bind fun n29 =>
 (AV.asI .u64 (c28.getD 1 .u)).bind fun n30 =>
 (AV.asI .u64 (c28.getD 2 .u)).bind fun n31 =>
 (AV.asI .u64 (c28.getD 3 .u)).bind fun n32 =>
 (AV.asI .u64 (c28.getD 4 .u)).bind fun n33 =>
 (AV.asI .u64 (c28.getD 5 .u)).bind fun n34 =>
 let σ35 := r27.2.put σ9.next (.cells true 230 [(.i .u64 0), (.i .u64 0), (.i .u64 0), (.i .u64 0), (.i .u64 0), (.i .u64 0)])
 let σ36 := σ35.put (σ9.next + 1) (.cells true 230 [(.i .u64 0), (.i .u64 0), (.i .u64 0), (.i .u64 0), (.i .u64 0), (.i .u64 0)])
 (σ36.st (.n σ9.next) 0 [(.i .u64 n21), (.i .u64 n22), (.i .u64 n23), (.i .u64 n24), (.i .u64 n25), (.i .u64 n26)]).bind fun σ37 =>
 (σ37.st (.n (σ9.next + 1)) 0 [(.i .u64 n29), (.i .u64 n30), (.i .u64 n31), (.i .u64 n32), (.i .u64 n33), (.i .u64 n34)]).bind fun σ38 =>
 let σ39 := σ38.bump 1
 let σ40 := σ39.put σ38.next (.cells true 230 [(.i .u64 0), (.i .u64 0), (.i .u64 0), (.i .u64 0), (.i .u64 0), (.i .u64 0)])
 (loopF (S := List AV × AH O) (T := List AV × AH O) (haymowref01_Add_L1 σ9 σ38) ([(.i .u64 0), (.i .i64 0)], σ40)).bind fun r50 =>
 (r50.2.ld (.n σ38.next) 0).bind fun w51 =>
 (AV.asI .u64 w51).bind fun n52 =>
 (r50.2.ld (.n σ38.next) 1).bind fun w53 =>
 (AV.asI .u64 w53).bind fun n54 =>
 (r50.2.ld (.n σ38.next) 2).bind fun w55 =>
 (AV.asI .u64 w55).bind fun n56 =>
 (r50.2.ld (.n σ38.next) 3).bind fun w57 =>
 (AV.asI .u64 w57).bind fun n58 =>
 (r50.2.ld (.n σ38.next) 4).bind fun w59 =>
 (AV.asI .u64 w59).bind fun n60 =>
 (r50.2.ld (.n σ38.next) 5).bind fun w61 =>
 (AV.asI .u64 w61).bind fun n62 =>
 (k172 [(.agg [(.i .u64 n52), (.i .u64 n54), (.i .u64 n56), (.i .u64 n58), (.i .u64 n60), (.i .u64 n62)])] r50.2).bind fun r63 =>
 (AV.asTup 2 r63.1).bind fun c64 =>
 (AV.asAgg 2 (c64.getD 0 .u)).bind fun c65 =>
 (AV.asI .u64 (c65.getD 0 .u)).bind fun n66 =>
 (AV.asI .u64 (c65.getD 1 .u)).bind fun n67 =>
 (AV.asB (c64.getD 1 .u)).bind fun b68 =>
 (r63.2.st (.n ((σ.next + 1) + 1)) 0 [(.i .u64 n66), (.i .u64 n67)]).bind fun σ69 =>
 (σ69.ld (.n ((σ.next + 1) + 1)) 0).bind fun w70 =>
 (AV.asI .u64 w70).bind fun n71 =>
 (σ69.ld (.n ((σ.next + 1) + 1)) 1).bind fun w72 =>
 (AV.asI .u64 w72).bind fun n73 =>
 some ((.tup [(.agg [(.i .u64 n71), (.i .u64 n73)]), (.b b68)]), σ69)
 else none
noncomputable def haymowref01_Add {O : Type} : Sm O := haymowref01_Add_c haymowref01_Parts haymowref01_Whole
theorem haymowref01_Add_ent : Entered Try.prog 170 := Try.call170
theorem haymowref01_Add_run {O : Type} (k142 k172 : Sm O) : run (O := O) Try.prog [(142, k142), (172, k172)] Try.f170 (.n .z (.n (.d [] [0, 2, 1, 3, 4, 5, 6, 7] [0, 1, 0, 7, 0, 0, 63, 127]) (.n .z (.n .z (.n (.n .z (.n (.lp false 0 [(9, .one (.i .u64)), (10, .one (.i .i64))] [] (.n (.n .z .z) (.n (.n (.n (.d [] [0, 1, 2, 3, 4, 5, 6, 7, 8, 9] [0, 1, 3, 0, 8, 24, 63, 0, 255, 511]) .z) .z) .z))) .z)) .z))))) = haymowref01_Add_c k142 k172 := by kernel_rfl
theorem haymowref01_Add_sound {O : Type} {RO : O → Loc → (Nat → Option Obj) → Prop} : FSound RO Try.prog 170 (haymowref01_Add) :=
   have h : FSound RO Try.prog 170 (haymowref01_Add_c haymowref01_Parts haymowref01_Whole) := (haymowref01_Add_run haymowref01_Parts haymowref01_Whole) ▸ run_sound (gcons haymowref01_Parts_ent (haymowref01_Parts_sound) <| gcons haymowref01_Whole_ent (haymowref01_Whole_sound) <| gnil) mixed Try.func170 (by kernel_rfl) _
   h

/-- haymow/haymowref07.Step -/
noncomputable def haymowref07_Step_c {O : Type} (k170 : Sm O) : Sm O := fun xs σ =>
 bif Nat.beq xs.length 3 then
 (AV.asAgg 6 (xs.getD 0 .u)).bind fun c0 =>
 (AV.asI .u64 (c0.getD 0 .u)).bind fun n1 =>
 (AV.asI .u64 (c0.getD 1 .u)).bind fun n2 =>
 (AV.asI .u64 (c0.getD 2 .u)).bind fun n3 =>
 (AV.asI .u64 (c0.getD 3 .u)).bind fun n4 =>
 (AV.asI .i64 (c0.getD 4 .u)).bind fun n5 =>
 (AV.asI .i64 (c0.getD 5 .u)).bind fun n6 =>
 (AV.asI .i64 (xs.getD 1 .u)).bind fun n7 =>
 (AV.asI .i64 (xs.getD 2 .u)).bind fun n8 =>
 let σ9 := σ.bump 2
 let σ10 := σ9.put σ.next (.cells true 87 [(.i .u64 n1), (.i .u64 n2), (.i .u64 n3), (.i .u64 n4), (.i .i64 n5), (.i .i64 n6)])
 let σ11 := σ10.put (σ.next + 1) (.cells true 87 [(.i .u64 0), (.i .u64 0), (.i .u64 0), (.i .u64 0), (.i .i64 0), (.i .i64 0)])
 ((bif ((decide (n7 ≥ 0)) == true) then
 some ([(.b (decide (n7 ≤ 1)))], σ11)
 else some ([(.b false)], σ11)) : Option (List AV × AH O)).bind fun r12 =>
 (AV.asB (r12.1.getD 0 .u)).bind fun b13 =>
 ((bif (b13 == true) then
 some ([(.b (decide (n8 > 0)))], r12.2)
 else some ([(.b false)], r12.2)) : Option (List AV × AH O)).bind fun r14 =>
 (AV.asB (r14.1.getD 0 .u)).bind fun b15 =>
 ((bif b15 then
 (bif ((decide ((0 : Int) ≤ n7)) && (decide (n7 < 2))) then
 (r14.2.ld (.n σ.next) (0 + (n7.toNat * 2))).bind fun w16 =>
 (AV.asI .u64 w16).bind fun n17 =>
 (r14.2.ld (.n σ.next) ((0 + (n7.toNat * 2)) + 1)).bind fun w18 =>
 (AV.asI .u64 w18).bind fun n19 =>
 (k170 [(.agg [(.i .u64 n17), (.i .u64 n19)]), (.agg [(.i .u64 0), (.i .u64 (IntKind.u64.wrap n8))])] r14.2).bind fun r20 =>
 (AV.asTup 2 r20.1).bind fun c21 =>
 (AV.asAgg 2 (c21.getD 0 .u)).bind fun c22 =>
 (AV.asI .u64 (c22.getD 0 .u)).bind fun n23 =>
 (AV.asI .u64 (c22.getD 1 .u)).bind fun n24 =>
 (AV.asB (c21.getD 1 .u)).bind fun b25 =>
 (bif ((decide ((0 : Int) ≤ n7)) && (decide (n7 < 2))) then
 (r20.2.st (.n σ.next) (0 + (n7.toNat * 2)) [(.i .u64 n23), (.i .u64 n24)]).bind fun σ26 =>
 some ([], σ26)
 else none)
 else none)
 else some ([], r14.2)) : Option (List AV × AH O)).bind fun r27 =>
 (r27.2.ld (.n σ.next) 0).bind fun w28 =>
 (AV.asI .u64 w28).bind fun n29 =>
 (r27.2.ld (.n σ.next) 1).bind fun w30 =>
 (AV.asI .u64 w30).bind fun n31 =>
 (r27.2.ld (.n σ.next) 2).bind fun w32 =>
 (AV.asI .u64 w32).bind fun n33 =>
 (r27.2.ld (.n σ.next) 3).bind fun w34 =>
 (AV.asI .u64 w34).bind fun n35 =>
 (r27.2.ld (.n σ.next) 4).bind fun w36 =>
 (AV.asI .i64 w36).bind fun n37 =>
 (r27.2.ld (.n σ.next) 5).bind fun w38 =>
 (AV.asI .i64 w38).bind fun n39 =>
 (r27.2.st (.n (σ.next + 1)) 0 [(.i .u64 n29), (.i .u64 n31), (.i .u64 n33), (.i .u64 n35), (.i .i64 n37), (.i .i64 n39)]).bind fun σ40 =>
 (σ40.ld (.n (σ.next + 1)) 0).bind fun w41 =>
 (AV.asI .u64 w41).bind fun n42 =>
 (σ40.ld (.n (σ.next + 1)) 1).bind fun w43 =>
 (AV.asI .u64 w43).bind fun n44 =>
 (σ40.ld (.n (σ.next + 1)) 2).bind fun w45 =>
 (AV.asI .u64 w45).bind fun n46 =>
 (σ40.ld (.n (σ.next + 1)) 3).bind fun w47 =>
 (AV.asI .u64 w47).bind fun n48 =>
 (σ40.ld (.n (σ.next + 1)) 4).bind fun w49 =>
 (AV.asI .i64 w49).bind fun n50 =>
 (σ40.ld (.n (σ.next + 1)) 5).bind fun w51 =>
 (AV.asI .i64 w51).bind fun n52 =>
 some ((.agg [(.i .u64 n42), (.i .u64 n44), (.i .u64 n46), (.i .u64 n48), (.i .i64 n50), (.i .i64 n52)]), σ40)
 else none
noncomputable def haymowref07_Step {O : Type} : Sm O := haymowref07_Step_c haymowref01_Add
theorem haymowref07_Step_ent : Entered Try.prog 162 := Try.call162
theorem haymowref07_Step_run {O : Type} (k170 : Sm O) : run (O := O) Try.prog [(170, k170)] Try.f162 (.n .z (.n (.n (.g [(2, 2, [(12, .one .b)]), (6, 2, [(16, .one .b)])]) (.j false [] .z .z)) .z)) = haymowref07_Step_c k170 := by kernel_rfl
theorem haymowref07_Step_sound {O : Type} {RO : O → Loc → (Nat → Option Obj) → Prop} : FSound RO Try.prog 162 (haymowref07_Step) :=
   have h : FSound RO Try.prog 162 (haymowref07_Step_c haymowref01_Add) := (haymowref07_Step_run haymowref01_Add) ▸ run_sound (gcons haymowref01_Add_ent (haymowref01_Add_sound) <| gnil) mixed Try.func162 (by kernel_rfl) _
   h

/-- haymow/haymowref08.Read -/
noncomputable def haymowref08_Read_c {O : Type} (k161 k162 : Sm O) : Sm O := fun xs σ =>
 bif Nat.beq xs.length 3 then
 (AV.asAgg 7 (xs.getD 0 .u)).bind fun c0 =>
 (AV.asSl (c0.getD 0 .u)).bind fun l1 =>
 (AV.asI .u64 (c0.getD 1 .u)).bind fun n2 =>
 (AV.asI .u64 (c0.getD 2 .u)).bind fun n3 =>
 (AV.asI .u64 (c0.getD 3 .u)).bind fun n4 =>
 (AV.asI .u64 (c0.getD 4 .u)).bind fun n5 =>
 (AV.asI .i64 (c0.getD 5 .u)).bind fun n6 =>
 (AV.asI .i64 (c0.getD 6 .u)).bind fun n7 =>
 (AV.asI .i64 (xs.getD 1 .u)).bind fun n8 =>
 (AV.asI .i64 (xs.getD 2 .u)).bind fun n9 =>
 let σ10 := σ.bump 2
 let σ11 := σ10.put σ.next (.cells true 89 [(.sl l1.1 l1.2), (.i .u64 n2), (.i .u64 n3), (.i .u64 n4), (.i .u64 n5), (.i .i64 n6), (.i .i64 n7)])
 let σ12 := σ11.put (σ.next + 1) (.cells true 89 [(.sl .nil 0), (.i .u64 0), (.i .u64 0), (.i .u64 0), (.i .u64 0), (.i .i64 0), (.i .i64 0)])
 (σ12.ld (.n σ.next) 0).bind fun w13 =>
 (AV.asSl w13).bind fun l14 =>
 (σ12.ld (.n σ.next) 1).bind fun w15 =>
 (AV.asI .u64 w15).bind fun n16 =>
 (σ12.ld (.n σ.next) 2).bind fun w17 =>
 (AV.asI .u64 w17).bind fun n18 =>
 (σ12.ld (.n σ.next) 3).bind fun w19 =>
 (AV.asI .u64 w19).bind fun n20 =>
 (σ12.ld (.n σ.next) 4).bind fun w21 =>
 (AV.asI .u64 w21).bind fun n22 =>
 (σ12.ld (.n σ.next) 5).bind fun w23 =>
 (AV.asI .i64 w23).bind fun n24 =>
 (σ12.ld (.n σ.next) 6).bind fun w25 =>
 (AV.asI .i64 w25).bind fun n26 =>
 (k161 [(.agg [(.sl l14.1 l14.2), (.i .u64 n16), (.i .u64 n18), (.i .u64 n20), (.i .u64 n22), (.i .i64 n24), (.i .i64 n26)]), (.i .i64 n8), (.i .i64 n9), (.i .i64 1)] σ12).bind fun r27 =>
 (AV.asI .i64 r27.1).bind fun n28 =>
 (bif ((n28 : Int) != 0) then
 (r27.2.ld (.n σ.next) 0).bind fun w29 =>
 (AV.asSl w29).bind fun l30 =>
 (r27.2.ld (.n σ.next) 1).bind fun w31 =>
 (AV.asI .u64 w31).bind fun n32 =>
 (r27.2.ld (.n σ.next) 2).bind fun w33 =>
 (AV.asI .u64 w33).bind fun n34 =>
 (r27.2.ld (.n σ.next) 3).bind fun w35 =>
 (AV.asI .u64 w35).bind fun n36 =>
 (r27.2.ld (.n σ.next) 4).bind fun w37 =>
 (AV.asI .u64 w37).bind fun n38 =>
 (r27.2.ld (.n σ.next) 5).bind fun w39 =>
 (AV.asI .i64 w39).bind fun n40 =>
 (r27.2.ld (.n σ.next) 6).bind fun w41 =>
 (AV.asI .i64 w41).bind fun n42 =>
 (r27.2.st (.n (σ.next + 1)) 0 [(.sl l30.1 l30.2), (.i .u64 n32), (.i .u64 n34), (.i .u64 n36), (.i .u64 n38), (.i .i64 n40), (.i .i64 n42)]).bind fun σ43 =>
 (σ43.ld (.n (σ.next + 1)) 0).bind fun w44 =>
 (AV.asSl w44).bind fun l45 =>
 (σ43.ld (.n (σ.next + 1)) 1).bind fun w46 =>
 (AV.asI .u64 w46).bind fun n47 =>
 (σ43.ld (.n (σ.next + 1)) 2).bind fun w48 =>
 (AV.asI .u64 w48).bind fun n49 =>
 (σ43.ld (.n (σ.next + 1)) 3).bind fun w50 =>
 (AV.asI .u64 w50).bind fun n51 =>
 (σ43.ld (.n (σ.next + 1)) 4).bind fun w52 =>
 (AV.asI .u64 w52).bind fun n53 =>
 (σ43.ld (.n (σ.next + 1)) 5).bind fun w54 =>
 (AV.asI .i64 w54).bind fun n55 =>
 (σ43.ld (.n (σ.next + 1)) 6).bind fun w56 =>
 (AV.asI .i64 w56).bind fun n57 =>
 some ((.tup [(.agg [(.sl l45.1 l45.2), (.i .u64 n47), (.i .u64 n49), (.i .u64 n51), (.i .u64 n53), (.i .i64 n55), (.i .i64 n57)]), (.i .u64 0), (.i .i64 n28)]), σ43)
 else (r27.2.ld (.n σ.next) 1).bind fun w58 =>
 (AV.asI .u64 w58).bind fun n59 =>
 (r27.2.ld (.n σ.next) 2).bind fun w60 =>
 (AV.asI .u64 w60).bind fun n61 =>
 (r27.2.ld (.n σ.next) 3).bind fun w62 =>
 (AV.asI .u64 w62).bind fun n63 =>
 (r27.2.ld (.n σ.next) 4).bind fun w64 =>
 (AV.asI .u64 w64).bind fun n65 =>
 (r27.2.ld (.n σ.next) 5).bind fun w66 =>
 (AV.asI .i64 w66).bind fun n67 =>
 (r27.2.ld (.n σ.next) 6).bind fun w68 =>
 (AV.asI .i64 w68).bind fun n69 =>
 (k162 [(.agg [(.i .u64 n59), (.i .u64 n61), (.i .u64 n63), (.i .u64 n65), (.i .i64 n67), (.i .i64 n69)]), (.i .i64 0), (.i .i64 1)] r27.2).bind fun r70 =>
 (AV.asAgg 6 r70.1).bind fun c71 =>
 (AV.asI .u64 (c71.getD 0 .u)).bind fun n72 =>
 (AV.asI .u64 (c71.getD 1 .u)).bind fun n73 =>
 (AV.asI .u64 (c71.getD 2 .u)).bind fun n74 =>
 (AV.asI .u64 (c71.getD 3 .u)).bind fun n75 =>
 (AV.asI .i64 (c71.getD 4 .u)).bind fun n76 =>
 (AV.asI .i64 (c71.getD 5 .u)).bind fun n77 =>
 (r70.2.st (.n σ.next) 1 [(.i .u64 n72), (.i .u64 n73), (.i .u64 n74), (.i .u64 n75), (.i .i64 n76), (.i .i64 n77)]).bind fun σ78 =>
 (σ78.ld (.n σ.next) 0).bind fun w79 =>
 (AV.asSl w79).bind fun l80 =>
 (σ78.ld (.n σ.next) 1).bind fun w81 =>
 (AV.asI .u64 w81).bind fun n82 =>
 (σ78.ld (.n σ.next) 2).bind fun w83 =>
 (AV.asI .u64 w83).bind fun n84 =>
 (σ78.ld (.n σ.next) 3).bind fun w85 =>
 (AV.asI .u64 w85).bind fun n86 =>
 (σ78.ld (.n σ.next) 4).bind fun w87 =>
 (AV.asI .u64 w87).bind fun n88 =>
 (σ78.ld (.n σ.next) 5).bind fun w89 =>
 (AV.asI .i64 w89).bind fun n90 =>
 (σ78.ld (.n σ.next) 6).bind fun w91 =>
 (AV.asI .i64 w91).bind fun n92 =>
 (σ78.ld (.n σ.next) 0).bind fun w93 =>
 (AV.asSl w93).bind fun l94 =>
 (bif ((decide ((0 : Int) ≤ n8)) && (decide (n8 < (l94.2 : Int)))) then
 (SA.ref l94.1).bind fun q95 =>
 (σ78.ld q95.1 ((q95.2 + (n8.toNat * 2)) + 1)).bind fun w96 =>
 (AV.asSl w96).bind fun l97 =>
 (bif ((decide ((0 : Int) ≤ n9)) && (decide (n9 < (l97.2 : Int)))) then
 (SA.ref l97.1).bind fun q98 =>
 (σ78.ld q98.1 (q98.2 + (n9.toNat * 1))).bind fun w99 =>
 (AV.asI .u64 w99).bind fun n100 =>
 (σ78.st (.n (σ.next + 1)) 0 [(.sl l80.1 l80.2), (.i .u64 n82), (.i .u64 n84), (.i .u64 n86), (.i .u64 n88), (.i .i64 n90), (.i .i64 n92)]).bind fun σ101 =>
 (chk (σ101.ld (.n σ.next) 0 = some (.sl l94.1 l94.2))).bind fun _ =>
 (chk (σ101.ld q95.1 ((q95.2 + (n8.toNat * 2)) + 1) = some (.sl l97.1 l97.2))).bind fun _ =>
 (chk (σ101.ld q98.1 (q98.2 + (n9.toNat * 1)) = some (.i .u64 n100))).bind fun _ =>
 (σ101.ld (.n (σ.next + 1)) 0).bind fun w102 =>
 (AV.asSl w102).bind fun l103 =>
 (σ101.ld (.n (σ.next + 1)) 1).bind fun w104 =>
 (AV.asI .u64 w104).bind fun n105 =>
 (σ101.ld (.n (σ.next + 1)) 2).bind fun w106 =>
 (AV.asI .u64 w106).bind fun n107 =>
 (σ101.ld (.n (σ.next + 1)) 3).bind fun w108 =>
 (AV.asI .u64 w108).bind fun n109 =>
 (σ101.ld (.n (σ.next + 1)) 4).bind fun w110 =>
 (AV.asI .u64 w110).bind fun n111 =>
 (σ101.ld (.n (σ.next + 1)) 5).bind fun w112 =>
 (AV.asI .i64 w112).bind fun n113 =>
 (σ101.ld (.n (σ.next + 1)) 6).bind fun w114 =>
 (AV.asI .i64 w114).bind fun n115 =>
 some ((.tup [(.agg [(.sl l103.1 l103.2), (.i .u64 n105), (.i .u64 n107), (.i .u64 n109), (.i .u64 n111), (.i .i64 n113), (.i .i64 n115)]), (.i .u64 n100), (.i .i64 0)]), σ101)
 else none)
 else none))
 else none
noncomputable def haymowref08_Read {O : Type} : Sm O := frz (haymowref08_Read_c haymowref08_wrong haymowref07_Step)
theorem haymowref08_Read_ent : Entered Try.prog 120 := Try.call120
theorem haymowref08_Read_run {O : Type} (k161 k162 : Sm O) : run (O := O) Try.prog [(161, k161), (162, k162)] Try.f120 (.n .z (.n (.n .z (.n .z (.n .z .z))) (.n .z (.n (.d [] [0, 1, 2, 3, 4, 5, 6, 7, 8, 9, 10, 11, 12] [0, 0, 2, 0, 14, 30, 62, 0, 254, 510, 1, 2047, 4095]) .z)))) = haymowref08_Read_c k161 k162 := by kernel_rfl
theorem haymowref08_Read_sound {O : Type} {RO : O → Loc → (Nat → Option Obj) → Prop} : FSound RO Try.prog 120 (haymowref08_Read) :=
   have h : FSound RO Try.prog 120 (haymowref08_Read_c haymowref08_wrong haymowref07_Step) := (haymowref08_Read_run haymowref08_wrong haymowref07_Step) ▸ run_sound (gcons haymowref08_wrong_ent (haymowref08_wrong_sound) <| gcons haymowref07_Step_ent (haymowref07_Step_sound) <| gnil) mixed Try.func120 (by kernel_rfl) _
   h.frz

/-- haymow/haymowref08.Write -/
noncomputable def haymowref08_Write_c {O : Type} (k161 k158 k162 : Sm O) : Sm O := fun xs σ =>
 bif Nat.beq xs.length 4 then
 (AV.asAgg 7 (xs.getD 0 .u)).bind fun c0 =>
 (AV.asSl (c0.getD 0 .u)).bind fun l1 =>
 (AV.asI .u64 (c0.getD 1 .u)).bind fun n2 =>
 (AV.asI .u64 (c0.getD 2 .u)).bind fun n3 =>
 (AV.asI .u64 (c0.getD 3 .u)).bind fun n4 =>
 (AV.asI .u64 (c0.getD 4 .u)).bind fun n5 =>
 (AV.asI .i64 (c0.getD 5 .u)).bind fun n6 =>
 (AV.asI .i64 (c0.getD 6 .u)).bind fun n7 =>
 (AV.asI .i64 (xs.getD 1 .u)).bind fun n8 =>
 (AV.asI .i64 (xs.getD 2 .u)).bind fun n9 =>
 (AV.asI .u64 (xs.getD 3 .u)).bind fun n10 =>
 let σ11 := σ.bump 2
 let σ12 := σ11.put σ.next (.cells true 89 [(.sl l1.1 l1.2), (.i .u64 n2), (.i .u64 n3), (.i .u64 n4), (.i .u64 n5), (.i .i64 n6), (.i .i64 n7)])
 let σ13 := σ12.put (σ.next + 1) (.cells true 89 [(.sl .nil 0), (.i .u64 0), (.i .u64 0), (.i .u64 0), (.i .u64 0), (.i .i64 0), (.i .i64 0)])
 (σ13.ld (.n σ.next) 0).bind fun w14 =>
 (AV.asSl w14).bind fun l15 =>
 (σ13.ld (.n σ.next) 1).bind fun w16 =>
 (AV.asI .u64 w16).bind fun n17 =>
 (σ13.ld (.n σ.next) 2).bind fun w18 =>
 (AV.asI .u64 w18).bind fun n19 =>
 (σ13.ld (.n σ.next) 3).bind fun w20 =>
 (AV.asI .u64 w20).bind fun n21 =>
 (σ13.ld (.n σ.next) 4).bind fun w22 =>
 (AV.asI .u64 w22).bind fun n23 =>
 (σ13.ld (.n σ.next) 5).bind fun w24 =>
 (AV.asI .i64 w24).bind fun n25 =>
 (σ13.ld (.n σ.next) 6).bind fun w26 =>
 (AV.asI .i64 w26).bind fun n27 =>
 (k161 [(.agg [(.sl l15.1 l15.2), (.i .u64 n17), (.i .u64 n19), (.i .u64 n21), (.i .u64 n23), (.i .i64 n25), (.i .i64 n27)]), (.i .i64 n8), (.i .i64 n9), (.i .i64 1)] σ13).bind fun r28 =>
 (AV.asI .i64 r28.1).bind fun n29 =>
 (bif ((n29 : Int) != 0) then
 (r28.2.ld (.n σ.next) 0).bind fun w30 =>
 (AV.asSl w30).bind fun l31 =>
 (r28.2.ld (.n σ.next) 1).bind fun w32 =>
 (AV.asI .u64 w32).bind fun n33 =>
 (r28.2.ld (.n σ.next) 2).bind fun w34 =>
 (AV.asI .u64 w34).bind fun n35 =>
 (r28.2.ld (.n σ.next) 3).bind fun w36 =>
 (AV.asI .u64 w36).bind fun n37 =>
 (r28.2.ld (.n σ.next) 4).bind fun w38 =>
 (AV.asI .u64 w38).bind fun n39 =>
 (r28.2.ld (.n σ.next) 5).bind fun w40 =>
 (AV.asI .i64 w40).bind fun n41 =>
 (r28.2.ld (.n σ.next) 6).bind fun w42 =>
 (AV.asI .i64 w42).bind fun n43 =>
 (r28.2.st (.n (σ.next + 1)) 0 [(.sl l31.1 l31.2), (.i .u64 n33), (.i .u64 n35), (.i .u64 n37), (.i .u64 n39), (.i .i64 n41), (.i .i64 n43)]).bind fun σ44 =>
 (σ44.ld (.n (σ.next + 1)) 0).bind fun w45 =>
 (AV.asSl w45).bind fun l46 =>
 (σ44.ld (.n (σ.next + 1)) 1).bind fun w47 =>
 (AV.asI .u64 w47).bind fun n48 =>
 (σ44.ld (.n (σ.next + 1)) 2).bind fun w49 =>
 (AV.asI .u64 w49).bind fun n50 =>
 (σ44.ld (.n (σ.next + 1)) 3).bind fun w51 =>
 (AV.asI .u64 w51).bind fun n52 =>
 (σ44.ld (.n (σ.next + 1)) 4).bind fun w53 =>
 (AV.asI .u64 w53).bind fun n54 =>
 (σ44.ld (.n (σ.next + 1)) 5).bind fun w55 =>
 (AV.asI .i64 w55).bind fun n56 =>
 (σ44.ld (.n (σ.next + 1)) 6).bind fun w57 =>
 (AV.asI .i64 w57).bind fun n58 =>
 some ((.tup [(.agg [(.sl l46.1 l46.2), (.i .u64 n48), (.i .u64 n50), (.i .u64 n52), (.i .u64 n54), (.i .i64 n56), (.i .i64 n58)]), (.i .i64 n29)]), σ44)
 else (r28.2.ld (.n σ.next) 0).bind fun w59 =>
 (AV.asSl w59).bind fun l60 =>
 (r28.2.ld (.n σ.next) 1).bind fun w61 =>
 (AV.asI .u64 w61).bind fun n62 =>
 (r28.2.ld (.n σ.next) 2).bind fun w63 =>
 (AV.asI .u64 w63).bind fun n64 =>
 (r28.2.ld (.n σ.next) 3).bind fun w65 =>
 (AV.asI .u64 w65).bind fun n66 =>
 (r28.2.ld (.n σ.next) 4).bind fun w67 =>
 (AV.asI .u64 w67).bind fun n68 =>
 (r28.2.ld (.n σ.next) 5).bind fun w69 =>
 (AV.asI .i64 w69).bind fun n70 =>
 (r28.2.ld (.n σ.next) 6).bind fun w71 =>
 (AV.asI .i64 w71).bind fun n72 =>
 (k158 [(.agg [(.sl l60.1 l60.2), (.i .u64 n62), (.i .u64 n64), (.i .u64 n66), (.i .u64 n68), (.i .i64 n70), (.i .i64 n72)])] r28.2).bind fun r73 =>
 (AV.asAgg 7 r73.1).bind fun c74 =>
 (AV.asSl (c74.getD 0 .u)).bind fun l75 =>
 (AV.asI .u64 (c74.getD 1 .u)).bind fun n76 =>
 (AV.asI .u64 (c74.getD 2 .u)).bind fun n77 =>
 (AV.asI .u64 (c74.getD 3 .u)).bind fun n78 =>
 (AV.asI .u64 (c74.getD 4 .u)).bind fun n79 =>
 (AV.asI .i64 (c74.getD 5 .u)).bind fun n80 =>
 (AV.asI .i64 (c74.getD 6 .u)).bind fun n81 =>
 (r73.2.st (.n σ.next) 0 [(.sl l75.1 l75.2), (.i .u64 n76), (.i .u64 n77), (.i .u64 n78), (.i .u64 n79), (.i .i64 n80), (.i .i64 n81)]).bind fun σ82 =>
 (σ82.ld (.n σ.next) 1).bind fun w83 =>
 (AV.asI .u64 w83).bind fun n84 =>
 (σ82.ld (.n σ.next) 2).bind fun w85 =>
 (AV.asI .u64 w85).bind fun n86 =>
 (σ82.ld (.n σ.next) 3).bind fun w87 =>
 (AV.asI .u64 w87).bind fun n88 =>
 (σ82.ld (.n σ.next) 4).bind fun w89 =>
 (AV.asI .u64 w89).bind fun n90 =>
 (σ82.ld (.n σ.next) 5).bind fun w91 =>
 (AV.asI .i64 w91).bind fun n92 =>
 (σ82.ld (.n σ.next) 6).bind fun w93 =>
 (AV.asI .i64 w93).bind fun n94 =>
 (k162 [(.agg [(.i .u64 n84), (.i .u64 n86), (.i .u64 n88), (.i .u64 n90), (.i .i64 n92), (.i .i64 n94)]), (.i .i64 1), (.i .i64 1)] σ82).bind fun r95 =>
 (AV.asAgg 6 r95.1).bind fun c96 =>
 (AV.asI .u64 (c96.getD 0 .u)).bind fun n97 =>
 (AV.asI .u64 (c96.getD 1 .u)).bind fun n98 =>
 (AV.asI .u64 (c96.getD 2 .u)).bind fun n99 =>
 (AV.asI .u64 (c96.getD 3 .u)).bind fun n100 =>
 (AV.asI .i64 (c96.getD 4 .u)).bind fun n101 =>
 (AV.asI .i64 (c96.getD 5 .u)).bind fun n102 =>
 (r95.2.st (.n σ.next) 1 [(.i .u64 n97), (.i .u64 n98), (.i .u64 n99), (.i .u64 n100), (.i .i64 n101), (.i .i64 n102)]).bind fun σ103 =>
 (σ103.ld (.n σ.next) 0).bind fun w104 =>
 (AV.asSl w104).bind fun l105 =>
 (bif ((decide ((0 : Int) ≤ n8)) && (decide (n8 < (l105.2 : Int)))) then
 (SA.ref l105.1).bind fun q106 =>
 (σ103.ld q106.1 ((q106.2 + (n8.toNat * 2)) + 1)).bind fun w107 =>
 (AV.asSl w107).bind fun l108 =>
 (bif ((decide ((0 : Int) ≤ n9)) && (decide (n9 < (l108.2 : Int)))) then
 (SA.ref l108.1).bind fun q109 =>
 (σ103.st q109.1 (q109.2 + (n9.toNat * 1)) [(.i .u64 n10)]).bind fun σ110 =>
 (σ110.ld (.n σ.next) 0).bind fun w111 =>
 (AV.asSl w111).bind fun l112 =>
 (σ110.ld (.n σ.next) 1).bind fun w113 =>
 (AV.asI .u64 w113).bind fun n114 =>
 (σ110.ld (.n σ.next) 2).bind fun w115 =>
 (AV.asI .u64 w115).bind fun n116 =>
 (σ110.ld (.n σ.next) 3).bind fun w117 =>
 (AV.asI .u64 w117).bind fun n118 =>
 (σ110.ld (.n σ.next) 4).bind fun w119 =>
 (AV.asI .u64 w119).bind fun n120 =>
 (σ110.ld (.n σ.next) 5).bind fun w121 =>
 (AV.asI .i64 w121).bind fun n122 =>
 (σ110.ld (.n σ.next) 6).bind fun w123 =>
 (AV.asI .i64 w123).bind fun n124 =>
 (σ110.st (.n (σ.next + 1)) 0 [(.sl l112.1 l112.2), (.i .u64 n114), (.i .u64 n116), (.i .u64 n118), (.i .u64 n120), (.i .i64 n122), (.i .i64 n124)]).bind fun σ125 =>
 (σ125.ld (.n (σ.next + 1)) 0).bind fun w126 =>
 (AV.asSl w126).bind fun l127 =>
 (σ125.ld (.n (σ.next + 1)) 1).bind fun w128 =>
 (AV.asI .u64 w128).bind fun n129 =>
 (σ125.ld (.n (σ.next + 1)) 2).bind fun w130 =>
 (AV.asI .u64 w130).bind fun n131 =>
 (σ125.ld (.n (σ.next + 1)) 3).bind fun w132 =>
 (AV.asI .u64 w132).bind fun n133 =>
 (σ125.ld (.n (σ.next + 1)) 4).bind fun w134 =>
 (AV.asI .u64 w134).bind fun n135 =>
 (σ125.ld (.n (σ.next + 1)) 5).bind fun w136 =>
 (AV.asI .i64 w136).bind fun n137 =>
 (σ125.ld (.n (σ.next + 1)) 6).bind fun w138 =>
 (AV.asI .i64 w138).bind fun n139 =>
 some ((.tup [(.agg [(.sl l127.1 l127.2), (.i .u64 n129), (.i .u64 n131), (.i .u64 n133), (.i .u64 n135), (.i .i64 n137), (.i .i64 n139)]), (.i .i64 0)]), σ125)
 else none)
 else none))
 else none
noncomputable def haymowref08_Write {O : Type} : Sm O := frz (haymowref08_Write_c haymowref08_wrong haymowref08_copied haymowref07_Step)
theorem haymowref08_Write_ent : Entered Try.prog 121 := Try.call121
theorem haymowref08_Write_run {O : Type} (k161 k158 k162 : Sm O) : run (O := O) Try.prog [(161, k161), (158, k158), (162, k162)] Try.f121 (.n .z (.n (.n .z (.n .z (.n .z .z))) (.n .z (.n .z (.n .z .z))))) = haymowref08_Write_c k161 k158 k162 := by kernel_rfl
theorem haymowref08_Write_sound {O : Type} {RO : O → Loc → (Nat → Option Obj) → Prop} : FSound RO Try.prog 121 (haymowref08_Write) :=
   have h : FSound RO Try.prog 121 (haymowref08_Write_c haymowref08_wrong haymowref08_copied haymowref07_Step) := (haymowref08_Write_run haymowref08_wrong haymowref08_copied haymowref07_Step) ▸ run_sound (gcons haymowref08_wrong_ent (haymowref08_wrong_sound) <| gcons haymowref08_copied_ent (haymowref08_copied_sound) <| gcons haymowref07_Step_ent (haymowref07_Step_sound) <| gnil) mixed Try.func121 (by kernel_rfl) _
   h.frz

/-- (*haymow/mem.Mem).Zero -/
noncomputable def mem_Mem__Zero_c {O : Type} (k112 k113 : Sm O) : Sm O := fun xs σ =>
 bif Nat.beq xs.length 4 then
 (AV.asP (xs.getD 0 .u)).bind fun p0 =>
 (AV.asI .i64 (xs.getD 1 .u)).bind fun n1 =>
 (AV.asI .i64 (xs.getD 2 .u)).bind fun n2 =>
 (AV.asI .i64 (xs.getD 3 .u)).bind fun n3 =>
 (k112 [(.p p0), (.i .i64 n1), (.i .i64 n2), (.i .i64 n3)] σ).bind fun r4 =>
 (AV.asTup 2 r4.1).bind fun c5 =>
 (AV.asSl (c5.getD 0 .u)).bind fun l6 =>
 (AV.asI .i64 (c5.getD 1 .u)).bind fun n7 =>
 (bif ((n7 : Int) != 0) then
 some ((.i .i64 n7), r4.2)
 else Option.bind p0 fun q8 =>
 (r4.2.ld q8.1 q8.2).bind fun w9 =>
 (AV.asP w9).bind fun p10 =>
 (k113 [(.p p10), (.i .i64 1), (.i .i64 n3)] r4.2).bind fun r11 =>
 (AV.asTup 0 r11.1).bind fun c12 =>
 (bif Nat.beq l6.2 0 then
 some ((.i .i64 0), r11.2)
 else
 (r11.2.wrSl l6.1 ((List.replicate l6.2 [(.i .u64 0)]).flatten)).bind fun σ13 =>
 some ((.i .i64 0), σ13)))
 else none
noncomputable def mem_Mem__Zero {O : Type} : Sm O := mem_Mem__Zero_c mem_Mem__within meter_Meter__Step
theorem mem_Mem__Zero_ent : Entered Try.prog 45 := Try.call45
theorem mem_Mem__Zero_run {O : Type} (k112 k113 : Sm O) : run (O := O) Try.prog [(112, k112), (113, k113)] Try.f45 (.n .z (.n .z (.n (.n .z (.n .z .z)) (.n .z (.n .z .z))))) = mem_Mem__Zero_c k112 k113 := by kernel_rfl
theorem mem_Mem__Zero_sound {O : Type} {RO : O → Loc → (Nat → Option Obj) → Prop} : FSound RO Try.prog 45 (mem_Mem__Zero) :=
   have h : FSound RO Try.prog 45 (mem_Mem__Zero_c mem_Mem__within meter_Meter__Step) := (mem_Mem__Zero_run mem_Mem__within meter_Meter__Step) ▸ run_sound (gcons mem_Mem__within_ent (mem_Mem__within_sound) <| gcons meter_Meter__Step_ent (meter_Meter__Step_sound) <| gnil) mixed Try.func45 (by kernel_rfl) _
   h

/-- haymow/haymowref08.Zero -/
noncomputable def haymowref08_Zero_L1 {O : Type} (n10 : Int) (σ : AH O) (n8 : Int) (n9 : Int) : List AV × AH O → Option ((List AV × AH O) ⊕ (List AV × AH O)) := (fun r104 =>
 (AV.asI .i64 (r104.1.getD 0 .u)).bind fun n105 =>
 (bif (decide (n105 < n10)) then
 (r104.2.ld (.n σ.next) 0).bind fun w106 =>
 (AV.asSl w106).bind fun l107 =>
 (bif ((decide ((0 : Int) ≤ n8)) && (decide (n8 < (l107.2 : Int)))) then
 (SA.ref l107.1).bind fun q108 =>
 (r104.2.ld q108.1 ((q108.2 + (n8.toNat * 2)) + 1)).bind fun w109 =>
 (AV.asSl w109).bind fun l110 =>
 (bif ((decide ((0 : Int) ≤ (IntKind.i64.wrap (n9 + n105)))) && (decide ((IntKind.i64.wrap (n9 + n105)) < (l110.2 : Int)))) then
 (SA.ref l110.1).bind fun q111 =>
 (r104.2.st q111.1 (q111.2 + ((IntKind.i64.wrap (n9 + n105)).toNat * 1)) [(.i .u64 0)]).bind fun σ112 =>
 some (Sum.inl ([(.i .i64 (IntKind.i64.wrap (n105 + 1)))], σ112))
 else none)
 else none)
 else some (Sum.inr ([], r104.2))))
noncomputable def haymowref08_Zero_c {O : Type} (k161 k158 k162 : Sm O) : Sm O := fun xs σ =>
 bif Nat.beq xs.length 4 then
 (AV.asAgg 7 (xs.getD 0 .u)).bind fun c0 =>
 (AV.asSl (c0.getD 0 .u)).bind fun l1 =>
 (AV.asI .u64 (c0.getD 1 .u)).bind fun n2 =>
 (AV.asI .u64 (c0.getD 2 .u)).bind fun n3 =>
 (AV.asI .u64 (c0.getD 3 .u)).bind fun n4 =>
 (AV.asI .u64 (c0.getD 4 .u)).bind fun n5 =>
 (AV.asI .i64 (c0.getD 5 .u)).bind fun n6 =>
 (AV.asI .i64 (c0.getD 6 .u)).bind fun n7 =>
 (AV.asI .i64 (xs.getD 1 .u)).bind fun n8 =>
 (AV.asI .i64 (xs.getD 2 .u)).bind fun n9 =>
 (AV.asI .i64 (xs.getD 3 .u)).bind fun n10 =>
 let σ11 := σ.bump 2
 let σ12 := σ11.put σ.next (.cells true 89 [(.sl l1.1 l1.2), (.i .u64 n2), (.i .u64 n3), (.i .u64 n4), (.i .u64 n5), (.i .i64 n6), (.i .i64 n7)])
 let σ13 := σ12.put (σ.next + 1) (.cells true 89 [(.sl .nil 0), (.i .u64 0), (.i .u64 0), (.i .u64 0), (.i .u64 0), (.i .i64 0), (.i .i64 0)])
 (σ13.ld (.n σ.next) 0).bind fun w14 =>
 (AV.asSl w14).bind fun l15 =>
 (σ13.ld (.n σ.next) 1).bind fun w16 =>
 (AV.asI .u64 w16).bind fun n17 =>
 (σ13.ld (.n σ.next) 2).bind fun w18 =>
 (AV.asI .u64 w18).bind fun n19 =>
 (σ13.ld (.n σ.next) 3).bind fun w20 =>
 (AV.asI .u64 w20).bind fun n21 =>
 (σ13.ld (.n σ.next) 4).bind fun w22 =>
 (AV.asI .u64 w22).bind fun n23 =>
 (σ13.ld (.n σ.next) 5).bind fun w24 =>
 (AV.asI .i64 w24).bind fun n25 =>
 (σ13.ld (.n σ.next) 6).bind fun w26 =>
 (AV.asI .i64 w26).bind fun n27 =>
 (k161 [(.agg [(.sl l15.1 l15.2), (.i .u64 n17), (.i .u64 n19), (.i .u64 n21), (.i .u64 n23), (.i .i64 n25), (.i .i64 n27)]), (.i .i64 n8), (.i .i64 n9), (.i .i64 n10)] σ13).bind fun r28 =>
 (AV.asI .i64 r28.1).bind fun n29 =>
 (bif ((n29 : Int) != 0) then
 (r28.2.ld (.n σ.next) 0).bind fun w30 =>
 (AV.asSl w30).bind fun l31 =>
 (r28.2.ld (.n σ.next) 1).bind fun w32 =>
 (AV.asI .u64 w32).bind fun n33 =>
 (r28.2.ld (.n σ.next) 2).bind fun w34 =>
 (AV.asI .u64 w34).bind fun n35 =>
 (r28.2.ld (.n σ.next) 3).bind fun w36 =>
 (AV.asI .u64 w36).bind fun n37 =>
 (r28.2.ld (.n σ.next) 4).bind fun w38 =>
 (AV.asI .u64 w38).bind fun n39 =>
 (r28.2.ld (.n σ.next) 5).bind fun w40 =>
 (AV.asI .i64 w40).bind fun n41 =>
 (r28.2.ld (.n σ.next) 6).bind fun w42 =>
 (AV.asI .i64 w42).bind fun n43 =>
 (r28.2.st (.n (σ.next + 1)) 0 [(.sl l31.1 l31.2), (.i .u64 n33), (.i .u64 n35), (.i .u64 n37), (.i .u64 n39), (.i .i64 n41), (.i .i64 n43)]).bind fun σ44 =>
 (σ44.ld (.n (σ.next + 1)) 0).bind fun w45 =>
 (AV.asSl w45).bind fun l46 =>
 (σ44.ld (.n (σ.next + 1)) 1).bind fun w47 =>
 (AV.asI .u64 w47).bind fun n48 =>
 (σ44.ld (.n (σ.next + 1)) 2).bind fun w49 =>
 (AV.asI .u64 w49).bind fun n50 =>
 (σ44.ld (.n (σ.next + 1)) 3).bind fun w51 =>
 (AV.asI .u64 w51).bind fun n52 =>
 (σ44.ld (.n (σ.next + 1)) 4).bind fun w53 =>
 (AV.asI .u64 w53).bind fun n54 =>
 (σ44.ld (.n (σ.next + 1)) 5).bind fun w55 =>
 (AV.asI .i64 w55).bind fun n56 =>
 (σ44.ld (.n (σ.next + 1)) 6).bind fun w57 =>
 (AV.asI .i64 w57).bind fun n58 =>
 some ((.tup [(.agg [(.sl l46.1 l46.2), (.i .u64 n48), (.i .u64 n50), (.i .u64 n52), (.i .u64 n54), (.i .i64 n56), (.i .i64 n58)]), (.i .i64 n29)]), σ44)
 else (r28.2.ld (.n σ.next) 0).bind fun w59 =>
 (AV.asSl w59).bind fun l60 =>
 (r28.2.ld (.n σ.next) 1).bind fun w61 =>
 (AV.asI .u64 w61).bind fun n62 =>
 (r28.2.ld (.n σ.next) 2).bind fun w63 =>
 (AV.asI .u64 w63).bind fun n64 =>
 (r28.2.ld (.n σ.next) 3).bind fun w65 =>
 (AV.asI .u64 w65).bind fun n66 =>
 (r28.2.ld (.n σ.next) 4).bind fun w67 =>
 (AV.asI .u64 w67).bind fun n68 =>
 (r28.2.ld (.n σ.next) 5).bind fun w69 =>
 (AV.asI .i64 w69).bind fun n70 =>
 (r28.2.ld (.n σ.next) 6).bind fun w71 =>
 (AV.asI .i64 w71).bind fun n72 =>
 (k158 [(.agg [(.sl l60.1 l60.2), (.i .u64 n62), (.i .u64 n64), (.i .u64 n66), (.i .u64 n68), (.i .i64 n70), (.i .i64 n72)])] r28.2).bind fun r73 =>
 (AV.asAgg 7 r73.1).bind fun c74 =>
 (AV.asSl (c74.getD 0 .u)).bind fun l75 =>
 (AV.asI .u64 (c74.getD 1 .u)).bind fun n76 =>
 (AV.asI .u64 (c74.getD 2 .u)).bind fun n77 =>
 (AV.asI .u64 (c74.getD 3 .u)).bind fun n78 =>
 (AV.asI .u64 (c74.getD 4 .u)).bind fun n79 =>
 (AV.asI .i64 (c74.getD 5 .u)).bind fun n80 =>
 (AV.asI .i64 (c74.getD 6 .u)).bind fun n81 =>
 (r73.2.st (.n σ.next) 0 [(.sl l75.1 l75.2), (.i .u64 n76), (.i .u64 n77), (.i .u64 n78), (.i .u64 n79), (.i .i64 n80), (.i .i64 n81)]).bind fun σ82 =>
 (σ82.ld (.n σ.next) 1).bind fun w83 =>
 (AV.asI .u64 w83).bind fun n84 =>
 (σ82.ld (.n σ.next) 2).bind fun w85 =>
 (AV.asI .u64 w85).bind fun n86 =>
 (σ82.ld (.n σ.next) 3).bind fun w87 =>
 (AV.asI .u64 w87).bind fun n88 =>
 (σ82.ld (.n σ.next) 4).bind fun w89 =>
 (AV.asI .u64 w89).bind fun n90 =>
 (σ82.ld (.n σ.next) 5).bind fun w91 =>
 (AV.asI .i64 w91).bind fun n92 =>
 (σ82.ld (.n σ.next) 6).bind fun w93 =>
 (AV.asI .i64 w93).bind fun n94 =>
 (k162 [(.agg [(.i .u64 n84), (.i .u64 n86), (.i .u64 n88), (.i .u64 n90), (.i .i64 n92), (.i .i64 n94)]), (.i .i64 1), (.i .i64 n10)] σ82).bind fun r95 =>
 (AV.asAgg 6 r95.1).bind fun c96 =>
 (AV.asI .u64 (c96.getD 0 .u)).bind fun n97 =>
 (AV.asI .u64 (c96.getD 1 .u)).bind fun n98 =>
 (AV.asI .u64 (c96.getD 2 .u)).bind fun n99 =>
 (AV.asI .u64 (c96.getD 3 .u)).bind fun n100 =>
 (AV.asI .i64 (c96.getD 4 .u)).bind fun n101 =>
 (AV.asI .i64 (c96.getD 5 .u)).bind fun n102 =>
 (r95.2.st (.n σ.next) 1 [(.i .u64 n97), (.i .u64 n98), (.i .u64 n99), (.i .u64 n100), (.i .i64 n101), (.i .i64 n102)]).bind fun σ103 =>
 (loopF (S := List AV × AH O) (T := List AV × AH O) (haymowref08_Zero_L1 n10 σ n8 n9) ([(.i .i64 0)], σ103)).bind fun r113 =>
 (r113.2.ld (.n σ.next) 0).bind fun w114 =>
 (AV.asSl w114).bind fun l115 =>
 (r113.2.ld (.n σ.next) 1).bind fun w116 =>
 (AV.asI .u64 w116).bind fun n117 =>
 (r113.2.ld (.n σ.next) 2).bind fun w118 =>
 (AV.asI .u64 w118).bind fun n119 =>
 (r113.2.ld (.n σ.next) 3).bind fun w120 =>
 (AV.asI .u64 w120).bind fun n121 =>
 (r113.2.ld (.n σ.next) 4).bind fun w122 =>
 (AV.asI .u64 w122).bind fun n123 =>
 (r113.2.ld (.n σ.next) 5).bind fun w124 =>
 (AV.asI .i64 w124).bind fun n125 =>
 (r113.2.ld (.n σ.next) 6).bind fun w126 =>
 (AV.asI .i64 w126).bind fun n127 =>
 (r113.2.st (.n (σ.next + 1)) 0 [(.sl l115.1 l115.2), (.i .u64 n117), (.i .u64 n119), (.i .u64 n121), (.i .u64 n123), (.i .i64 n125), (.i .i64 n127)]).bind fun σ128 =>
 (σ128.ld (.n (σ.next + 1)) 0).bind fun w129 =>
 (AV.asSl w129).bind fun l130 =>
 (σ128.ld (.n (σ.next + 1)) 1).bind fun w131 =>
 (AV.asI .u64 w131).bind fun n132 =>
 (σ128.ld (.n (σ.next + 1)) 2).bind fun w133 =>
 (AV.asI .u64 w133).bind fun n134 =>
 (σ128.ld (.n (σ.next + 1)) 3).bind fun w135 =>
 (AV.asI .u64 w135).bind fun n136 =>
 (σ128.ld (.n (σ.next + 1)) 4).bind fun w137 =>
 (AV.asI .u64 w137).bind fun n138 =>
 (σ128.ld (.n (σ.next + 1)) 5).bind fun w139 =>
 (AV.asI .i64 w139).bind fun n140 =>
 (σ128.ld (.n (σ.next + 1)) 6).bind fun w141 =>
 (AV.asI .i64 w141).bind fun n142 =>
 some ((.tup [(.agg [(.sl l130.1 l130.2), (.i .u64 n132), (.i .u64 n134), (.i .u64 n136), (.i .u64 n138), (.i .i64 n140), (.i .i64 n142)]), (.i .i64 0)]), σ128))
 else none
noncomputable def haymowref08_Zero {O : Type} : Sm O := frz (haymowref08_Zero_c haymowref08_wrong haymowref08_copied haymowref07_Step)
theorem haymowref08_Zero_ent : Entered Try.prog 122 := Try.call122
theorem haymowref08_Zero_run {O : Type} (k161 k158 k162 : Sm O) : run (O := O) Try.prog [(161, k161), (158, k158), (162, k162)] Try.f122 (.n .z (.n (.n .z (.n .z (.n .z .z))) (.n .z (.n .z (.n (.n .z (.n (.lp false 0 [(11, .one (.i .i64))] [] (.n (.n .z .z) (.n .z .z))) .z)) .z))))) = haymowref08_Zero_c k161 k158 k162 := by kernel_rfl
theorem haymowref08_Zero_sound {O : Type} {RO : O → Loc → (Nat → Option Obj) → Prop} : FSound RO Try.prog 122 (haymowref08_Zero) :=
   have h : FSound RO Try.prog 122 (haymowref08_Zero_c haymowref08_wrong haymowref08_copied haymowref07_Step) := (haymowref08_Zero_run haymowref08_wrong haymowref08_copied haymowref07_Step) ▸ run_sound (gcons haymowref08_wrong_ent (haymowref08_wrong_sound) <| gcons haymowref08_copied_ent (haymowref08_copied_sound) <| gcons haymowref07_Step_ent (haymowref07_Step_sound) <| gnil) mixed Try.func122 (by kernel_rfl) _
   h.frz

/-- (*haymow/mem.Mem).Copy -/
noncomputable def mem_Mem__Copy_c {O : Type} (k112 k113 : Sm O) : Sm O := fun xs σ =>
 bif Nat.beq xs.length 6 then
 (AV.asP (xs.getD 0 .u)).bind fun p0 =>
 (AV.asI .i64 (xs.getD 1 .u)).bind fun n1 =>
 (AV.asI .i64 (xs.getD 2 .u)).bind fun n2 =>
 (AV.asI .i64 (xs.getD 3 .u)).bind fun n3 =>
 (AV.asI .i64 (xs.getD 4 .u)).bind fun n4 =>
 (AV.asI .i64 (xs.getD 5 .u)).bind fun n5 =>
 (k112 [(.p p0), (.i .i64 n1), (.i .i64 n2), (.i .i64 n5)] σ).bind fun r6 =>
 (AV.asTup 2 r6.1).bind fun c7 =>
 (AV.asSl (c7.getD 0 .u)).bind fun l8 =>
 (AV.asI .i64 (c7.getD 1 .u)).bind fun n9 =>
 (k112 [(.p p0), (.i .i64 n3), (.i .i64 n4), (.i .i64 n5)] r6.2).bind fun r10 =>
 (AV.asTup 2 r10.1).bind fun c11 =>
 (AV.asSl (c11.getD 0 .u)).bind fun l12 =>
 (AV.asI .i64 (c11.getD 1 .u)).bind fun n13 =>
 ((bif (((n9 : Int) == 10) == false) then
 some ([(.b ((n13 : Int) == 10))], r10.2)
 else some ([(.b true)], r10.2)) : Option (List AV × AH O)).bind fun r14 =>
 (AV.asB (r14.1.getD 0 .u)).bind fun b15 =>
 (bif b15 then
 some ((.i .i64 10), r14.2)
 else ((bif (((n9 : Int) != 0) == false) then
 some ([(.b ((n13 : Int) != 0))], r14.2)
 else some ([(.b true)], r14.2)) : Option (List AV × AH O)).bind fun r16 =>
 (AV.asB (r16.1.getD 0 .u)).bind fun b17 =>
 (bif b17 then
 some ((.i .i64 11), r16.2)
 else Option.bind p0 fun q18 =>
 (r16.2.ld q18.1 q18.2).bind fun w19 =>
 (AV.asP w19).bind fun p20 =>
 (k113 [(.p p20), (.i .i64 0), (.i .i64 n5)] r16.2).bind fun r21 =>
 (AV.asTup 0 r21.1).bind fun c22 =>
 Option.bind p0 fun q23 =>
 (r21.2.ld q23.1 q23.2).bind fun w24 =>
 (AV.asP w24).bind fun p25 =>
 (k113 [(.p p25), (.i .i64 1), (.i .i64 n5)] r21.2).bind fun r26 =>
 (AV.asTup 0 r26.1).bind fun c27 =>
 (bif Nat.beq (min l8.2 l12.2) 0 then
 some ((.i .i64 0), r26.2)
 else
 (r26.2.rdSl l8.1 (min l8.2 l12.2) 1).bind fun c29 =>
 (r26.2.wrSl l12.1 c29).bind fun σ30 =>
 some ((.i .i64 0), σ30))))
 else none
noncomputable def mem_Mem__Copy {O : Type} : Sm O := mem_Mem__Copy_c mem_Mem__within meter_Meter__Step
theorem mem_Mem__Copy_ent : Entered Try.prog 46 := Try.call46
theorem mem_Mem__Copy_run {O : Type} (k112 k113 : Sm O) : run (O := O) Try.prog [(112, k112), (113, k113)] Try.f46 (.n .z (.n .z (.n .z (.n (.n (.n (.g [(2, 2, [(39, .one .b)])]) (.n .z (.n (.g [(2, 2, [(46, .one .b)])]) (.n .z .z)))) .z) (.n .z (.n .z (.n .z .z))))))) = mem_Mem__Copy_c k112 k113 := by kernel_rfl
theorem mem_Mem__Copy_sound {O : Type} {RO : O → Loc → (Nat → Option Obj) → Prop} : FSound RO Try.prog 46 (mem_Mem__Copy) :=
   have h : FSound RO Try.prog 46 (mem_Mem__Copy_c mem_Mem__within meter_Meter__Step) := (mem_Mem__Copy_run mem_Mem__within meter_Meter__Step) ▸ run_sound (gcons mem_Mem__within_ent (mem_Mem__within_sound) <| gcons meter_Meter__Step_ent (meter_Meter__Step_sound) <| gnil) mixed Try.func46 (by kernel_rfl) _
   h

/-- haymow/haymowref08.Copy -/
noncomputable def haymowref08_Copy_L1 {O : Type} (n12 : Int) (σ : AH O) (n10 : Int) (n9 : Int) (l146 : SA × Nat) (n11 : Int) : List AV × AH O → Option ((List AV × AH O) ⊕ (List AV × AH O)) := (fun r200 =>
 (AV.asI .i64 (r200.1.getD 0 .u)).bind fun n201 =>
 (bif (decide (n201 < n12)) then
 (r200.2.ld (.n σ.next) 0).bind fun w202 =>
 (AV.asSl w202).bind fun l203 =>
 (bif ((decide ((0 : Int) ≤ n10)) && (decide (n10 < (l203.2 : Int)))) then
 (SA.ref l203.1).bind fun q204 =>
 (r200.2.ld q204.1 ((q204.2 + (n10.toNat * 2)) + 1)).bind fun w205 =>
 (AV.asSl w205).bind fun l206 =>
 (bif ((decide ((0 : Int) ≤ (IntKind.i64.wrap (n9 + n201)))) && (decide ((IntKind.i64.wrap (n9 + n201)) < (l146.2 : Int)))) then
 (SA.ref l146.1).bind fun q207 =>
 (r200.2.ld q207.1 (q207.2 + ((IntKind.i64.wrap (n9 + n201)).toNat * 1))).bind fun w208 =>
 (AV.asI .u64 w208).bind fun n209 =>
 (bif ((decide ((0 : Int) ≤ (IntKind.i64.wrap (n11 + n201)))) && (decide ((IntKind.i64.wrap (n11 + n201)) < (l206.2 : Int)))) then
 (SA.ref l206.1).bind fun q210 =>
 (r200.2.st q210.1 (q210.2 + ((IntKind.i64.wrap (n11 + n201)).toNat * 1)) [(.i .u64 n209)]).bind fun σ211 =>
 some (Sum.inl ([(.i .i64 (IntKind.i64.wrap (n201 + 1)))], σ211))
 else none)
 else none)
 else none)
 else some (Sum.inr ([], r200.2))))
noncomputable def haymowref08_Copy_c {O : Type} (k126 k161 k158 k162 : Sm O) : Sm O := fun xs σ =>
 bif Nat.beq xs.length 6 then
 (AV.asAgg 7 (xs.getD 0 .u)).bind fun c0 =>
 (AV.asSl (c0.getD 0 .u)).bind fun l1 =>
 (AV.asI .u64 (c0.getD 1 .u)).bind fun n2 =>
 (AV.asI .u64 (c0.getD 2 .u)).bind fun n3 =>
 (AV.asI .u64 (c0.getD 3 .u)).bind fun n4 =>
 (AV.asI .u64 (c0.getD 4 .u)).bind fun n5 =>
 (AV.asI .i64 (c0.getD 5 .u)).bind fun n6 =>
 (AV.asI .i64 (c0.getD 6 .u)).bind fun n7 =>
 (AV.asI .i64 (xs.getD 1 .u)).bind fun n8 =>
 (AV.asI .i64 (xs.getD 2 .u)).bind fun n9 =>
 (AV.asI .i64 (xs.getD 3 .u)).bind fun n10 =>
 (AV.asI .i64 (xs.getD 4 .u)).bind fun n11 =>
 (AV.asI .i64 (xs.getD 5 .u)).bind fun n12 =>
 let σ13 := σ.bump 2
 let σ14 := σ13.put σ.next (.cells true 89 [(.sl l1.1 l1.2), (.i .u64 n2), (.i .u64 n3), (.i .u64 n4), (.i .u64 n5), (.i .i64 n6), (.i .i64 n7)])
 let σ15 := σ14.put (σ.next + 1) (.cells true 89 [(.sl .nil 0), (.i .u64 0), (.i .u64 0), (.i .u64 0), (.i .u64 0), (.i .i64 0), (.i .i64 0)])
 (σ15.ld (.n σ.next) 0).bind fun w16 =>
 (AV.asSl w16).bind fun l17 =>
 (σ15.ld (.n σ.next) 1).bind fun w18 =>
 (AV.asI .u64 w18).bind fun n19 =>
 (σ15.ld (.n σ.next) 2).bind fun w20 =>
 (AV.asI .u64 w20).bind fun n21 =>
 (σ15.ld (.n σ.next) 3).bind fun w22 =>
 (AV.asI .u64 w22).bind fun n23 =>
 (σ15.ld (.n σ.next) 4).bind fun w24 =>
 (AV.asI .u64 w24).bind fun n25 =>
 (σ15.ld (.n σ.next) 5).bind fun w26 =>
 (AV.asI .i64 w26).bind fun n27 =>
 (σ15.ld (.n σ.next) 6).bind fun w28 =>
 (AV.asI .i64 w28).bind fun n29 =>
 (k126 [(.agg [(.sl l17.1 l17.2), (.i .u64 n19), (.i .u64 n21), (.i .u64 n23), (.i .u64 n25), (.i .i64 n27), (.i .i64 n29)]), (.i .i64 n8)] σ15).bind fun r30 =>
 (AV.asB r30.1).bind fun b31 =>
 ((bif ((!b31) == false) then
 (r30.2.ld (.n σ.next) 0).bind fun w32 =>
 (AV.asSl w32).bind fun l33 =>
 (r30.2.ld (.n σ.next) 1).bind fun w34 =>
 (AV.asI .u64 w34).bind fun n35 =>
 (r30.2.ld (.n σ.next) 2).bind fun w36 =>
 (AV.asI .u64 w36).bind fun n37 =>
 (r30.2.ld (.n σ.next) 3).bind fun w38 =>
 (AV.asI .u64 w38).bind fun n39 =>
 (r30.2.ld (.n σ.next) 4).bind fun w40 =>
 (AV.asI .u64 w40).bind fun n41 =>
 (r30.2.ld (.n σ.next) 5).bind fun w42 =>
 (AV.asI .i64 w42).bind fun n43 =>
 (r30.2.ld (.n σ.next) 6).bind fun w44 =>
 (AV.asI .i64 w44).bind fun n45 =>
 (k126 [(.agg [(.sl l33.1 l33.2), (.i .u64 n35), (.i .u64 n37), (.i .u64 n39), (.i .u64 n41), (.i .i64 n43), (.i .i64 n45)]), (.i .i64 n10)] r30.2).bind fun r46 =>
 (AV.asB r46.1).bind fun b47 =>
 some ([(.b (!b47))], r46.2)
 else some ([(.b true)], r30.2)) : Option (List AV × AH O)).bind fun r48 =>
 (AV.asB (r48.1.getD 0 .u)).bind fun b49 =>
 (bif b49 then
 (r48.2.ld (.n σ.next) 0).bind fun w50 =>
 (AV.asSl w50).bind fun l51 =>
 (r48.2.ld (.n σ.next) 1).bind fun w52 =>
 (AV.asI .u64 w52).bind fun n53 =>
 (r48.2.ld (.n σ.next) 2).bind fun w54 =>
 (AV.asI .u64 w54).bind fun n55 =>
 (r48.2.ld (.n σ.next) 3).bind fun w56 =>
 (AV.asI .u64 w56).bind fun n57 =>
 (r48.2.ld (.n σ.next) 4).bind fun w58 =>
 (AV.asI .u64 w58).bind fun n59 =>
 (r48.2.ld (.n σ.next) 5).bind fun w60 =>
 (AV.asI .i64 w60).bind fun n61 =>
 (r48.2.ld (.n σ.next) 6).bind fun w62 =>
 (AV.asI .i64 w62).bind fun n63 =>
 (r48.2.st (.n (σ.next + 1)) 0 [(.sl l51.1 l51.2), (.i .u64 n53), (.i .u64 n55), (.i .u64 n57), (.i .u64 n59), (.i .i64 n61), (.i .i64 n63)]).bind fun σ64 =>
 (σ64.ld (.n (σ.next + 1)) 0).bind fun w65 =>
 (AV.asSl w65).bind fun l66 =>
 (σ64.ld (.n (σ.next + 1)) 1).bind fun w67 =>
 (AV.asI .u64 w67).bind fun n68 =>
 (σ64.ld (.n (σ.next + 1)) 2).bind fun w69 =>
 (AV.asI .u64 w69).bind fun n70 =>
 (σ64.ld (.n (σ.next + 1)) 3).bind fun w71 =>
 (AV.asI .u64 w71).bind fun n72 =>
 (σ64.ld (.n (σ.next + 1)) 4).bind fun w73 =>
 (AV.asI .u64 w73).bind fun n74 =>
 (σ64.ld (.n (σ.next + 1)) 5).bind fun w75 =>
 (AV.asI .i64 w75).bind fun n76 =>
 (σ64.ld (.n (σ.next + 1)) 6).bind fun w77 =>
 (AV.asI .i64 w77).bind fun n78 =>
 some ((.tup [(.agg [(.sl l66.1 l66.2), (.i .u64 n68), (.i .u64 n70), (.i .u64 n72), (.i .u64 n74), (.i .i64 n76), (.i .i64 n78)]), (.i .i64 10)]), σ64)
 else (r48.2.ld (.n σ.next) 0).bind fun w79 =>
 (AV.asSl w79).bind fun l80 =>
 (r48.2.ld (.n σ.next) 1).bind fun w81 =>
 (AV.asI .u64 w81).bind fun n82 =>
 (r48.2.ld (.n σ.next) 2).bind fun w83 =>
 (AV.asI .u64 w83).bind fun n84 =>
 (r48.2.ld (.n σ.next) 3).bind fun w85 =>
 (AV.asI .u64 w85).bind fun n86 =>
 (r48.2.ld (.n σ.next) 4).bind fun w87 =>
 (AV.asI .u64 w87).bind fun n88 =>
 (r48.2.ld (.n σ.next) 5).bind fun w89 =>
 (AV.asI .i64 w89).bind fun n90 =>
 (r48.2.ld (.n σ.next) 6).bind fun w91 =>
 (AV.asI .i64 w91).bind fun n92 =>
 (k161 [(.agg [(.sl l80.1 l80.2), (.i .u64 n82), (.i .u64 n84), (.i .u64 n86), (.i .u64 n88), (.i .i64 n90), (.i .i64 n92)]), (.i .i64 n8), (.i .i64 n9), (.i .i64 n12)] r48.2).bind fun r93 =>
 (AV.asI .i64 r93.1).bind fun n94 =>
 ((bif (((n94 : Int) != 0) == false) then
 (r93.2.ld (.n σ.next) 0).bind fun w95 =>
 (AV.asSl w95).bind fun l96 =>
 (r93.2.ld (.n σ.next) 1).bind fun w97 =>
 (AV.asI .u64 w97).bind fun n98 =>
 (r93.2.ld (.n σ.next) 2).bind fun w99 =>
 (AV.asI .u64 w99).bind fun n100 =>
 (r93.2.ld (.n σ.next) 3).bind fun w101 =>
 (AV.asI .u64 w101).bind fun n102 =>
 (r93.2.ld (.n σ.next) 4).bind fun w103 =>
 (AV.asI .u64 w103).bind fun n104 =>
 (r93.2.ld (.n σ.next) 5).bind fun w105 =>
 (AV.asI .i64 w105).bind fun n106 =>
 (r93.2.ld (.n σ.next) 6).bind fun w107 =>
 (AV.asI .i64 w107).bind fun n108 =>
 (k161 [(.agg [(.sl l96.1 l96.2), (.i .u64 n98), (.i .u64 n100), (.i .u64 n102), (.i .u64 n104), (.i .i64 n106), (.i .i64 n108)]), (.i .i64 n10), (.i .i64 n11), (.i .i64 n12)] r93.2).bind fun r109 =>
 (AV.asI .i64 r109.1).bind fun n110 =>
 some ([(.b ((n110 : Int) != 0))], r109.2)
 else some ([(.b true)], r93.2)) : Option (List AV × AH O)).bind fun r111 =>
 (AV.asB (r111.1.getD 0 .u)).bind fun b112 =>
 (bif b112 then
 (r111.2.ld (.n σ.next) 0).bind fun w113 =>
 (AV.asSl w113).bind fun l114 =>
 (r111.2.ld (.n σ.next) 1).bind fun w115 =>
 (AV.asI .u64 w115).bind fun n116 =>
 (r111.2.ld (.n σ.next) 2).bind fun w117 =>
 (AV.asI .u64 w117).bind fun n118 =>
 (r111.2.ld (.n σ.next) 3).bind fun w119 =>
 (AV.asI .u64 w119).bind fun n120 =>
 (r111.2.ld (.n σ.next) 4).bind fun w121 =>
 (AV.asI .u64 w121).bind fun n122 =>
 (r111.2.ld (.n σ.next) 5).bind fun w123 =>
 (AV.asI .i64 w123).bind fun n124 =>
 (r111.2.ld (.n σ.next) 6).bind fun w125 =>
 (AV.asI .i64 w125).bind fun n126 =>
 (r111.2.st (.n (σ.next + 1)) 0 [(.sl l114.1 l114.2), (.i .u64 n116), (.i .u64 n118), (.i .u64 n120), (.i .u64 n122), (.i .i64 n124), (.i .i64 n126)]).bind fun σ127 =>
 (σ127.ld (.n (σ.next + 1)) 0).bind fun w128 =>
 (AV.asSl w128).bind fun l129 =>
 (σ127.ld (.n (σ.next + 1)) 1).bind fun w130 =>
 (AV.asI .u64 w130).bind fun n131 =>
 (σ127.ld (.n (σ.next + 1)) 2).bind fun w132 =>
 (AV.asI .u64 w132).bind fun n133 =>
 (σ127.ld (.n (σ.next + 1)) 3).bind fun w134 =>
 (AV.asI .u64 w134).bind fun n135 =>
 (σ127.ld (.n (σ.next + 1)) 4).bind fun w136 =>
 (AV.asI .u64 w136).bind fun n137 =>
 (σ127.ld (.n (σ.next + 1)) 5).bind fun w138 =>
 (AV.asI .i64 w138).bind fun n139 =>
 (σ127.ld (.n (σ.next + 1)) 6).bind fun w140 =>
 (AV.asI .i64 w140).bind fun n141 =>
 some ((.tup [(.agg [(.sl l129.1 l129.2), (.i .u64 n131), (.i .u64 n133), (.i .u64 n135), (.i .u64 n137), (.i .i64 n139), (.i .i64 n141)]), (.i .i64 11)]), σ127)
 else (r111.2.ld (.n σ.next) 0).bind fun w142 =>
 (AV.asSl w142).bind fun l143 =>
 (bif ((decide ((0 : Int) ≤ n8)) && (decide (n8 < (l143.2 : Int)))) then
 (SA.ref l143.1).bind fun q144 =>
 (r111.2.ld q144.1 ((q144.2 + (n8.toNat * 2)) + 1)).bind fun w145 =>
 (AV.asSl w145).bind fun l146 =>
 (r111.2.ld (.n σ.next) 0).bind fun w147 =>
 (AV.asSl w147).bind fun l148 =>
 (r111.2.ld (.n σ.next) 1).bind fun w149 =>
 (AV.asI .u64 w149).bind fun n150 =>
 (r111.2.ld (.n σ.next) 2).bind fun w151 =>
 (AV.asI .u64 w151).bind fun n152 =>
 (r111.2.ld (.n σ.next) 3).bind fun w153 =>
 (AV.asI .u64 w153).bind fun n154 =>
 (r111.2.ld (.n σ.next) 4).bind fun w155 =>
 (AV.asI .u64 w155).bind fun n156 =>
 (r111.2.ld (.n σ.next) 5).bind fun w157 =>
 (AV.asI .i64 w157).bind fun n158 =>
 (r111.2.ld (.n σ.next) 6).bind fun w159 =>
 (AV.asI .i64 w159).bind fun n160 =>
 (k158 [(.agg [(.sl l148.1 l148.2), (.i .u64 n150), (.i .u64 n152), (.i .u64 n154), (.i .u64 n156), (.i .i64 n158), (.i .i64 n160)])] r111.2).bind fun r161 =>
 (AV.asAgg 7 r161.1).bind fun c162 =>
 (AV.asSl (c162.getD 0 .u)).bind fun l163 =>
 (AV.asI .u64 (c162.getD 1 .u)).bind fun n164 =>
 (AV.asI .u64 (c162.getD 2 .u)).bind fun n165 =>
 (AV.asI .u64 (c162.getD 3 .u)).bind fun n166 =>
 (AV.asI .u64 (c162.getD 4 .u)).bind fun n167 =>
 (AV.asI .i64 (c162.getD 5 .u)).bind fun n168 =>
 (AV.asI .i64 (c162.getD 6 .u)).bind fun n169 =>
 (r161.2.st (.n σ.next) 0 [(.sl l163.1 l163.2), (.i .u64 n164), (.i .u64 n165), (.i .u64 n166), (.i .u64 n167), (.i .i64 n168), (.i .i64 n169)]).bind fun σ170 =>
 (σ170.ld (.n σ.next) 1).bind fun w171 =>
 (AV.asI .u64 w171).bind fun n172 =>
 (σ170.ld (.n σ.next) 2).bind fun w173 =>
 (AV.asI .u64 w173).bind fun n174 =>
 (σ170.ld (.n σ.next) 3).bind fun w175 =>
 (AV.asI .u64 w175).bind fun n176 =>
 (σ170.ld (.n σ.next) 4).bind fun w177 =>
 (AV.asI .u64 w177).bind fun n178 =>
 (σ170.ld (.n σ.next) 5).bind fun w179 =>
 (AV.asI .i64 w179).bind fun n180 =>
 (σ170.ld (.n σ.next) 6).bind fun w181 =>
 (AV.asI .i64 w181).bind fun n182 =>
 (k162 [(.agg [(.i .u64 n172), (.i .u64 n174), (.i .u64 n176), (.i .u64 n178), (.i .i64 n180), (.i .i64 n182)]), (.i .i64 0), (.i .i64 n12)] σ170).bind fun r183 =>
 (AV.asAgg 6 r183.1).bind fun c184 =>
 (AV.asI .u64 (c184.getD 0 .u)).bind fun n185 =>
 (AV.asI .u64 (c184.getD 1 .u)).bind fun n186 =>
 (AV.asI .u64 (c184.getD 2 .u)).bind fun n187 =>
 (AV.asI .u64 (c184.getD 3 .u)).bind fun n188 =>
 (AV.asI .i64 (c184.getD 4 .u)).bind fun n189 =>
 (AV.asI .i64 (c184.getD 5 .u)).bind fun n190 =>
 (k162 [(.agg [(.i .u64 n185), (.i .u64 n186), (.i .u64 n187), (.i .u64 n188), (.i .i64 n189), (.i .i64 n190)]), (.i .i64 1), (.i .i64 n12)] r183.2).bind fun r191 =>
 (AV.asAgg 6 r191.1).bind fun c192 =>
 (AV.asI .u64 (c192.getD 0 .u)).bind fun n193 =>
 (AV.asI .u64 (c192.getD 1 .u)).bind fun n194 =>
 (AV.asI .u64 (c192.getD 2 .u)).bind fun n195 =>
 (AV.asI .u64 (c192.getD 3 .u)).bind fun n196 =>
 (AV.asI .i64 (c192.getD 4 .u)).bind fun n197 =>
 (AV.asI .i64 (c192.getD 5 .u)).bind fun n198 =>
 (r191.2.st (.n σ.next) 1 [(.i .u64 n193), (.i .u64 n194), (.i .u64 n195), (.i .u64 n196), (.i .i64 n197), (.i .i64 n198)]).bind fun σ199 =>
 (loopF (S := List AV × AH O) (T := List AV × AH O) (haymowref08_Copy_L1 n12 σ n10 n9 l146 n11) ([(.i .i64 0)], σ199)).bind fun r212 =>
 (r212.2.ld (.n σ.next) 0).bind fun w213 =>
 (AV.asSl w213).bind fun l214 =>
 (r212.2.ld (.n σ.next) 1).bind fun w215 =>
 (AV.asI .u64 w215).bind fun n216 =>
 (r212.2.ld (.n σ.next) 2).bind fun w217 =>
 (AV.asI .u64 w217).bind fun n218 =>
 (r212.2.ld (.n σ.next) 3).bind fun w219 =>
 (AV.asI .u64 w219).bind fun n220 =>
 (r212.2.ld (.n σ.next) 4).bind fun w221 =>
 (AV.asI .u64 w221).bind fun n222 =>
 (r212.2.ld (.n σ.next) 5).bind fun w223 =>
 (AV.asI .i64 w223).bind fun n224 =>
 (r212.2.ld (.n σ.next) 6).bind fun w225 =>
 (AV.asI .i64 w225).bind fun n226 =>
 (r212.2.st (.n (σ.next + 1)) 0 [(.sl l214.1 l214.2), (.i .u64 n216), (.i .u64 n218), (.i .u64 n220), (.i .u64 n222), (.i .i64 n224), (.i .i64 n226)]).bind fun σ227 =>
 (σ227.ld (.n (σ.next + 1)) 0).bind fun w228 =>
 (AV.asSl w228).bind fun l229 =>
 (σ227.ld (.n (σ.next + 1)) 1).bind fun w230 =>
 (AV.asI .u64 w230).bind fun n231 =>
 (σ227.ld (.n (σ.next + 1)) 2).bind fun w232 =>
 (AV.asI .u64 w232).bind fun n233 =>
 (σ227.ld (.n (σ.next + 1)) 3).bind fun w234 =>
 (AV.asI .u64 w234).bind fun n235 =>
 (σ227.ld (.n (σ.next + 1)) 4).bind fun w236 =>
 (AV.asI .u64 w236).bind fun n237 =>
 (σ227.ld (.n (σ.next + 1)) 5).bind fun w238 =>
 (AV.asI .i64 w238).bind fun n239 =>
 (σ227.ld (.n (σ.next + 1)) 6).bind fun w240 =>
 (AV.asI .i64 w240).bind fun n241 =>
 some ((.tup [(.agg [(.sl l229.1 l229.2), (.i .u64 n231), (.i .u64 n233), (.i .u64 n235), (.i .u64 n237), (.i .i64 n239), (.i .i64 n241)]), (.i .i64 0)]), σ227)
 else none)))
 else none
noncomputable def haymowref08_Copy {O : Type} : Sm O := frz (haymowref08_Copy_c haymowref08_Is haymowref08_wrong haymowref08_copied haymowref07_Step)
theorem haymowref08_Copy_ent : Entered Try.prog 123 := Try.call123
theorem haymowref08_Copy_run {O : Type} (k126 k161 k158 k162 : Sm O) : run (O := O) Try.prog [(126, k126), (161, k161), (158, k158), (162, k162)] Try.f123 (.n .z (.n (.n (.g [(4, 4, [(25, .one .b)])]) (.n .z .z)) (.n (.n (.g [(6, 6, [(40, .one .b)])]) (.n .z .z)) (.n .z (.n .z (.n .z (.n (.n .z (.n (.lp false 0 [(15, .one (.i .i64))] [] (.n (.n .z .z) (.n (.n (.d [] [0, 1, 2, 3, 4, 5, 6, 7, 8, 9, 10, 11, 12, 13, 14, 15, 16] [0, 1, 0, 7, 15, 31, 0, 0, 192, 0, 0, 0, 3072, 7680, 15872, 32767, 65535]) .z) .z))) .z)) .z))))))) = haymowref08_Copy_c k126 k161 k158 k162 := by kernel_rfl
theorem haymowref08_Copy_sound {O : Type} {RO : O → Loc → (Nat → Option Obj) → Prop} : FSound RO Try.prog 123 (haymowref08_Copy) :=
   have h : FSound RO Try.prog 123 (haymowref08_Copy_c haymowref08_Is haymowref08_wrong haymowref08_copied haymowref07_Step) := (haymowref08_Copy_run haymowref08_Is haymowref08_wrong haymowref08_copied haymowref07_Step) ▸ run_sound (gcons haymowref08_Is_ent (haymowref08_Is_sound) <| gcons haymowref08_wrong_ent (haymowref08_wrong_sound) <| gcons haymowref08_copied_ent (haymowref08_copied_sound) <| gcons haymowref07_Step_ent (haymowref07_Step_sound) <| gnil) mixed Try.func123 (by kernel_rfl) _
   h.frz

/-- (*haymow/mem.Mem).Size -/
noncomputable def mem_Mem__Size_c {O : Type} (k108 : Sm O) : Sm O := fun xs σ =>
 bif Nat.beq xs.length 2 then
 (AV.asP (xs.getD 0 .u)).bind fun p0 =>
 (AV.asI .i64 (xs.getD 1 .u)).bind fun n1 =>
 (k108 [(.p p0), (.i .i64 n1)] σ).bind fun r2 =>
 (AV.asP r2.1).bind fun p3 =>
 (bif (Option.isNone p3) then
 some ((.tup [(.i .i64 0), (.i .i64 10)]), r2.2)
 else Option.bind p3 fun q4 =>
 (r2.2.ld q4.1 q4.2).bind fun w5 =>
 (AV.asSl w5).bind fun l6 =>
 some ((.tup [(.i .i64 (l6.2 : Int)), (.i .i64 0)]), r2.2))
 else none
noncomputable def mem_Mem__Size {O : Type} : Sm O := mem_Mem__Size_c mem_Mem__at
theorem mem_Mem__Size_ent : Entered Try.prog 124 := Try.call124
theorem mem_Mem__Size_run {O : Type} (k108 : Sm O) : run (O := O) Try.prog [(108, k108)] Try.f124 (.n .z (.n .z (.n (.n .z (.n .z .z)) .z))) = mem_Mem__Size_c k108 := by kernel_rfl
theorem mem_Mem__Size_sound {O : Type} {RO : O → Loc → (Nat → Option Obj) → Prop} : FSound RO Try.prog 124 (mem_Mem__Size) :=
   have h : FSound RO Try.prog 124 (mem_Mem__Size_c mem_Mem__at) := (mem_Mem__Size_run mem_Mem__at) ▸ run_sound (gcons mem_Mem__at_ent (mem_Mem__at_sound) <| gnil) mixed Try.func124 (by kernel_rfl) _
   h

/-- slices.Clone[[]uint64,uint64] -/
noncomputable def slices_Clone___uint64_uint64__c {O : Type} : Sm O := fun xs σ =>
 bif Nat.beq xs.length 1 then
 (AV.asSl (xs.getD 0 .u)).bind fun l0 =>
 (bif (SA.isNil l0.1) then
 some ((.sl .nil 0), σ)
 else let σ1 := σ.bump 2
 let σ2 := σ1.put σ.next (.cells true 22 [])
 (σ2.rdSl l0.1 l0.2 1).bind fun new3 =>
 (bif (Nat.ble ((0 + l0.2) * 9) 35184372088832) then
 (σ2.appSl (σ.next + 1) 22 1 (.loc (.n σ.next) 0 1) 0 l0.2 new3).bind fun r4 =>
 (AV.asSl r4.1).bind fun l5 =>
 some ((.sl l5.1 l5.2), r4.2)
 else none))
 else none
noncomputable def slices_Clone___uint64_uint64_ {O : Type} : Sm O := slices_Clone___uint64_uint64__c
theorem slices_Clone___uint64_uint64__ent : Entered Try.prog 163 := Try.call163
theorem slices_Clone___uint64_uint64__run {O : Type} : run (O := O) Try.prog [] Try.f163 (.n .z (.n (.n .z (.n .z .z)) .z)) = slices_Clone___uint64_uint64__c  := by kernel_rfl
theorem slices_Clone___uint64_uint64__sound {O : Type} {RO : O → Loc → (Nat → Option Obj) → Prop} : FSound RO Try.prog 163 (slices_Clone___uint64_uint64_) :=
   have h : FSound RO Try.prog 163 (slices_Clone___uint64_uint64__c) := (slices_Clone___uint64_uint64__run) ▸ run_sound (gnil) mixed Try.func163 (by kernel_rfl) _
   h

/-- (*haymow/mem.Mem).Look -/
noncomputable def mem_Mem__Look_c {O : Type} (k108 k163 : Sm O) : Sm O := fun xs σ =>
 bif Nat.beq xs.length 2 then
 (AV.asP (xs.getD 0 .u)).bind fun p0 =>
 (AV.asI .i64 (xs.getD 1 .u)).bind fun n1 =>
 (k108 [(.p p0), (.i .i64 n1)] σ).bind fun r2 =>
 (AV.asP r2.1).bind fun p3 =>
 (bif (Option.isNone p3) then
 some ((.tup [(.sl .nil 0), (.i .i64 10)]), r2.2)
 else Option.bind p3 fun q4 =>
 (r2.2.ld q4.1 q4.2).bind fun w5 =>
 (AV.asSl w5).bind fun l6 =>
 (k163 [(.sl l6.1 l6.2)] r2.2).bind fun r7 =>
 (AV.asSl r7.1).bind fun l8 =>
 some ((.tup [(.sl l8.1 l8.2), (.i .i64 0)]), r7.2))
 else none
noncomputable def mem_Mem__Look {O : Type} : Sm O := frz (mem_Mem__Look_c mem_Mem__at slices_Clone___uint64_uint64_)
theorem mem_Mem__Look_ent : Entered Try.prog 125 := Try.call125
theorem mem_Mem__Look_run {O : Type} (k108 k163 : Sm O) : run (O := O) Try.prog [(108, k108), (163, k163)] Try.f125 (.n .z (.n .z (.n (.n .z (.n .z .z)) .z))) = mem_Mem__Look_c k108 k163 := by kernel_rfl
theorem mem_Mem__Look_sound {O : Type} {RO : O → Loc → (Nat → Option Obj) → Prop} : FSound RO Try.prog 125 (mem_Mem__Look) :=
   have h : FSound RO Try.prog 125 (mem_Mem__Look_c mem_Mem__at slices_Clone___uint64_uint64_) := (mem_Mem__Look_run mem_Mem__at slices_Clone___uint64_uint64_) ▸ run_sound (gcons mem_Mem__at_ent (mem_Mem__at_sound) <| gcons slices_Clone___uint64_uint64__ent (slices_Clone___uint64_uint64__sound) <| gnil) mixed Try.func125 (by kernel_rfl) _
   h.frz

/-- haymow/haymowref05.Same -/
noncomputable def haymowref05_Same_L1 {O : Type} (l0 : SA × Nat) (l1 : SA × Nat) : List AV × AH O → Option ((List AV × AH O) ⊕ ((List AV × AH O) ⊕ (AV × AH O))) := (fun r2 =>
 (AV.asI .i64 (r2.1.getD 0 .u)).bind fun n3 =>
 (bif (decide (n3 < (l0.2 : Int))) then
 (bif ((decide ((0 : Int) ≤ n3)) && (decide (n3 < (l0.2 : Int)))) then
 (SA.ref l0.1).bind fun q4 =>
 (r2.2.ld q4.1 (q4.2 + (n3.toNat * 1))).bind fun w5 =>
 (AV.asI .u64 w5).bind fun n6 =>
 (bif ((decide ((0 : Int) ≤ n3)) && (decide (n3 < (l1.2 : Int)))) then
 (SA.ref l1.1).bind fun q7 =>
 (r2.2.ld q7.1 (q7.2 + (n3.toNat * 1))).bind fun w8 =>
 (AV.asI .u64 w8).bind fun n9 =>
 (bif ((n6 : Int) != n9) then
 ((some ((.b false), r2.2) : Option (AV × AH O)).map fun r => Sum.inr (Sum.inr r))
 else some (Sum.inl ([(.i .i64 (IntKind.i64.wrap (n3 + 1)))], r2.2)))
 else none)
 else none)
 else some (Sum.inr (Sum.inl ([], r2.2)))))
noncomputable def haymowref05_Same_c {O : Type} : Sm O := fun xs σ =>
 bif Nat.beq xs.length 2 then
 (AV.asSl (xs.getD 0 .u)).bind fun l0 =>
 (AV.asSl (xs.getD 1 .u)).bind fun l1 =>
 (bif (((l0.2 : Int) : Int) != (l1.2 : Int)) then
 some ((.b false), σ)
 else bindS (S := List AV × AH O) (R := (AV × AH O)) (loopF (S := List AV × AH O) (T := (List AV × AH O) ⊕ (AV × AH O)) (haymowref05_Same_L1 l0 l1) ([(.i .i64 0)], σ)) fun r10 =>
 some ((.b true), r10.2))
 else none
noncomputable def haymowref05_Same {O : Type} : Sm O := haymowref05_Same_c
theorem haymowref05_Same_ent : Entered Try.prog 127 := Try.call127
theorem haymowref05_Same_run {O : Type} : run (O := O) Try.prog [] Try.f127 (.n .z (.n (.n .z (.n .z .z)) (.n (.n .z (.n (.lp true 0 [(5, .one (.i .i64))] [] (.n (.n .z .z) (.n (.n (.n (.d [] [0, 1, 2, 3, 4, 5, 6, 7, 8] [0, 0, 3, 7, 0, 0, 48, 112, 255]) (.n .z .z)) .z) .z))) .z)) .z))) = haymowref05_Same_c  := by kernel_rfl
theorem haymowref05_Same_sound {O : Type} {RO : O → Loc → (Nat → Option Obj) → Prop} : FSound RO Try.prog 127 (haymowref05_Same) :=
   have h : FSound RO Try.prog 127 (haymowref05_Same_c) := (haymowref05_Same_run) ▸ run_sound (gnil) mixed Try.func127 (by kernel_rfl) _
   h

/-- haymow/haymowlaw08.do -/
noncomputable def law08_do_c {O : Type} (k36 k117 k39 k118 k44 k119 k47 k120 k43 k121 k45 k122 k46 k123 k124 k125 k126 k127 : Sm O) : Sm O := fun xs σ =>
 bif Nat.beq xs.length 3 then
 (AV.asP (xs.getD 0 .u)).bind fun p0 =>
 (AV.asAgg 7 (xs.getD 1 .u)).bind fun c1 =>
 (AV.asSl (c1.getD 0 .u)).bind fun l2 =>
 (AV.asI .u64 (c1.getD 1 .u)).bind fun n3 =>
 (AV.asI .u64 (c1.getD 2 .u)).bind fun n4 =>
 (AV.asI .u64 (c1.getD 3 .u)).bind fun n5 =>
 (AV.asI .u64 (c1.getD 4 .u)).bind fun n6 =>
 (AV.asI .i64 (c1.getD 5 .u)).bind fun n7 =>
 (AV.asI .i64 (c1.getD 6 .u)).bind fun n8 =>
 (AV.asAgg 7 (xs.getD 2 .u)).bind fun c9 =>
 (AV.asI .i64 (c9.getD 0 .u)).bind fun n10 =>
 (AV.asI .i64 (c9.getD 1 .u)).bind fun n11 =>
 (AV.asI .i64 (c9.getD 2 .u)).bind fun n12 =>
 (AV.asI .i64 (c9.getD 3 .u)).bind fun n13 =>
 (AV.asI .i64 (c9.getD 4 .u)).bind fun n14 =>
 (AV.asI .i64 (c9.getD 5 .u)).bind fun n15 =>
 (AV.asI .u64 (c9.getD 6 .u)).bind fun n16 =>
 let σ17 := σ.bump 3
 let σ18 := σ17.put σ.next (.cells true 89 [(.sl l2.1 l2.2), (.i .u64 n3), (.i .u64 n4), (.i .u64 n5), (.i .u64 n6), (.i .i64 n7), (.i .i64 n8)])
 let σ19 := σ18.put (σ.next + 1) (.cells true 67 [(.i .i64 n10), (.i .i64 n11), (.i .i64 n12), (.i .i64 n13), (.i .i64 n14), (.i .i64 n15), (.i .u64 n16)])
 let σ20 := σ19.put ((σ.next + 1) + 1) (.cells true 89 [(.sl .nil 0), (.i .u64 0), (.i .u64 0), (.i .u64 0), (.i .u64 0), (.i .i64 0), (.i .i64 0)])
 (σ20.ld (.n (σ.next + 1)) 0).bind fun w21 =>
 (AV.asI .i64 w21).bind fun n22 =>
 (bif ((n22 : Int) == 0) then
 (σ20.ld (.n (σ.next + 1)) 5).bind fun w23 =>
 (AV.asI .i64 w23).bind fun n24 =>
 (k36 [(.p p0), (.i .i64 n24)] σ20).bind fun r25 =>
 (AV.asTup 2 r25.1).bind fun c26 =>
 (AV.asI .i64 (c26.getD 0 .u)).bind fun n27 =>
 (AV.asI .i64 (c26.getD 1 .u)).bind fun n28 =>
 (r25.2.ld (.n σ.next) 0).bind fun w29 =>
 (AV.asSl w29).bind fun l30 =>
 (r25.2.ld (.n σ.next) 1).bind fun w31 =>
 (AV.asI .u64 w31).bind fun n32 =>
 (r25.2.ld (.n σ.next) 2).bind fun w33 =>
 (AV.asI .u64 w33).bind fun n34 =>
 (r25.2.ld (.n σ.next) 3).bind fun w35 =>
 (AV.asI .u64 w35).bind fun n36 =>
 (r25.2.ld (.n σ.next) 4).bind fun w37 =>
 (AV.asI .u64 w37).bind fun n38 =>
 (r25.2.ld (.n σ.next) 5).bind fun w39 =>
 (AV.asI .i64 w39).bind fun n40 =>
 (r25.2.ld (.n σ.next) 6).bind fun w41 =>
 (AV.asI .i64 w41).bind fun n42 =>
 (r25.2.ld (.n (σ.next + 1)) 5).bind fun w43 =>
 (AV.asI .i64 w43).bind fun n44 =>
 (k117 [(.agg [(.sl l30.1 l30.2), (.i .u64 n32), (.i .u64 n34), (.i .u64 n36), (.i .u64 n38), (.i .i64 n40), (.i .i64 n42)]), (.i .i64 n44)] r25.2).bind fun r45 =>
 (AV.asTup 3 r45.1).bind fun c46 =>
 (AV.asAgg 7 (c46.getD 0 .u)).bind fun c47 =>
 (AV.asSl (c47.getD 0 .u)).bind fun l48 =>
 (AV.asI .u64 (c47.getD 1 .u)).bind fun n49 =>
 (AV.asI .u64 (c47.getD 2 .u)).bind fun n50 =>
 (AV.asI .u64 (c47.getD 3 .u)).bind fun n51 =>
 (AV.asI .u64 (c47.getD 4 .u)).bind fun n52 =>
 (AV.asI .i64 (c47.getD 5 .u)).bind fun n53 =>
 (AV.asI .i64 (c47.getD 6 .u)).bind fun n54 =>
 (AV.asI .i64 (c46.getD 1 .u)).bind fun n55 =>
 (AV.asI .i64 (c46.getD 2 .u)).bind fun n56 =>
 (r45.2.st (.n σ.next) 0 [(.sl l48.1 l48.2), (.i .u64 n49), (.i .u64 n50), (.i .u64 n51), (.i .u64 n52), (.i .i64 n53), (.i .i64 n54)]).bind fun σ57 =>
 (σ57.ld (.n σ.next) 0).bind fun w58 =>
 (AV.asSl w58).bind fun l59 =>
 (σ57.ld (.n σ.next) 1).bind fun w60 =>
 (AV.asI .u64 w60).bind fun n61 =>
 (σ57.ld (.n σ.next) 2).bind fun w62 =>
 (AV.asI .u64 w62).bind fun n63 =>
 (σ57.ld (.n σ.next) 3).bind fun w64 =>
 (AV.asI .u64 w64).bind fun n65 =>
 (σ57.ld (.n σ.next) 4).bind fun w66 =>
 (AV.asI .u64 w66).bind fun n67 =>
 (σ57.ld (.n σ.next) 5).bind fun w68 =>
 (AV.asI .i64 w68).bind fun n69 =>
 (σ57.ld (.n σ.next) 6).bind fun w70 =>
 (AV.asI .i64 w70).bind fun n71 =>
 ((bif (((n27 : Int) == n55) == true) then
 some ([(.b ((n28 : Int) == n56))], σ57)
 else some ([(.b false)], σ57)) : Option (List AV × AH O)).bind fun r72 =>
 (AV.asB (r72.1.getD 0 .u)).bind fun b73 =>
 (r72.2.st (.n ((σ.next + 1) + 1)) 0 [(.sl l59.1 l59.2), (.i .u64 n61), (.i .u64 n63), (.i .u64 n65), (.i .u64 n67), (.i .i64 n69), (.i .i64 n71)]).bind fun σ74 =>
 (σ74.ld (.n ((σ.next + 1) + 1)) 0).bind fun w75 =>
 (AV.asSl w75).bind fun l76 =>
 (σ74.ld (.n ((σ.next + 1) + 1)) 1).bind fun w77 =>
 (AV.asI .u64 w77).bind fun n78 =>
 (σ74.ld (.n ((σ.next + 1) + 1)) 2).bind fun w79 =>
 (AV.asI .u64 w79).bind fun n80 =>
 (σ74.ld (.n ((σ.next + 1) + 1)) 3).bind fun w81 =>
 (AV.asI .u64 w81).bind fun n82 =>
 (σ74.ld (.n ((σ.next + 1) + 1)) 4).bind fun w83 =>
 (AV.asI .u64 w83).bind fun n84 =>
 (σ74.ld (.n ((σ.next + 1) + 1)) 5).bind fun w85 =>
 (AV.asI .i64 w85).bind fun n86 =>
 (σ74.ld (.n ((σ.next + 1) + 1)) 6).bind fun w87 =>
 (AV.asI .i64 w87).bind fun n88 =>
 some ((.tup [(.agg [(.sl l76.1 l76.2), (.i .u64 n78), (.i .u64 n80), (.i .u64 n82), (.i .u64 n84), (.i .i64 n86), (.i .i64 n88)]), (.b b73)]), σ74)
 else (bif ((n22 : Int) == 1) then
 (σ20.ld (.n (σ.next + 1)) 1).bind fun w89 =>
 (AV.asI .i64 w89).bind fun n90 =>
 (k39 [(.p p0), (.i .i64 n90)] σ20).bind fun r91 =>
 (AV.asI .i64 r91.1).bind fun n92 =>
 (r91.2.ld (.n σ.next) 0).bind fun w93 =>
 (AV.asSl w93).bind fun l94 =>
 (r91.2.ld (.n σ.next) 1).bind fun w95 =>
 (AV.asI .u64 w95).bind fun n96 =>
 (r91.2.ld (.n σ.next) 2).bind fun w97 =>
 (AV.asI .u64 w97).bind fun n98 =>
 (r91.2.ld (.n σ.next) 3).bind fun w99 =>
 (AV.asI .u64 w99).bind fun n100 =>
 (r91.2.ld (.n σ.next) 4).bind fun w101 =>
 (AV.asI .u64 w101).bind fun n102 =>
 (r91.2.ld (.n σ.next) 5).bind fun w103 =>
 (AV.asI .i64 w103).bind fun n104 =>
 (r91.2.ld (.n σ.next) 6).bind fun w105 =>
 (AV.asI .i64 w105).bind fun n106 =>
 (r91.2.ld (.n (σ.next + 1)) 1).bind fun w107 =>
 (AV.asI .i64 w107).bind fun n108 =>
 (k118 [(.agg [(.sl l94.1 l94.2), (.i .u64 n96), (.i .u64 n98), (.i .u64 n100), (.i .u64 n102), (.i .i64 n104), (.i .i64 n106)]), (.i .i64 n108)] r91.2).bind fun r109 =>
 (AV.asTup 2 r109.1).bind fun c110 =>
 (AV.asAgg 7 (c110.getD 0 .u)).bind fun c111 =>
 (AV.asSl (c111.getD 0 .u)).bind fun l112 =>
 (AV.asI .u64 (c111.getD 1 .u)).bind fun n113 =>
 (AV.asI .u64 (c111.getD 2 .u)).bind fun n114 =>
 (AV.asI .u64 (c111.getD 3 .u)).bind fun n115 =>
 (AV.asI .u64 (c111.getD 4 .u)).bind fun n116 =>
 (AV.asI .i64 (c111.getD 5 .u)).bind fun n117 =>
 (AV.asI .i64 (c111.getD 6 .u)).bind fun n118 =>
 (AV.asI .i64 (c110.getD 1 .u)).bind fun n119 =>
 (r109.2.st (.n σ.next) 0 [(.sl l112.1 l112.2), (.i .u64 n113), (.i .u64 n114), (.i .u64 n115), (.i .u64 n116), (.i .i64 n117), (.i .i64 n118)]).bind fun σ120 =>
 (σ120.ld (.n σ.next) 0).bind fun w121 =>
 (AV.asSl w121).bind fun l122 =>
 (σ120.ld (.n σ.next) 1).bind fun w123 =>
 (AV.asI .u64 w123).bind fun n124 =>
 (σ120.ld (.n σ.next) 2).bind fun w125 =>
 (AV.asI .u64 w125).bind fun n126 =>
 (σ120.ld (.n σ.next) 3).bind fun w127 =>
 (AV.asI .u64 w127).bind fun n128 =>
 (σ120.ld (.n σ.next) 4).bind fun w129 =>
 (AV.asI .u64 w129).bind fun n130 =>
 (σ120.ld (.n σ.next) 5).bind fun w131 =>
 (AV.asI .i64 w131).bind fun n132 =>
 (σ120.ld (.n σ.next) 6).bind fun w133 =>
 (AV.asI .i64 w133).bind fun n134 =>
 (σ120.st (.n ((σ.next + 1) + 1)) 0 [(.sl l122.1 l122.2), (.i .u64 n124), (.i .u64 n126), (.i .u64 n128), (.i .u64 n130), (.i .i64 n132), (.i .i64 n134)]).bind fun σ135 =>
 (σ135.ld (.n ((σ.next + 1) + 1)) 0).bind fun w136 =>
 (AV.asSl w136).bind fun l137 =>
 (σ135.ld (.n ((σ.next + 1) + 1)) 1).bind fun w138 =>
 (AV.asI .u64 w138).bind fun n139 =>
 (σ135.ld (.n ((σ.next + 1) + 1)) 2).bind fun w140 =>
 (AV.asI .u64 w140).bind fun n141 =>
 (σ135.ld (.n ((σ.next + 1) + 1)) 3).bind fun w142 =>
 (AV.asI .u64 w142).bind fun n143 =>
 (σ135.ld (.n ((σ.next + 1) + 1)) 4).bind fun w144 =>
 (AV.asI .u64 w144).bind fun n145 =>
 (σ135.ld (.n ((σ.next + 1) + 1)) 5).bind fun w146 =>
 (AV.asI .i64 w146).bind fun n147 =>
 (σ135.ld (.n ((σ.next + 1) + 1)) 6).bind fun w148 =>
 (AV.asI .i64 w148).bind fun n149 =>
 some ((.tup [(.agg [(.sl l137.1 l137.2), (.i .u64 n139), (.i .u64 n141), (.i .u64 n143), (.i .u64 n145), (.i .i64 n147), (.i .i64 n149)]), (.b ((n92 : Int) == n119))]), σ135)
 else (bif ((n22 : Int) == 2) then
 (σ20.ld (.n (σ.next + 1)) 1).bind fun w150 =>
 (AV.asI .i64 w150).bind fun n151 =>
 (σ20.ld (.n (σ.next + 1)) 5).bind fun w152 =>
 (AV.asI .i64 w152).bind fun n153 =>
 (k44 [(.p p0), (.i .i64 n151), (.i .i64 n153)] σ20).bind fun r154 =>
 (AV.asI .i64 r154.1).bind fun n155 =>
 (r154.2.ld (.n σ.next) 0).bind fun w156 =>
 (AV.asSl w156).bind fun l157 =>
 (r154.2.ld (.n σ.next) 1).bind fun w158 =>
 (AV.asI .u64 w158).bind fun n159 =>
 (r154.2.ld (.n σ.next) 2).bind fun w160 =>
 (AV.asI .u64 w160).bind fun n161 =>
 (r154.2.ld (.n σ.next) 3).bind fun w162 =>
 (AV.asI .u64 w162).bind fun n163 =>
 (r154.2.ld (.n σ.next) 4).bind fun w164 =>
 (AV.asI .u64 w164).bind fun n165 =>
 (r154.2.ld (.n σ.next) 5).bind fun w166 =>
 (AV.asI .i64 w166).bind fun n167 =>
 (r154.2.ld (.n σ.next) 6).bind fun w168 =>
 (AV.asI .i64 w168).bind fun n169 =>
 (r154.2.ld (.n (σ.next + 1)) 1).bind fun w170 =>
 (AV.asI .i64 w170).bind fun n171 =>
 (r154.2.ld (.n (σ.next + 1)) 5).bind fun w172 =>
 (AV.asI .i64 w172).bind fun n173 =>
 (k119 [(.agg [(.sl l157.1 l157.2), (.i .u64 n159), (.i .u64 n161), (.i .u64 n163), (.i .u64 n165), (.i .i64 n167), (.i .i64 n169)]), (.i .i64 n171), (.i .i64 n173)] r154.2).bind fun r174 =>
 (AV.asTup 2 r174.1).bind fun c175 =>
 (AV.asAgg 7 (c175.getD 0 .u)).bind fun c176 =>
 (AV.asSl (c176.getD 0 .u)).bind fun l177 =>
 (AV.asI .u64 (c176.getD 1 .u)).bind fun n178 =>
 (AV.asI .u64 (c176.getD 2 .u)).bind fun n179 =>
 (AV.asI .u64 (c176.getD 3 .u)).bind fun n180 =>
 (AV.asI .u64 (c176.getD 4 .u)).bind fun n181 =>
 (AV.asI .i64 (c176.getD 5 .u)).bind fun n182 =>
 (AV.asI .i64 (c176.getD 6 .u)).bind fun n183 =>
 (AV.asI .i64 (c175.getD 1 .u)).bind fun n184 =>
 (r174.2.st (.n σ.next) 0 [(.sl l177.1 l177.2), (.i .u64 n178), (.i .u64 n179), (.i .u64 n180), (.i .u64 n181), (.i .i64 n182), (.i .i64 n183)]).bind fun σ185 =>
 (σ185.ld (.n σ.next) 0).bind fun w186 =>
 (AV.asSl w186).bind fun l187 =>
 (σ185.ld (.n σ.next) 1).bind fun w188 =>
 (AV.asI .u64 w188).bind fun n189 =>
 (σ185.ld (.n σ.next) 2).bind fun w190 =>
 (AV.asI .u64 w190).bind fun n191 =>
 (σ185.ld (.n σ.next) 3).bind fun w192 =>
 (AV.asI .u64 w192).bind fun n193 =>
 (σ185.ld (.n σ.next) 4).bind fun w194 =>
 (AV.asI .u64 w194).bind fun n195 =>
 (σ185.ld (.n σ.next) 5).bind fun w196 =>
 (AV.asI .i64 w196).bind fun n197 =>
 (σ185.ld (.n σ.next) 6).bind fun w198 =>
 (AV.asI .i64 w198).bind fun n199 =>
 (σ185.st (.n ((σ.next + 1) + 1)) 0 [(.sl l187.1 l187.2), (.i .u64 n189), (.i .u64 n191), (.i .u64 n193), (.i .u64 n195), (.i .i64 n197), (.i .i64 n199)]).bind fun σ200 =>
 (σ200.ld (.n ((σ.next + 1) + 1)) 0).bind fun w201 =>
 (AV.asSl w201).bind fun l202 =>
 (σ200.ld (.n ((σ.next + 1) + 1)) 1).bind fun w203 =>
 (AV.asI .u64 w203).bind fun n204 =>
 (σ200.ld (.n ((σ.next + 1) + 1)) 2).bind fun w205 =>
 (AV.asI .u64 w205).bind fun n206 =>
 (σ200.ld (.n ((σ.next + 1) + 1)) 3).bind fun w207 =>
 (AV.asI .u64 w207).bind fun n208 =>
 (σ200.ld (.n ((σ.next + 1) + 1)) 4).bind fun w209 =>
 (AV.asI .u64 w209).bind fun n210 =>
 (σ200.ld (.n ((σ.next + 1) + 1)) 5).bind fun w211 =>
 (AV.asI .i64 w211).bind fun n212 =>
 (σ200.ld (.n ((σ.next + 1) + 1)) 6).bind fun w213 =>
 (AV.asI .i64 w213).bind fun n214 =>
 some ((.tup [(.agg [(.sl l202.1 l202.2), (.i .u64 n204), (.i .u64 n206), (.i .u64 n208), (.i .u64 n210), (.i .i64 n212), (.i .i64 n214)]), (.b ((n155 : Int) == n184))]), σ200)
 else (bif ((n22 : Int) == 3) then
 (σ20.ld (.n (σ.next + 1)) 1).bind fun w215 =>
 (AV.asI .i64 w215).bind fun n216 =>
 (σ20.ld (.n (σ.next + 1)) 2).bind fun w217 =>
 (AV.asI .i64 w217).bind fun n218 =>
 (k47 [(.p p0), (.i .i64 n216), (.i .i64 n218)] σ20).bind fun r219 =>
 (AV.asTup 2 r219.1).bind fun c220 =>
 (AV.asI .u64 (c220.getD 0 .u)).bind fun n221 =>
 (AV.asI .i64 (c220.getD 1 .u)).bind fun n222 =>
 (r219.2.ld (.n σ.next) 0).bind fun w223 =>
 (AV.asSl w223).bind fun l224 =>
 (r219.2.ld (.n σ.next) 1).bind fun w225 =>
 (AV.asI .u64 w225).bind fun n226 =>
 (r219.2.ld (.n σ.next) 2).bind fun w227 =>
 (AV.asI .u64 w227).bind fun n228 =>
 (r219.2.ld (.n σ.next) 3).bind fun w229 =>
 (AV.asI .u64 w229).bind fun n230 =>
 (r219.2.ld (.n σ.next) 4).bind fun w231 =>
 (AV.asI .u64 w231).bind fun n232 =>
 (r219.2.ld (.n σ.next) 5).bind fun w233 =>
 (AV.asI .i64 w233).bind fun n234 =>
 (r219.2.ld (.n σ.next) 6).bind fun w235 =>
 (AV.asI .i64 w235).bind fun n236 =>
 (r219.2.ld (.n (σ.next + 1)) 1).bind fun w237 =>
 (AV.asI .i64 w237).bind fun n238 =>
 (r219.2.ld (.n (σ.next + 1)) 2).bind fun w239 =>
 (AV.asI .i64 w239).bind fun n240 =>
 (k120 [(.agg [(.sl l224.1 l224.2), (.i .u64 n226), (.i .u64 n228), (.i .u64 n230), (.i .u64 n232), (.i .i64 n234), (.i .i64 n236)]), (.i .i64 n238), (.i .i64 n240)] r219.2).bind fun r241 =>
 (AV.asTup 3 r241.1).bind fun c242 =>
 (AV.asAgg 7 (c242.getD 0 .u)).bind fun c243 =>
 (AV.asSl (c243.getD 0 .u)).bind fun l244 =>
 (AV.asI .u64 (c243.getD 1 .u)).bind fun n245 =>
 (AV.asI .u64 (c243.getD 2 .u)).bind fun n246 =>
 (AV.asI .u64 (c243.getD 3 .u)).bind fun n247 =>
 (AV.asI .u64 (c243.getD 4 .u)).bind fun n248 =>
 (AV.asI .i64 (c243.getD 5 .u)).bind fun n249 =>
 (AV.asI .i64 (c243.getD 6 .u)).bind fun n250 =>
 (AV.asI .u64 (c242.getD 1 .u)).bind fun n251 =>
 (AV.asI .i64 (c242.getD 2 .u)).bind fun n252 =>
 (r241.2.st (.n σ.next) 0 [(.sl l244.1 l244.2), (.i .u64 n245), (.i .u64 n246), (.i .u64 n247), (.i .u64 n248), (.i .i64 n249), (.i .i64 n250)]).bind fun σ253 =>
 (σ253.ld (.n σ.next) 0).bind fun w254 =>
 (AV.asSl w254).bind fun l255 =>
 (σ253.ld (.n σ.next) 1).bind fun w256 =>
 (AV.asI .u64 w256).bind fun n257 =>
 (σ253.ld (.n σ.next) 2).bind fun w258 =>
 (AV.asI .u64 w258).bind fun n259 =>
 (σ253.ld (.n σ.next) 3).bind fun w260 =>
 (AV.asI .u64 w260).bind fun n261 =>
 (σ253.ld (.n σ.next) 4).bind fun w262 =>
 (AV.asI .u64 w262).bind fun n263 =>
 (σ253.ld (.n σ.next) 5).bind fun w264 =>
 (AV.asI .i64 w264).bind fun n265 =>
 (σ253.ld (.n σ.next) 6).bind fun w266 =>
 (AV.asI .i64 w266).bind fun n267 =>
 ((bif (((n221 : Int) == n251) == true) then
 some ([(.b ((n222 : Int) == n252))], σ253)
 else some ([(.b false)], σ253)) : Option (List AV × AH O)).bind fun r268 =>
 (AV.asB (r268.1.getD 0 .u)).bind fun b269 =>
 (r268.2.st (.n ((σ.next + 1) + 1)) 0 [(.sl l255.1 l255.2), (.i .u64 n257), (.i .u64 n259), (.i .u64 n261), (.i .u64 n263), (.i .i64 n265), (.i .i64 n267)]).bind fun σ270 =>
 (σ270.ld (.n ((σ.next + 1) + 1)) 0).bind fun w271 =>
 (AV.asSl w271).bind fun l272 =>
 (σ270.ld (.n ((σ.next + 1) + 1)) 1).bind fun w273 =>
 (AV.asI .u64 w273).bind fun n274 =>
 (σ270.ld (.n ((σ.next + 1) + 1)) 2).bind fun w275 =>
 (AV.asI .u64 w275).bind fun n276 =>
 (σ270.ld (.n ((σ.next + 1) + 1)) 3).bind fun w277 =>
 (AV.asI .u64 w277).bind fun n278 =>
 (σ270.ld (.n ((σ.next + 1) + 1)) 4).bind fun w279 =>
 (AV.asI .u64 w279).bind fun n280 =>
 (σ270.ld (.n ((σ.next + 1) + 1)) 5).bind fun w281 =>
 (AV.asI .i64 w281).bind fun n282 =>
 (σ270.ld (.n ((σ.next + 1) + 1)) 6).bind fun w283 =>
 (AV.asI .i64 w283).bind fun n284 =>
 some ((.tup [(.agg [(.sl l272.1 l272.2), (.i .u64 n274), (.i .u64 n276), (.i .u64 n278), (.i .u64 n280), (.i .i64 n282), (.i .i64 n284)]), (.b b269)]), σ270)
 else (bif ((n22 : Int) == 4) then
 (σ20.ld (.n (σ.next + 1)) 1).bind fun w285 =>
 (AV.asI .i64 w285).bind fun n286 =>
 (σ20.ld (.n (σ.next + 1)) 2).bind fun w287 =>
 (AV.asI .i64 w287).bind fun n288 =>
 (σ20.ld (.n (σ.next + 1)) 6).bind fun w289 =>
 (AV.asI .u64 w289).bind fun n290 =>
 (k43 [(.p p0), (.i .i64 n286), (.i .i64 n288), (.i .u64 n290)] σ20).bind fun r291 =>
 (AV.asI .i64 r291.1).bind fun n292 =>
 (r291.2.ld (.n σ.next) 0).bind fun w293 =>
 (AV.asSl w293).bind fun l294 =>
 (r291.2.ld (.n σ.next) 1).bind fun w295 =>
 (AV.asI .u64 w295).bind fun n296 =>
 (r291.2.ld (.n σ.next) 2).bind fun w297 =>
 (AV.asI .u64 w297).bind fun n298 =>
 (r291.2.ld (.n σ.next) 3).bind fun w299 =>
 (AV.asI .u64 w299).bind fun n300 =>
 (r291.2.ld (.n σ.next) 4).bind fun w301 =>
 (AV.asI .u64 w301).bind fun n302 =>
 (r291.2.ld (.n σ.next) 5).bind fun w303 =>
 (AV.asI .i64 w303).bind fun n304 =>
 (r291.2.ld (.n σ.next) 6).bind fun w305 =>
 (AV.asI .i64 w305).bind fun n306 =>
 (r291.2.ld (.n (σ.next + 1)) 1).bind fun w307 =>
 (AV.asI .i64 w307).bind fun n308 =>
 (r291.2.ld (.n (σ.next + 1)) 2).bind fun w309 =>
 (AV.asI .i64 w309).bind fun n310 =>
 (r291.2.ld (.n (σ.next + 1)) 6).bind fun w311 =>
 (AV.asI .u64 w311).bind fun n312 =>
 (k121 [(.agg [(.sl l294.1 l294.2), (.i .u64 n296), (.i .u64 n298), (.i .u64 n300), (.i .u64 n302), (.i .i64 n304), (.i .i64 n306)]), (.i .i64 n308), (.i .i64 n310), (.i .u64 n312)] r291.2).bind fun r313 =>
 (AV.asTup 2 r313.1).bind fun c314 =>
 (AV.asAgg 7 (c314.getD 0 .u)).bind fun c315 =>
 (AV.asSl (c315.getD 0 .u)).bind fun l316 =>
 (AV.asI .u64 (c315.getD 1 .u)).bind fun n317 =>
 (AV.asI .u64 (c315.getD 2 .u)).bind fun n318 =>
 (AV.asI .u64 (c315.getD 3 .u)).bind fun n319 =>
 (AV.asI .u64 (c315.getD 4 .u)).bind fun n320 =>
 (AV.asI .i64 (c315.getD 5 .u)).bind fun n321 =>
 (AV.asI .i64 (c315.getD 6 .u)).bind fun n322 =>
 (AV.asI .i64 (c314.getD 1 .u)).bind fun n323 =>
 (r313.2.st (.n σ.next) 0 [(.sl l316.1 l316.2), (.i .u64 n317), (.i .u64 n318), (.i .u64 n319), (.i .u64 n320), (.i .i64 n321), (.i .i64 n322)]).bind fun σ324 =>
 (σ324.ld (.n σ.next) 0).bind fun w325 =>
 (AV.asSl w325).bind fun l326 =>
 (σ324.ld (.n σ.next) 1).bind fun w327 =>
 (AV.asI .u64 w327).bind fun n328 =>
 (σ324.ld (.n σ.next) 2).bind fun w329 =>
 (AV.asI .u64 w329).bind fun n330 =>
 (σ324.ld (.n σ.next) 3).bind fun w331 =>
 (AV.asI .u64 w331).bind fun n332 =>
 (σ324.ld (.n σ.next) 4).bind fun w333 =>
 (AV.asI .u64 w333).bind fun n334 =>
 (σ324.ld (.n σ.next) 5).bind fun w335 =>
 (AV.asI .i64 w335).bind fun n336 =>
 (σ324.ld (.n σ.next) 6).bind fun w337 =>
 (AV.asI .i64 w337).bind fun n338 =>
 (σ324.st (.n ((σ.next + 1) + 1)) 0 [(.sl l326.1 l326.2), (.i .u64 n328), (.i .u64 n330), (.i .u64 n332), (.i .u64 n334), (.i .i64 n336), (.i .i64 n338)]).bind fun σ339 =>
 (σ339.ld (.n ((σ.next + 1) + 1)) 0).bind fun w340 =>
 (AV.asSl w340).bind fun l341 =>
 (σ339.ld (.n ((σ.next + 1) + 1)) 1).bind fun w342 =>
 (AV.asI .u64 w342).bind fun n343 =>
 (σ339.ld (.n ((σ.next + 1) + 1)) 2).bind fun w344 =>
 (AV.asI .u64 w344).bind fun n345 =>
 (σ339.ld (.n ((σ.next + 1) + 1)) 3).bind fun w346 =>
 (AV.asI .u64 w346).bind fun n347 =>
 (σ339.ld (.n ((σ.next + 1) + 1)) 4).bind fun w348 =>
 (AV.asI .u64 w348).bind fun n349 =>
 (σ339.ld (.n ((σ.next + 1) + 1)) 5).bind fun w350 =>
 (AV.asI .i64 w350).bind fun n351 =>
 (σ339.ld (.n ((σ.next + 1) + 1)) 6).bind fun w352 =>
 (AV.asI .i64 w352).bind fun n353 =>
 some ((.tup [(.agg [(.sl l341.1 l341.2), (.i .u64 n343), (.i .u64 n345), (.i .u64 n347), (.i .u64 n349), (.i .i64 n351), (.i .i64 n353)]), (.b ((n292 : Int) == n323))]), σ339)
 else (bif ((n22 : Int) == 5) then
 (σ20.ld (.n (σ.next + 1)) 1).bind fun w354 =>
 (AV.asI .i64 w354).bind fun n355 =>
 (σ20.ld (.n (σ.next + 1)) 2).bind fun w356 =>
 (AV.asI .i64 w356).bind fun n357 =>
 (σ20.ld (.n (σ.next + 1)) 5).bind fun w358 =>
 (AV.asI .i64 w358).bind fun n359 =>
 (k45 [(.p p0), (.i .i64 n355), (.i .i64 n357), (.i .i64 n359)] σ20).bind fun r360 =>
 (AV.asI .i64 r360.1).bind fun n361 =>
 (r360.2.ld (.n σ.next) 0).bind fun w362 =>
 (AV.asSl w362).bind fun l363 =>
 (r360.2.ld (.n σ.next) 1).bind fun w364 =>
 (AV.asI .u64 w364).bind fun n365 =>
 (r360.2.ld (.n σ.next) 2).bind fun w366 =>
 (AV.asI .u64 w366).bind fun n367 =>
 (r360.2.ld (.n σ.next) 3).bind fun w368 =>
 (AV.asI .u64 w368).bind fun n369 =>
 (r360.2.ld (.n σ.next) 4).bind fun w370 =>
 (AV.asI .u64 w370).bind fun n371 =>
 (r360.2.ld (.n σ.next) 5).bind fun w372 =>
 (AV.asI .i64 w372).bind fun n373 =>
 (r360.2.ld (.n σ.next) 6).bind fun w374 =>
 (AV.asI .i64 w374).bind fun n375 =>
 (r360.2.ld (.n (σ.next + 1)) 1).bind fun w376 =>
 (AV.asI .i64 w376).bind fun n377 =>
 (r360.2.ld (.n (σ.next + 1)) 2).bind fun w378 =>
 (AV.asI .i64 w378).bind fun n379 =>
 (r360.2.ld (.n (σ.next + 1)) 5).bind fun w380 =>
 (AV.asI .i64 w380).bind fun n381 =>
 (k122 [(.agg [(.sl l363.1 l363.2), (.i .u64 n365), (.i .u64 n367), (.i .u64 n369), (.i .u64 n371), (.i .i64 n373), (.i .i64 n375)]), (.i .i64 n377), (.i .i64 n379), (.i .i64 n381)] r360.2).bind fun r382 =>
 (AV.asTup 2 r382.1).bind fun c383 =>
 (AV.asAgg 7 (c383.getD 0 .u)).bind fun c384 =>
 (AV.asSl (c384.getD 0 .u)).bind fun l385 =>
 (AV.asI .u64 (c384.getD 1 .u)).bind fun n386 =>
 (AV.asI .u64 (c384.getD 2 .u)).bind fun n387 =>
 (AV.asI .u64 (c384.getD 3 .u)).bind fun n388 =>
 (AV.asI .u64 (c384.getD 4 .u)).bind fun n389 =>
 (AV.asI .i64 (c384.getD 5 .u)).bind fun n390 =>
 (AV.asI .i64 (c384.getD 6 .u)).bind fun n391 =>
 (AV.asI .i64 (c383.getD 1 .u)).bind fun n392 =>
 (r382.2.st (.n σ.next) 0 [(.sl l385.1 l385.2), (.i .u64 n386), (.i .u64 n387), (.i .u64 n388), (.i .u64 n389), (.i .i64 n390), (.i .i64 n391)]).bind fun σ393 =>
 (σ393.ld (.n σ.next) 0).bind fun w394 =>
 (AV.asSl w394).bind fun l395 =>
 (σ393.ld (.n σ.next) 1).bind fun w396 =>
 (AV.asI .u64 w396).bind fun n397 =>
 (σ393.ld (.n σ.next) 2).bind fun w398 =>
 (AV.asI .u64 w398).bind fun n399 =>
 (σ393.ld (.n σ.next) 3).bind fun w400 =>
 (AV.asI .u64 w400).bind fun n401 =>
 (σ393.ld (.n σ.next) 4).bind fun w402 =>
 (AV.asI .u64 w402).bind fun n403 =>
 (σ393.ld (.n σ.next) 5).bind fun w404 =>
 (AV.asI .i64 w404).bind fun n405 =>
 (σ393.ld (.n σ.next) 6).bind fun w406 =>
 (AV.asI .i64 w406).bind fun n407 =>
 (σ393.st (.n ((σ.next + 1) + 1)) 0 [(.sl l395.1 l395.2), (.i .u64 n397), (.i .u64 n399), (.i .u64 n401), (.i .u64 n403), (.i .i64 n405), (.i .i64 n407)]).bind fun σ408 =>
 (σ408.ld (.n ((σ.next + 1) + 1)) 0).bind fun w409 =>
 (AV.asSl w409).bind fun l410 =>
 (σ408.ld (.n ((σ.next + 1) + 1)) 1).bind fun w411 =>
 (AV.asI .u64 w411).bind fun n412 =>
 (σ408.ld (.n ((σ.next + 1) + 1)) 2).bind fun w413 =>
 (AV.asI .u64 w413).bind fun n414 =>
 (σ408.ld (.n ((σ.next + 1) + 1)) 3).bind fun w415 =>
 (AV.asI .u64 w415).bind fun n416 =>
 (σ408.ld (.n ((σ.next + 1) + 1)) 4).bind fun w417 =>
 (AV.asI .u64 w417).bind fun n418 =>
 (σ408.ld (.n ((σ.next + 1) + 1)) 5).bind fun w419 =>
 (AV.asI .i64 w419).bind fun n420 =>
 (σ408.ld (.n ((σ.next + 1) + 1)) 6).bind fun w421 =>
 (AV.asI .i64 w421).bind fun n422 =>
 some ((.tup [(.agg [(.sl l410.1 l410.2), (.i .u64 n412), (.i .u64 n414), (.i .u64 n416), (.i .u64 n418), (.i .i64 n420), (.i .i64 n422)]), (.b ((n361 : Int) == n392))]), σ408)
 else (bif ((n22 : Int) == 6) then
 (σ20.ld (.n (σ.next + 1)) 1).bind fun w423 =>
 (AV.asI .i64 w423).bind fun n424 =>
 (σ20.ld (.n (σ.next + 1)) 2).bind fun w425 =>
 (AV.asI .i64 w425).bind fun n426 =>
 (σ20.ld (.n (σ.next + 1)) 3).bind fun w427 =>
 (AV.asI .i64 w427).bind fun n428 =>
 (σ20.ld (.n (σ.next + 1)) 4).bind fun w429 =>
 (AV.asI .i64 w429).bind fun n430 =>
 (σ20.ld (.n (σ.next + 1)) 5).bind fun w431 =>
 (AV.asI .i64 w431).bind fun n432 =>
 (k46 [(.p p0), (.i .i64 n424), (.i .i64 n426), (.i .i64 n428), (.i .i64 n430), (.i .i64 n432)] σ20).bind fun r433 =>
 (AV.asI .i64 r433.1).bind fun n434 =>
 (r433.2.ld (.n σ.next) 0).bind fun w435 =>
 (AV.asSl w435).bind fun l436 =>
 (r433.2.ld (.n σ.next) 1).bind fun w437 =>
 (AV.asI .u64 w437).bind fun n438 =>
 (r433.2.ld (.n σ.next) 2).bind fun w439 =>
 (AV.asI .u64 w439).bind fun n440 =>
 (r433.2.ld (.n σ.next) 3).bind fun w441 =>
 (AV.asI .u64 w441).bind fun n442 =>
 (r433.2.ld (.n σ.next) 4).bind fun w443 =>
 (AV.asI .u64 w443).bind fun n444 =>
 (r433.2.ld (.n σ.next) 5).bind fun w445 =>
 (AV.asI .i64 w445).bind fun n446 =>
 (r433.2.ld (.n σ.next) 6).bind fun w447 =>
 (AV.asI .i64 w447).bind fun n448 =>
 (r433.2.ld (.n (σ.next + 1)) 1).bind fun w449 =>
 (AV.asI .i64 w449).bind fun n450 =>
 (r433.2.ld (.n (σ.next + 1)) 2).bind fun w451 =>
 (AV.asI .i64 w451).bind fun n452 =>
 (r433.2.ld (.n (σ.next + 1)) 3).bind fun w453 =>
 (AV.asI .i64 w453).bind fun n454 =>
 (r433.2.ld (.n (σ.next + 1)) 4).bind fun w455 =>
 (AV.asI .i64 w455).bind fun n456 =>
 (r433.2.ld (.n (σ.next + 1)) 5).bind fun w457 =>
 (AV.asI .i64 w457).bind fun n458 =>
 (k123 [(.agg [(.sl l436.1 l436.2), (.i .u64 n438), (.i .u64 n440), (.i .u64 n442), (.i .u64 n444), (.i .i64 n446), (.i .i64 n448)]), (.i .i64 n450), (.i .i64 n452), (.i .i64 n454), (.i .i64 n456), (.i .i64 n458)] r433.2).bind fun r459 =>
 (AV.asTup 2 r459.1).bind fun c460 =>
 (AV.asAgg 7 (c460.getD 0 .u)).bind fun c461 =>
 (AV.asSl (c461.getD 0 .u)).bind fun l462 =>
 (AV.asI .u64 (c461.getD 1 .u)).bind fun n463 =>
 (AV.asI .u64 (c461.getD 2 .u)).bind fun n464 =>
 (AV.asI .u64 (c461.getD 3 .u)).bind fun n465 =>
 (AV.asI .u64 (c461.getD 4 .u)).bind fun n466 =>
 (AV.asI .i64 (c461.getD 5 .u)).bind fun n467 =>
 (AV.asI .i64 (c461.getD 6 .u)).bind fun n468 =>
 (AV.asI .i64 (c460.getD 1 .u)).bind fun n469 =>
 (r459.2.st (.n σ.next) 0 [(.sl l462.1 l462.2), (.i .u64 n463), (.i .u64 n464), (.i .u64 n465), (.i .u64 n466), (.i .i64 n467), (.i .i64 n468)]).bind fun σ470 =>
 (σ470.ld (.n σ.next) 0).bind fun w471 =>
 (AV.asSl w471).bind fun l472 =>
 (σ470.ld (.n σ.next) 1).bind fun w473 =>
 (AV.asI .u64 w473).bind fun n474 =>
 (σ470.ld (.n σ.next) 2).bind fun w475 =>
 (AV.asI .u64 w475).bind fun n476 =>
 (σ470.ld (.n σ.next) 3).bind fun w477 =>
 (AV.asI .u64 w477).bind fun n478 =>
 (σ470.ld (.n σ.next) 4).bind fun w479 =>
 (AV.asI .u64 w479).bind fun n480 =>
 (σ470.ld (.n σ.next) 5).bind fun w481 =>
 (AV.asI .i64 w481).bind fun n482 =>
 (σ470.ld (.n σ.next) 6).bind fun w483 =>
 (AV.asI .i64 w483).bind fun n484 =>
 (σ470.st (.n ((σ.next + 1) + 1)) 0 [(.sl l472.1 l472.2), (.i .u64 n474), (.i .u64 n476), (.i .u64 n478), (.i .u64 n480), (.i .i64 n482), (.i .i64 n484)]).bind fun σ485 =>
 (σ485.ld (.n ((σ.next + 1) + 1)) 0).bind fun w486 =>
 (AV.asSl w486).bind fun l487 =>
 (σ485.ld (.n ((σ.next + 1) + 1)) 1).bind fun w488 =>
 (AV.asI .u64 w488).bind fun n489 =>
 (σ485.ld (.n ((σ.next + 1) + 1)) 2).bind fun w490 =>
 (AV.asI .u64 w490).bind fun n491 =>
 (σ485.ld (.n ((σ.next + 1) + 1)) 3).bind fun w492 =>
 (AV.asI .u64 w492).bind fun n493 =>
 (σ485.ld (.n ((σ.next + 1) + 1)) 4).bind fun w494 =>
 (AV.asI .u64 w494).bind fun n495 =>
 (σ485.ld (.n ((σ.next + 1) + 1)) 5).bind fun w496 =>
 (AV.asI .i64 w496).bind fun n497 =>
 (σ485.ld (.n ((σ.next + 1) + 1)) 6).bind fun w498 =>
 (AV.asI .i64 w498).bind fun n499 =>
 some ((.tup [(.agg [(.sl l487.1 l487.2), (.i .u64 n489), (.i .u64 n491), (.i .u64 n493), (.i .u64 n495), (.i .i64 n497), (.i .i64 n499)]), (.b ((n434 : Int) == n469))]), σ485)
 else (σ20.ld (.n (σ.next + 1)) 1).bind fun w500 =>
 (AV.asI .i64 w500).bind fun n501 =>
 (k124 [(.p p0), (.i .i64 n501)] σ20).bind fun r502 =>
 (AV.asTup 2 r502.1).bind fun c503 =>
 (AV.asI .i64 (c503.getD 0 .u)).bind fun n504 =>
 (AV.asI .i64 (c503.getD 1 .u)).bind fun n505 =>
 (r502.2.ld (.n (σ.next + 1)) 1).bind fun w506 =>
 (AV.asI .i64 w506).bind fun n507 =>
 (k125 [(.p p0), (.i .i64 n507)] r502.2).bind fun r508 =>
 (AV.asTup 2 r508.1).bind fun c509 =>
 (AV.asSl (c509.getD 0 .u)).bind fun l510 =>
 (AV.asI .i64 (c509.getD 1 .u)).bind fun n511 =>
 (r508.2.ld (.n σ.next) 0).bind fun w512 =>
 (AV.asSl w512).bind fun l513 =>
 (r508.2.ld (.n σ.next) 1).bind fun w514 =>
 (AV.asI .u64 w514).bind fun n515 =>
 (r508.2.ld (.n σ.next) 2).bind fun w516 =>
 (AV.asI .u64 w516).bind fun n517 =>
 (r508.2.ld (.n σ.next) 3).bind fun w518 =>
 (AV.asI .u64 w518).bind fun n519 =>
 (r508.2.ld (.n σ.next) 4).bind fun w520 =>
 (AV.asI .u64 w520).bind fun n521 =>
 (r508.2.ld (.n σ.next) 5).bind fun w522 =>
 (AV.asI .i64 w522).bind fun n523 =>
 (r508.2.ld (.n σ.next) 6).bind fun w524 =>
 (AV.asI .i64 w524).bind fun n525 =>
 (r508.2.ld (.n (σ.next + 1)) 1).bind fun w526 =>
 (AV.asI .i64 w526).bind fun n527 =>
 (k126 [(.agg [(.sl l513.1 l513.2), (.i .u64 n515), (.i .u64 n517), (.i .u64 n519), (.i .u64 n521), (.i .i64 n523), (.i .i64 n525)]), (.i .i64 n527)] r508.2).bind fun r528 =>
 (AV.asB r528.1).bind fun b529 =>
 (bif (!b529) then
 (r528.2.ld (.n σ.next) 0).bind fun w530 =>
 (AV.asSl w530).bind fun l531 =>
 (r528.2.ld (.n σ.next) 1).bind fun w532 =>
 (AV.asI .u64 w532).bind fun n533 =>
 (r528.2.ld (.n σ.next) 2).bind fun w534 =>
 (AV.asI .u64 w534).bind fun n535 =>
 (r528.2.ld (.n σ.next) 3).bind fun w536 =>
 (AV.asI .u64 w536).bind fun n537 =>
 (r528.2.ld (.n σ.next) 4).bind fun w538 =>
 (AV.asI .u64 w538).bind fun n539 =>
 (r528.2.ld (.n σ.next) 5).bind fun w540 =>
 (AV.asI .i64 w540).bind fun n541 =>
 (r528.2.ld (.n σ.next) 6).bind fun w542 =>
 (AV.asI .i64 w542).bind fun n543 =>
 ((bif (((n504 : Int) == 0) == true) then
 some ([(.b (((l510.2 : Int) : Int) == 0))], r528.2)
 else some ([(.b false)], r528.2)) : Option (List AV × AH O)).bind fun r544 =>
 (AV.asB (r544.1.getD 0 .u)).bind fun b545 =>
 ((bif (b545 == true) then
 some ([(.b ((n505 : Int) == 10))], r544.2)
 else some ([(.b false)], r544.2)) : Option (List AV × AH O)).bind fun r546 =>
 (AV.asB (r546.1.getD 0 .u)).bind fun b547 =>
 ((bif (b547 == true) then
 some ([(.b ((n511 : Int) == 10))], r546.2)
 else some ([(.b false)], r546.2)) : Option (List AV × AH O)).bind fun r548 =>
 (AV.asB (r548.1.getD 0 .u)).bind fun b549 =>
 (r548.2.st (.n ((σ.next + 1) + 1)) 0 [(.sl l531.1 l531.2), (.i .u64 n533), (.i .u64 n535), (.i .u64 n537), (.i .u64 n539), (.i .i64 n541), (.i .i64 n543)]).bind fun σ550 =>
 (σ550.ld (.n ((σ.next + 1) + 1)) 0).bind fun w551 =>
 (AV.asSl w551).bind fun l552 =>
 (σ550.ld (.n ((σ.next + 1) + 1)) 1).bind fun w553 =>
 (AV.asI .u64 w553).bind fun n554 =>
 (σ550.ld (.n ((σ.next + 1) + 1)) 2).bind fun w555 =>
 (AV.asI .u64 w555).bind fun n556 =>
 (σ550.ld (.n ((σ.next + 1) + 1)) 3).bind fun w557 =>
 (AV.asI .u64 w557).bind fun n558 =>
 (σ550.ld (.n ((σ.next + 1) + 1)) 4).bind fun w559 =>
 (AV.asI .u64 w559).bind fun n560 =>
 (σ550.ld (.n ((σ.next + 1) + 1)) 5).bind fun w561 =>
 (AV.asI .i64 w561).bind fun n562 =>
 (σ550.ld (.n ((σ.next + 1) + 1)) 6).bind fun w563 =>
 (AV.asI .i64 w563).bind fun n564 =>
 some ((.tup [(.agg [(.sl l552.1 l552.2), (.i .u64 n554), (.i .u64 n556), (.i .u64 n558), (.i .u64 n560), (.i .i64 n562), (.i .i64 n564)]), (.b b549)]), σ550)
 else (r528.2.ld (.n σ.next) 0).bind fun w565 =>
 (AV.asSl w565).bind fun l566 =>
 (r528.2.ld (.n σ.next) 1).bind fun w567 =>
 (AV.asI .u64 w567).bind fun n568 =>
 (r528.2.ld (.n σ.next) 2).bind fun w569 =>
 (AV.asI .u64 w569).bind fun n570 =>
 (r528.2.ld (.n σ.next) 3).bind fun w571 =>
 (AV.asI .u64 w571).bind fun n572 =>
 (r528.2.ld (.n σ.next) 4).bind fun w573 =>
 (AV.asI .u64 w573).bind fun n574 =>
 (r528.2.ld (.n σ.next) 5).bind fun w575 =>
 (AV.asI .i64 w575).bind fun n576 =>
 (r528.2.ld (.n σ.next) 6).bind fun w577 =>
 (AV.asI .i64 w577).bind fun n578 =>
 (r528.2.ld (.n σ.next) 0).bind fun w579 =>
 (AV.asSl w579).bind fun l580 =>
 (r528.2.ld (.n (σ.next + 1)) 1).bind fun w581 =>
 (AV.asI .i64 w581).bind fun n582 =>
 (bif ((decide ((0 : Int) ≤ n582)) && (decide (n582 < (l580.2 : Int)))) then
 (SA.ref l580.1).bind fun q583 =>
 (r528.2.ld q583.1 ((q583.2 + (n582.toNat * 2)) + 1)).bind fun w584 =>
 (AV.asSl w584).bind fun l585 =>
 ((bif (((n504 : Int) == (l585.2 : Int)) == true) then
 (r528.2.ld (.n σ.next) 0).bind fun w586 =>
 (AV.asSl w586).bind fun l587 =>
 (r528.2.ld (.n (σ.next + 1)) 1).bind fun w588 =>
 (AV.asI .i64 w588).bind fun n589 =>
 (bif ((decide ((0 : Int) ≤ n589)) && (decide (n589 < (l587.2 : Int)))) then
 (SA.ref l587.1).bind fun q590 =>
 (r528.2.ld q590.1 ((q590.2 + (n589.toNat * 2)) + 1)).bind fun w591 =>
 (AV.asSl w591).bind fun l592 =>
 (k127 [(.sl l510.1 l510.2), (.sl l592.1 l592.2)] r528.2).bind fun r593 =>
 (AV.asB r593.1).bind fun b594 =>
 (chk (r593.2.ld (.n σ.next) 0 = some (.sl l566.1 l566.2))).bind fun _ =>
 (chk (r593.2.ld (.n σ.next) 1 = some (.i .u64 n568))).bind fun _ =>
 (chk (r593.2.ld (.n σ.next) 2 = some (.i .u64 n570))).bind fun _ =>
 (chk (r593.2.ld (.n σ.next) 3 = some (.i .u64 n572))).bind fun _ =>
 (chk (r593.2.ld (.n σ.next) 4 = some (.i .u64 n574))).bind fun _ =>
 (chk (r593.2.ld (.n σ.next) 5 = some (.i .i64 n576))).bind fun _ =>
 (chk (r593.2.ld (.n σ.next) 6 = some (.i .i64 n578))).bind fun _ =>
 some ([(.b b594)], r593.2)
 else none)
 else some ([(.b false)], r528.2)) : Option (List AV × AH O)).bind fun r595 =>
 (AV.asB (r595.1.getD 0 .u)).bind fun b596 =>
 ((bif (b596 == true) then
 some ([(.b ((n505 : Int) == 0))], r595.2)
 else some ([(.b false)], r595.2)) : Option (List AV × AH O)).bind fun r597 =>
 (AV.asB (r597.1.getD 0 .u)).bind fun b598 =>
 ((bif (b598 == true) then
 some ([(.b ((n511 : Int) == 0))], r597.2)
 else some ([(.b false)], r597.2)) : Option (List AV × AH O)).bind fun r599 =>
 (AV.asB (r599.1.getD 0 .u)).bind fun b600 =>
 (r599.2.st (.n ((σ.next + 1) + 1)) 0 [(.sl l566.1 l566.2), (.i .u64 n568), (.i .u64 n570), (.i .u64 n572), (.i .u64 n574), (.i .i64 n576), (.i .i64 n578)]).bind fun σ601 =>
 (σ601.ld (.n ((σ.next + 1) + 1)) 0).bind fun w602 =>
 (AV.asSl w602).bind fun l603 =>
 (σ601.ld (.n ((σ.next + 1) + 1)) 1).bind fun w604 =>
 (AV.asI .u64 w604).bind fun n605 =>
 (σ601.ld (.n ((σ.next + 1) + 1)) 2).bind fun w606 =>
 (AV.asI .u64 w606).bind fun n607 =>
 (σ601.ld (.n ((σ.next + 1) + 1)) 3).bind fun w608 =>
 (AV.asI .u64 w608).bind fun n609 =>
 (σ601.ld (.n ((σ.next + 1) + 1)) 4).bind fun w610 =>
 (AV.asI .u64 w610).bind fun n611 =>
 (σ601.ld (.n ((σ.next + 1) + 1)) 5).bind fun w612 =>
 (AV.asI .i64 w612).bind fun n613 =>
 (σ601.ld (.n ((σ.next + 1) + 1)) 6).bind fun w614 =>
 (AV.asI .i64 w614).bind fun n615 =>
 some ((.tup [(.agg [(.sl l603.1 l603.2), (.i .u64 n605), (.i .u64 n607), (.i .u64 n609), (.i .u64 n611), (.i .i64 n613), (.i .i64 n615)]), (.b b600)]), σ601)
 else none)))))))))
 else none
noncomputable def law08_do {O : Type} : Sm O := law08_do_c mem_Mem__Open haymowref08_Open mem_Mem__Close haymowref08_Close mem_Mem__Grow haymowref08_Grow mem_Mem__Read haymowref08_Read mem_Mem__Write haymowref08_Write mem_Mem__Zero haymowref08_Zero mem_Mem__Copy haymowref08_Copy mem_Mem__Size mem_Mem__Look haymowref08_Is haymowref05_Same
theorem law08_do_ent : Entered Try.prog 55 := Try.call55
theorem law08_do_run {O : Type} (k36 k117 k39 k118 k44 k119 k47 k120 k43 k121 k45 k122 k46 k123 k124 k125 k126 k127 : Sm O) : run (O := O) Try.prog [(36, k36), (117, k117), (39, k39), (118, k118), (44, k44), (119, k119), (47, k47), (120, k120), (43, k43), (121, k121), (45, k45), (122, k122), (46, k46), (123, k123), (124, k124), (125, k125), (126, k126), (127, k127)] Try.f55 (.n .z (.n .z (.n (.n .z (.n (.n .z (.n (.n .z (.n .z (.n (.g [(4, 3, [(51, .one .b)])]) .z))) (.n .z (.n (.n .z (.n .z .z)) (.n .z (.n (.n .z (.n .z .z)) (.n .z (.n (.n .z (.n .z (.n .z (.n (.g [(4, 3, [(119, .one .b)])]) .z)))) (.n .z (.n (.n .z (.n .z .z)) (.n .z (.n (.n .z (.n .z .z)) (.n .z (.n (.n .z (.n .z .z)) .z)))))))))))))) .z)) (.n .z (.n .z (.n (.n .z (.n (.n (.g [(3, 3, [(229, .one .b)]), (8, 2, [(233, .one .b)]), (12, 2, [(237, .one .b)])]) .z) .z)) (.n (.d [(11, 9, [(259, .one .b)]), (22, 2, [(263, .one .b)]), (26, 2, [(267, .one .b)])] [0, 1, 2, 3, 4, 5, 6, 7, 8, 9, 10, 11, 12, 13, 14, 15, 16, 17, 18, 19, 20, 21, 22, 23, 24, 25, 26, 27, 28, 29, 30, 31] [0, 0, 0, 4, 0, 16, 60, 124, 252, 508, 1022, 2046, 4094, 4094, 12286, 4094, 36862, 126974, 258046, 520190, 1048574, 2097150, 4194302, 8388606, 16777214, 33554430, 67108862, 134217726, 268435454, 536870910, 134217727, 2147483647]) .z))))))) = law08_do_c k36 k117 k39 k118 k44 k119 k47 k120 k43 k121 k45 k122 k46 k123 k124 k125 k126 k127 := by kernel_rfl
theorem law08_do_sound {O : Type} {RO : O → Loc → (Nat → Option Obj) → Prop} : FSound RO Try.prog 55 (law08_do) :=
   have h : FSound RO Try.prog 55 (law08_do_c mem_Mem__Open haymowref08_Open mem_Mem__Close haymowref08_Close mem_Mem__Grow haymowref08_Grow mem_Mem__Read haymowref08_Read mem_Mem__Write haymowref08_Write mem_Mem__Zero haymowref08_Zero mem_Mem__Copy haymowref08_Copy mem_Mem__Size mem_Mem__Look haymowref08_Is haymowref05_Same) := (law08_do_run mem_Mem__Open haymowref08_Open mem_Mem__Close haymowref08_Close mem_Mem__Grow haymowref08_Grow mem_Mem__Read haymowref08_Read mem_Mem__Write haymowref08_Write mem_Mem__Zero haymowref08_Zero mem_Mem__Copy haymowref08_Copy mem_Mem__Size mem_Mem__Look haymowref08_Is haymowref05_Same) ▸ run_sound (gcons mem_Mem__Open_ent (mem_Mem__Open_sound) <| gcons haymowref08_Open_ent (haymowref08_Open_sound) <| gcons mem_Mem__Close_ent (mem_Mem__Close_sound) <| gcons haymowref08_Close_ent (haymowref08_Close_sound) <| gcons mem_Mem__Grow_ent (mem_Mem__Grow_sound) <| gcons haymowref08_Grow_ent (haymowref08_Grow_sound) <| gcons mem_Mem__Read_ent (mem_Mem__Read_sound) <| gcons haymowref08_Read_ent (haymowref08_Read_sound) <| gcons mem_Mem__Write_ent (mem_Mem__Write_sound) <| gcons haymowref08_Write_ent (haymowref08_Write_sound) <| gcons mem_Mem__Zero_ent (mem_Mem__Zero_sound) <| gcons haymowref08_Zero_ent (haymowref08_Zero_sound) <| gcons mem_Mem__Copy_ent (mem_Mem__Copy_sound) <| gcons haymowref08_Copy_ent (haymowref08_Copy_sound) <| gcons mem_Mem__Size_ent (mem_Mem__Size_sound) <| gcons mem_Mem__Look_ent (mem_Mem__Look_sound) <| gcons haymowref08_Is_ent (haymowref08_Is_sound) <| gcons haymowref05_Same_ent (haymowref05_Same_sound) <| gnil) mixed Try.func55 (by kernel_rfl) _
   h

/-- (*haymow/mem.Mem).Spaces -/
noncomputable def mem_Mem__Spaces_c {O : Type} : Sm O := fun xs σ =>
 bif Nat.beq xs.length 1 then
 (AV.asP (xs.getD 0 .u)).bind fun p0 =>
 Option.bind p0 fun q1 =>
 (σ.ld q1.1 (q1.2 + 3)).bind fun w2 =>
 (AV.asI .i64 w2).bind fun n3 =>
 some ((.i .i64 n3), σ)
 else none
noncomputable def mem_Mem__Spaces {O : Type} : Sm O := mem_Mem__Spaces_c
theorem mem_Mem__Spaces_ent : Entered Try.prog 38 := Try.call38
theorem mem_Mem__Spaces_run {O : Type} : run (O := O) Try.prog [] Try.f38 (.n .z .z) = mem_Mem__Spaces_c  := by kernel_rfl
theorem mem_Mem__Spaces_sound {O : Type} {RO : O → Loc → (Nat → Option Obj) → Prop} : FSound RO Try.prog 38 (mem_Mem__Spaces) :=
   have h : FSound RO Try.prog 38 (mem_Mem__Spaces_c) := (mem_Mem__Spaces_run) ▸ run_sound (gnil) mixed Try.func38 (by kernel_rfl) _
   h

/-- (*haymow/meter.Meter).High -/
noncomputable def meter_Meter__High_c {O : Type} : Sm O := fun xs σ =>
 bif Nat.beq xs.length 1 then
 (AV.asP (xs.getD 0 .u)).bind fun p0 =>
 (bif (Option.isNone p0) then
 some ((.i .i64 0), σ)
 else Option.bind p0 fun q1 =>
 (σ.ld q1.1 ((q1.2 + 4) + 1)).bind fun w2 =>
 (AV.asI .i64 w2).bind fun n3 =>
 some ((.i .i64 n3), σ))
 else none
noncomputable def meter_Meter__High {O : Type} : Sm O := meter_Meter__High_c
theorem meter_Meter__High_ent : Entered Try.prog 40 := Try.call40
theorem meter_Meter__High_run {O : Type} : run (O := O) Try.prog [] Try.f40 (.n .z (.n (.n .z (.n .z .z)) .z)) = meter_Meter__High_c  := by kernel_rfl
theorem meter_Meter__High_sound {O : Type} {RO : O → Loc → (Nat → Option Obj) → Prop} : FSound RO Try.prog 40 (meter_Meter__High) :=
   have h : FSound RO Try.prog 40 (meter_Meter__High_c) := (meter_Meter__High_run) ▸ run_sound (gnil) mixed Try.func40 (by kernel_rfl) _
   h

/-- haymow/haymowlaw08.meters -/
noncomputable def law08_meters_c {O : Type} (k37 k40 k111 : Sm O) : Sm O := fun xs σ =>
 bif Nat.beq xs.length 2 then
 (AV.asP (xs.getD 0 .u)).bind fun p0 =>
 (AV.asAgg 6 (xs.getD 1 .u)).bind fun c1 =>
 (AV.asI .u64 (c1.getD 0 .u)).bind fun n2 =>
 (AV.asI .u64 (c1.getD 1 .u)).bind fun n3 =>
 (AV.asI .u64 (c1.getD 2 .u)).bind fun n4 =>
 (AV.asI .u64 (c1.getD 3 .u)).bind fun n5 =>
 (AV.asI .i64 (c1.getD 4 .u)).bind fun n6 =>
 (AV.asI .i64 (c1.getD 5 .u)).bind fun n7 =>
 let σ8 := σ.bump 1
 let σ9 := σ8.put σ.next (.cells true 87 [(.i .u64 n2), (.i .u64 n3), (.i .u64 n4), (.i .u64 n5), (.i .i64 n6), (.i .i64 n7)])
 Option.bind p0 fun q10 =>
 (σ9.ld q10.1 q10.2).bind fun w11 =>
 (AV.asP w11).bind fun p12 =>
 (σ9.ld (.n σ.next) 4).bind fun w13 =>
 (AV.asI .i64 w13).bind fun n14 =>
 (k37 [(.p p12)] σ9).bind fun r15 =>
 (AV.asI .i64 r15.1).bind fun n16 =>
 (chk (r15.2.ld (.n σ.next) 4 = some (.i .i64 n14))).bind fun _ =>
 ((bif (((n16 : Int) == n14) == true) then
 Option.bind p0 fun q17 =>
 (r15.2.ld q17.1 q17.2).bind fun w18 =>
 (AV.asP w18).bind fun p19 =>
 (r15.2.ld (.n σ.next) 5).bind fun w20 =>
 (AV.asI .i64 w20).bind fun n21 =>
 (k40 [(.p p19)] r15.2).bind fun r22 =>
 (AV.asI .i64 r22.1).bind fun n23 =>
 (chk (r22.2.ld (.n σ.next) 5 = some (.i .i64 n21))).bind fun _ =>
 some ([(.b ((n23 : Int) == n21))], r22.2)
 else some ([(.b false)], r15.2)) : Option (List AV × AH O)).bind fun r24 =>
 (AV.asB (r24.1.getD 0 .u)).bind fun b25 =>
 ((bif (b25 == true) then
 Option.bind p0 fun q26 =>
 (r24.2.ld q26.1 q26.2).bind fun w27 =>
 (AV.asP w27).bind fun p28 =>
 (r24.2.ld (.n σ.next) 0).bind fun w29 =>
 (AV.asI .u64 w29).bind fun n30 =>
 (r24.2.ld (.n σ.next) 1).bind fun w31 =>
 (AV.asI .u64 w31).bind fun n32 =>
 (k111 [(.p p28), (.i .i64 0)] r24.2).bind fun r33 =>
 (AV.asAgg 2 r33.1).bind fun c34 =>
 (AV.asI .u64 (c34.getD 0 .u)).bind fun n35 =>
 (AV.asI .u64 (c34.getD 1 .u)).bind fun n36 =>
 (chk (r33.2.ld (.n σ.next) 0 = some (.i .u64 n30))).bind fun _ =>
 (chk (r33.2.ld (.n σ.next) 1 = some (.i .u64 n32))).bind fun _ =>
 let c37 : Bool := (((n35 : Int) == n30) && (((n36 : Int) == n32) && true))
 some ([(.b c37)], r33.2)
 else some ([(.b false)], r24.2)) : Option (List AV × AH O)).bind fun r38 =>
 (AV.asB (r38.1.getD 0 .u)).bind fun b39 =>
 ((bif (b39 == true) then
 Option.bind p0 fun q40 =>
 (r38.2.ld q40.1 q40.2).bind fun w41 =>
 (AV.asP w41).bind fun p42 =>
 (r38.2.ld (.n σ.next) 2).bind fun w43 =>
 (AV.asI .u64 w43).bind fun n44 =>
 (r38.2.ld (.n σ.next) 3).bind fun w45 =>
 (AV.asI .u64 w45).bind fun n46 =>
 (k111 [(.p p42), (.i .i64 1)] r38.2).bind fun r47 =>
 (AV.asAgg 2 r47.1).bind fun c48 =>
 (AV.asI .u64 (c48.getD 0 .u)).bind fun n49 =>
 (AV.asI .u64 (c48.getD 1 .u)).bind fun n50 =>
 (chk (r47.2.ld (.n σ.next) 2 = some (.i .u64 n44))).bind fun _ =>
 (chk (r47.2.ld (.n σ.next) 3 = some (.i .u64 n46))).bind fun _ =>
 let c51 : Bool := (((n49 : Int) == n44) && (((n50 : Int) == n46) && true))
 some ([(.b c51)], r47.2)
 else some ([(.b false)], r38.2)) : Option (List AV × AH O)).bind fun r52 =>
 (AV.asB (r52.1.getD 0 .u)).bind fun b53 =>
 some ((.b b53), r52.2)
 else none
noncomputable def law08_meters {O : Type} : Sm O := law08_meters_c meter_Meter__Held meter_Meter__High meter_Meter__Of
theorem law08_meters_ent : Entered Try.prog 57 := Try.call57
theorem law08_meters_run {O : Type} (k37 k40 k111 : Sm O) : run (O := O) Try.prog [(37, k37), (40, k40), (111, k111)] Try.f57 (.n .z (.n (.d [(8, 8, [(22, .one .b)]), (18, 9, [(33, .one .b)]), (29, 9, [(44, .one .b)])] [0, 1, 2, 3, 5, 6, 4, 7, 8, 9, 10, 11, 12, 14, 15, 13, 16, 17, 18, 19, 20, 21, 22, 24, 25, 26, 23, 27, 28, 29, 30, 31, 32, 33, 35, 36, 37, 34, 38, 39, 40] [0, 1, 3, 7, 15, 0, 32, 127, 255, 511, 1023, 2047, 4095, 8191, 511, 16895, 65535, 131071, 262143, 524287, 1048575, 2097151, 4194303, 8388607, 524287, 17301503, 50855935, 134217727, 268435455, 536870911, 1073741823, 2147483647, 4294967295, 8589934591, 17179869183, 1073741823, 35433480191, 104152956927, 274877906943, 549755813887, 1099511627775]) .z)) = law08_meters_c k37 k40 k111 := by kernel_rfl
theorem law08_meters_sound {O : Type} {RO : O → Loc → (Nat → Option Obj) → Prop} : FSound RO Try.prog 57 (law08_meters) :=
   have h : FSound RO Try.prog 57 (law08_meters_c meter_Meter__Held meter_Meter__High meter_Meter__Of) := (law08_meters_run meter_Meter__Held meter_Meter__High meter_Meter__Of) ▸ run_sound (gcons meter_Meter__Held_ent (meter_Meter__Held_sound) <| gcons meter_Meter__High_ent (meter_Meter__High_sound) <| gcons meter_Meter__Of_ent (meter_Meter__Of_sound) <| gnil) mixed Try.func57 (by kernel_rfl) _
   h

/-- haymow/haymowlaw08.MemPlays -/
noncomputable def law08_MemPlays_L2 {O : Type} (r5 : AV × AH O) (k55 : Sm O) (p6 : Option (Bid × Nat)) : List AV × AH O → Option ((List AV × AH O) ⊕ ((List AV × AH O) ⊕ (AV × AH O))) := (fun r89 =>
 (AV.asI .i64 (r89.1.getD 0 .u)).bind fun n90 =>
 (r89.2.ld (.n r5.2.next) 0).bind fun w91 =>
 (AV.asSl w91).bind fun l92 =>
 (bif (decide (n90 < (l92.2 : Int))) then
 let σ93 := r89.2.bump 1
 (σ93.ld (.n r5.2.next) 0).bind fun w94 =>
 (AV.asSl w94).bind fun l95 =>
 (σ93.ld (.n r5.2.next) 1).bind fun w96 =>
 (AV.asI .u64 w96).bind fun n97 =>
 (σ93.ld (.n r5.2.next) 2).bind fun w98 =>
 (AV.asI .u64 w98).bind fun n99 =>
 (σ93.ld (.n r5.2.next) 3).bind fun w100 =>
 (AV.asI .u64 w100).bind fun n101 =>
 (σ93.ld (.n r5.2.next) 4).bind fun w102 =>
 (AV.asI .u64 w102).bind fun n103 =>
 (σ93.ld (.n r5.2.next) 5).bind fun w104 =>
 (AV.asI .i64 w104).bind fun n105 =>
 (σ93.ld (.n r5.2.next) 6).bind fun w106 =>
 (AV.asI .i64 w106).bind fun n107 =>
 (k55 [(.p p6), (.agg [(.sl l95.1 l95.2), (.i .u64 n97), (.i .u64 n99), (.i .u64 n101), (.i .u64 n103), (.i .i64 n105), (.i .i64 n107)]), (.agg [(.i .i64 7), (.i .i64 n90), (.i .i64 0), (.i .i64 0), (.i .i64 0), (.i .i64 0), (.i .u64 0)])] σ93).bind fun r108 =>
 (AV.asTup 2 r108.1).bind fun c109 =>
 (AV.asAgg 7 (c109.getD 0 .u)).bind fun c110 =>
 (AV.asSl (c110.getD 0 .u)).bind fun l111 =>
 (AV.asI .u64 (c110.getD 1 .u)).bind fun n112 =>
 (AV.asI .u64 (c110.getD 2 .u)).bind fun n113 =>
 (AV.asI .u64 (c110.getD 3 .u)).bind fun n114 =>
 (AV.asI .u64 (c110.getD 4 .u)).bind fun n115 =>
 (AV.asI .i64 (c110.getD 5 .u)).bind fun n116 =>
 (AV.asI .i64 (c110.getD 6 .u)).bind fun n117 =>
 (AV.asB (c109.getD 1 .u)).bind fun b118 =>
 let σ119 := r108.2.put r89.2.next (.cells true 89 [(.sl .nil 0), (.i .u64 0), (.i .u64 0), (.i .u64 0), (.i .u64 0), (.i .i64 0), (.i .i64 0)])
 (σ119.st (.n r89.2.next) 0 [(.sl l111.1 l111.2), (.i .u64 n112), (.i .u64 n113), (.i .u64 n114), (.i .u64 n115), (.i .i64 n116), (.i .i64 n117)]).bind fun σ120 =>
 (bif (!b118) then
 ((some ((.b false), σ120) : Option (AV × AH O)).map fun r => Sum.inr (Sum.inr r))
 else some (Sum.inl ([(.i .i64 (IntKind.i64.wrap (n90 + 1)))], σ120)))
 else some (Sum.inr (Sum.inl ([], r89.2)))))
noncomputable def law08_MemPlays_L1 {O : Type} (l0 : SA × Nat) (r5 : AV × AH O) (k55 : Sm O) (p6 : Option (Bid × Nat)) (k38 : Sm O) (k56 : Sm O) (k57 : Sm O) : List AV × AH O → Option ((List AV × AH O) ⊕ ((List AV × AH O) ⊕ (AV × AH O))) := (fun r9 =>
 (AV.asI .i64 (r9.1.getD 0 .u)).bind fun n10 =>
 (bif (decide (n10 < (l0.2 : Int))) then
 (r9.2.ld (.n r5.2.next) 0).bind fun w11 =>
 (AV.asSl w11).bind fun l12 =>
 (r9.2.ld (.n r5.2.next) 1).bind fun w13 =>
 (AV.asI .u64 w13).bind fun n14 =>
 (r9.2.ld (.n r5.2.next) 2).bind fun w15 =>
 (AV.asI .u64 w15).bind fun n16 =>
 (r9.2.ld (.n r5.2.next) 3).bind fun w17 =>
 (AV.asI .u64 w17).bind fun n18 =>
 (r9.2.ld (.n r5.2.next) 4).bind fun w19 =>
 (AV.asI .u64 w19).bind fun n20 =>
 (r9.2.ld (.n r5.2.next) 5).bind fun w21 =>
 (AV.asI .i64 w21).bind fun n22 =>
 (r9.2.ld (.n r5.2.next) 6).bind fun w23 =>
 (AV.asI .i64 w23).bind fun n24 =>
 (bif ((decide ((0 : Int) ≤ n10)) && (decide (n10 < (l0.2 : Int)))) then
 (SA.ref l0.1).bind fun q25 =>
 (r9.2.ld q25.1 (q25.2 + (n10.toNat * 7))).bind fun w26 =>
 (AV.asI .i64 w26).bind fun n27 =>
 (r9.2.ld q25.1 ((q25.2 + (n10.toNat * 7)) + 1)).bind fun w28 =>
 (AV.asI .i64 w28).bind fun n29 =>
 (r9.2.ld q25.1 (((q25.2 + (n10.toNat * 7)) + 1) + 1)).bind fun w30 =>
 (AV.asI .i64 w30).bind fun n31 =>
 (r9.2.ld q25.1 ((((q25.2 + (n10.toNat * 7)) + 1) + 1) + 1)).bind fun w32 =>
 (AV.asI .i64 w32).bind fun n33 =>
 (r9.2.ld q25.1 (((((q25.2 + (n10.toNat * 7)) + 1) + 1) + 1) + 1)).bind fun w34 =>
 (AV.asI .i64 w34).bind fun n35 =>
 (r9.2.ld q25.1 ((((((q25.2 + (n10.toNat * 7)) + 1) + 1) + 1) + 1) + 1)).bind fun w36 =>
 (AV.asI .i64 w36).bind fun n37 =>
 (r9.2.ld q25.1 (((((((q25.2 + (n10.toNat * 7)) + 1) + 1) + 1) + 1) + 1) + 1)).bind fun w38 =>
 (AV.asI .u64 w38).bind fun n39 =>
 (k55 [(.p p6), (.agg [(.sl l12.1 l12.2), (.i .u64 n14), (.i .u64 n16), (.i .u64 n18), (.i .u64 n20), (.i .i64 n22), (.i .i64 n24)]), (.agg [(.i .i64 n27), (.i .i64 n29), (.i .i64 n31), (.i .i64 n33), (.i .i64 n35), (.i .i64 n37), (.i .u64 n39)])] r9.2).bind fun r40 =>
 (AV.asTup 2 r40.1).bind fun c41 =>
 (AV.asAgg 7 (c41.getD 0 .u)).bind fun c42 =>
 (AV.asSl (c42.getD 0 .u)).bind fun l43 =>
 (AV.asI .u64 (c42.getD 1 .u)).bind fun n44 =>
 (AV.asI .u64 (c42.getD 2 .u)).bind fun n45 =>
 (AV.asI .u64 (c42.getD 3 .u)).bind fun n46 =>
 (AV.asI .u64 (c42.getD 4 .u)).bind fun n47 =>
 (AV.asI .i64 (c42.getD 5 .u)).bind fun n48 =>
 (AV.asI .i64 (c42.getD 6 .u)).bind fun n49 =>
 (AV.asB (c41.getD 1 .u)).bind fun b50 =>
 (r40.2.st (.n r5.2.next) 0 [(.sl l43.1 l43.2), (.i .u64 n44), (.i .u64 n45), (.i .u64 n46), (.i .u64 n47), (.i .i64 n48), (.i .i64 n49)]).bind fun σ51 =>
 ((bif ((!b50) == false) then
 (σ51.ld (.n r5.2.next) 0).bind fun w52 =>
 (AV.asSl w52).bind fun l53 =>
 (σ51.ld (.n r5.2.next) 1).bind fun w54 =>
 (AV.asI .u64 w54).bind fun n55 =>
 (σ51.ld (.n r5.2.next) 2).bind fun w56 =>
 (AV.asI .u64 w56).bind fun n57 =>
 (σ51.ld (.n r5.2.next) 3).bind fun w58 =>
 (AV.asI .u64 w58).bind fun n59 =>
 (σ51.ld (.n r5.2.next) 4).bind fun w60 =>
 (AV.asI .u64 w60).bind fun n61 =>
 (σ51.ld (.n r5.2.next) 5).bind fun w62 =>
 (AV.asI .i64 w62).bind fun n63 =>
 (σ51.ld (.n r5.2.next) 6).bind fun w64 =>
 (AV.asI .i64 w64).bind fun n65 =>
 (k38 [(.p p6)] σ51).bind fun r66 =>
 (AV.asI .i64 r66.1).bind fun n67 =>
 (chk (r66.2.ld (.n r5.2.next) 0 = some (.sl l53.1 l53.2))).bind fun _ =>
 (chk (r66.2.ld (.n r5.2.next) 1 = some (.i .u64 n55))).bind fun _ =>
 (chk (r66.2.ld (.n r5.2.next) 2 = some (.i .u64 n57))).bind fun _ =>
 (chk (r66.2.ld (.n r5.2.next) 3 = some (.i .u64 n59))).bind fun _ =>
 (chk (r66.2.ld (.n r5.2.next) 4 = some (.i .u64 n61))).bind fun _ =>
 (chk (r66.2.ld (.n r5.2.next) 5 = some (.i .i64 n63))).bind fun _ =>
 (chk (r66.2.ld (.n r5.2.next) 6 = some (.i .i64 n65))).bind fun _ =>
 (k56 [(.agg [(.sl l53.1 l53.2), (.i .u64 n55), (.i .u64 n57), (.i .u64 n59), (.i .u64 n61), (.i .i64 n63), (.i .i64 n65)])] r66.2).bind fun r68 =>
 (AV.asI .i64 r68.1).bind fun n69 =>
 some ([(.b ((n67 : Int) != n69))], r68.2)
 else some ([(.b true)], σ51)) : Option (List AV × AH O)).bind fun r70 =>
 (AV.asB (r70.1.getD 0 .u)).bind fun b71 =>
 ((bif (b71 == false) then
 (r70.2.ld (.n r5.2.next) 1).bind fun w72 =>
 (AV.asI .u64 w72).bind fun n73 =>
 (r70.2.ld (.n r5.2.next) 2).bind fun w74 =>
 (AV.asI .u64 w74).bind fun n75 =>
 (r70.2.ld (.n r5.2.next) 3).bind fun w76 =>
 (AV.asI .u64 w76).bind fun n77 =>
 (r70.2.ld (.n r5.2.next) 4).bind fun w78 =>
 (AV.asI .u64 w78).bind fun n79 =>
 (r70.2.ld (.n r5.2.next) 5).bind fun w80 =>
 (AV.asI .i64 w80).bind fun n81 =>
 (r70.2.ld (.n r5.2.next) 6).bind fun w82 =>
 (AV.asI .i64 w82).bind fun n83 =>
 (k57 [(.p p6), (.agg [(.i .u64 n73), (.i .u64 n75), (.i .u64 n77), (.i .u64 n79), (.i .i64 n81), (.i .i64 n83)])] r70.2).bind fun r84 =>
 (AV.asB r84.1).bind fun b85 =>
 some ([(.b (!b85))], r84.2)
 else some ([(.b true)], r70.2)) : Option (List AV × AH O)).bind fun r86 =>
 (AV.asB (r86.1.getD 0 .u)).bind fun b87 =>
 (bif b87 then
 ((some ((.b false), r86.2) : Option (AV × AH O)).map fun r => Sum.inr (Sum.inr r))
 else some (Sum.inl ([(.i .i64 (IntKind.i64.wrap (n10 + 1)))], r86.2)))
 else none)
 else some (Sum.inr (Sum.inl ([], r9.2)))))
noncomputable def law08_MemPlays_c {O : Type} (k34 k42 k35 k55 k38 k56 k57 : Sm O) : Sm O := fun xs σ =>
 bif Nat.beq xs.length 1 then
 (AV.asSl (xs.getD 0 .u)).bind fun l0 =>
 (k34 [] σ).bind fun r1 =>
 (AV.asB r1.1).bind fun b2 =>
 (bif (!b2) then
 some ((.b false), r1.2)
 else (k42 [(.sl l0.1 l0.2)] r1.2).bind fun r3 =>
 (AV.asB r3.1).bind fun b4 =>
 (bif (!b4) then
 some ((.b true), r3.2)
 else (k35 [] r3.2).bind fun r5 =>
 (AV.asP r5.1).bind fun p6 =>
 let σ7 := r5.2.bump 1
 let σ8 := σ7.put r5.2.next (.cells true 89 [(.sl .nil 0), (.i .u64 0), (.i .u64 0), (.i .u64 0), (.i .u64 0), (.i .i64 0), (.i .i64 0)])
 bindS (S := List AV × AH O) (R := (AV × AH O)) (loopF (S := List AV × AH O) (T := (List AV × AH O) ⊕ (AV × AH O)) (law08_MemPlays_L1 l0 r5 k55 p6 k38 k56 k57) ([(.i .i64 0)], σ8)) fun r88 =>
 bindS (S := List AV × AH O) (R := (AV × AH O)) (loopF (S := List AV × AH O) (T := (List AV × AH O) ⊕ (AV × AH O)) (law08_MemPlays_L2 r5 k55 p6) ([(.i .i64 0)], r88.2)) fun r121 =>
 some ((.b true), r121.2)))
 else none
noncomputable def law08_MemPlays {O : Type} : Sm O := law08_MemPlays_c law08_awake law08_few mem_New law08_do mem_Mem__Spaces haymowref08_Count law08_meters
theorem law08_MemPlays_ent : Entered Try.prog 9 := Try.call9
theorem law08_MemPlays_run {O : Type} (k34 k42 k35 k55 k38 k56 k57 : Sm O) : run (O := O) Try.prog [(34, k34), (42, k42), (35, k35), (55, k55), (38, k38), (56, k56), (57, k57)] Try.f9 (.n .z (.n (.n .z (.n .z .z)) (.n (.n .z (.n .z .z)) (.n .z (.n .z (.n (.n .z (.n (.lp true 0 [(5, .one (.i .i64))] [] (.n (.n .z .z) (.n (.n (.n .z (.n (.d [] [0, 1, 2, 3, 4, 5, 6, 7, 8, 9, 10, 11] [0, 0, 0, 0, 12, 28, 63, 127, 255, 255, 511, 2047]) (.n (.d [(2, 5, [(40, .one .b)]), (9, 5, [(47, .one .b)])] [0, 1, 2, 3, 5, 4, 6, 7, 8, 9, 10, 11, 12, 13, 14, 15] [0, 1, 3, 7, 15, 7, 63, 127, 255, 511, 1023, 1023, 3071, 8191, 16383, 32767]) (.n .z .z)))) .z) .z))) .z)) (.n (.n .z (.n (.lp true 2 [(7, .one (.i .i64))] [] (.n (.n .z .z) (.n (.n (.n .z (.n .z (.n .z .z))) .z) .z))) .z)) .z))))))) = law08_MemPlays_c k34 k42 k35 k55 k38 k56 k57 := by kernel_rfl
theorem law08_MemPlays_sound {O : Type} {RO : O → Loc → (Nat → Option Obj) → Prop} : FSound RO Try.prog 9 (law08_MemPlays) :=
   have h : FSound RO Try.prog 9 (law08_MemPlays_c law08_awake law08_few mem_New law08_do mem_Mem__Spaces haymowref08_Count law08_meters) := (law08_MemPlays_run law08_awake law08_few mem_New law08_do mem_Mem__Spaces haymowref08_Count law08_meters) ▸ run_sound (gcons law08_awake_ent (law08_awake_sound) <| gcons law08_few_ent (law08_few_sound) <| gcons mem_New_ent (mem_New_sound) <| gcons law08_do_ent (law08_do_sound) <| gcons mem_Mem__Spaces_ent (mem_Mem__Spaces_sound) <| gcons haymowref08_Count_ent (haymowref08_Count_sound) <| gcons law08_meters_ent (law08_meters_sound) <| gnil) mixed Try.func9 (by kernel_rfl) _
   h

/-- haymow/haymowlaw08.MemCloses -/
noncomputable def law08_MemCloses_L2 {O : Type} (l0 : SA × Nat) (n1 : Int) (k39 : Sm O) (p5 : Option (Bid × Nat)) : List AV × AH O → Option ((List AV × AH O) ⊕ ((List AV × AH O) ⊕ (AV × AH O))) := (fun r32 =>
 (AV.asI .i64 (r32.1.getD 0 .u)).bind fun n33 =>
 (bif (decide (n33 < (l0.2 : Int))) then
 (bif ((l0.2 : Int) == 0) then
 none
 else let v34 : Int := (Int.tmod (IntKind.i64.wrap (n33 + (IntKind.i64.wrap n1))) (l0.2 : Int))
 (k39 [(.p p5), (.i .i64 v34)] r32.2).bind fun r35 =>
 (AV.asI .i64 r35.1).bind fun n36 =>
 ((bif (((n36 : Int) != 0) == false) then
 (k39 [(.p p5), (.i .i64 v34)] r35.2).bind fun r37 =>
 (AV.asI .i64 r37.1).bind fun n38 =>
 some ([(.b ((n38 : Int) != 10))], r37.2)
 else some ([(.b true)], r35.2)) : Option (List AV × AH O)).bind fun r39 =>
 (AV.asB (r39.1.getD 0 .u)).bind fun b40 =>
 (bif b40 then
 ((some ((.b false), r39.2) : Option (AV × AH O)).map fun r => Sum.inr (Sum.inr r))
 else some (Sum.inl ([(.i .i64 (IntKind.i64.wrap (n33 + 1)))], r39.2))))
 else some (Sum.inr (Sum.inl ([], r32.2)))))
noncomputable def law08_MemCloses_L1 {O : Type} (l0 : SA × Nat) (k36 : Sm O) (p5 : Option (Bid × Nat)) : List AV × AH O → Option ((List AV × AH O) ⊕ ((List AV × AH O) ⊕ (AV × AH O))) := (fun r6 =>
 (AV.asI .i64 (r6.1.getD 0 .u)).bind fun n7 =>
 (AV.asI .i64 (r6.1.getD 1 .u)).bind fun n8 =>
 (bif (decide (n8 < (l0.2 : Int))) then
 (bif ((decide ((0 : Int) ≤ n8)) && (decide (n8 < (l0.2 : Int)))) then
 (SA.ref l0.1).bind fun q9 =>
 (r6.2.ld q9.1 (q9.2 + (n8.toNat * 1))).bind fun w10 =>
 (AV.asI .u8 w10).bind fun n11 =>
 (k36 [(.p p5), (.i .i64 (IntKind.i64.wrap n11))] r6.2).bind fun r12 =>
 (AV.asTup 2 r12.1).bind fun c13 =>
 (AV.asI .i64 (c13.getD 0 .u)).bind fun n14 =>
 (AV.asI .i64 (c13.getD 1 .u)).bind fun n15 =>
 ((bif (((n14 : Int) != n8) == false) then
 some ([(.b ((n15 : Int) != 0))], r12.2)
 else some ([(.b true)], r12.2)) : Option (List AV × AH O)).bind fun r16 =>
 (AV.asB (r16.1.getD 0 .u)).bind fun b17 =>
 (bif b17 then
 ((some ((.b false), r16.2) : Option (AV × AH O)).map fun r => Sum.inr (Sum.inr r))
 else (bif ((decide ((0 : Int) ≤ n8)) && (decide (n8 < (l0.2 : Int)))) then
 (SA.ref l0.1).bind fun q18 =>
 (r16.2.ld q18.1 (q18.2 + (n8.toNat * 1))).bind fun w19 =>
 (AV.asI .u8 w19).bind fun n20 =>
 some (Sum.inl ([(.i .i64 (IntKind.i64.wrap (n7 + (IntKind.i64.wrap n20)))), (.i .i64 (IntKind.i64.wrap (n8 + 1)))], r16.2))
 else none))
 else none)
 else some (Sum.inr (Sum.inl ([(.i .i64 n7)], r6.2)))))
noncomputable def law08_MemCloses_c {O : Type} (k34 k35 k36 k37 k38 k39 k40 k41 : Sm O) : Sm O := fun xs σ =>
 bif Nat.beq xs.length 2 then
 (AV.asSl (xs.getD 0 .u)).bind fun l0 =>
 (AV.asI .u8 (xs.getD 1 .u)).bind fun n1 =>
 (k34 [] σ).bind fun r2 =>
 (AV.asB r2.1).bind fun b3 =>
 (bif (!b3) then
 some ((.b false), r2.2)
 else (bif (decide ((l0.2 : Int) > 40)) then
 some ((.b true), r2.2)
 else (k35 [] r2.2).bind fun r4 =>
 (AV.asP r4.1).bind fun p5 =>
 bindS (S := List AV × AH O) (R := (AV × AH O)) (loopF (S := List AV × AH O) (T := (List AV × AH O) ⊕ (AV × AH O)) (law08_MemCloses_L1 l0 k36 p5) ([(.i .i64 0), (.i .i64 0)], r4.2)) fun r21 =>
 (AV.asI .i64 (r21.1.getD 0 .u)).bind fun n22 =>
 Option.bind p5 fun q23 =>
 (r21.2.ld q23.1 q23.2).bind fun w24 =>
 (AV.asP w24).bind fun p25 =>
 (k37 [(.p p25)] r21.2).bind fun r26 =>
 (AV.asI .i64 r26.1).bind fun n27 =>
 ((bif (((n27 : Int) != n22) == false) then
 (k38 [(.p p5)] r26.2).bind fun r28 =>
 (AV.asI .i64 r28.1).bind fun n29 =>
 some ([(.b ((n29 : Int) != (l0.2 : Int)))], r28.2)
 else some ([(.b true)], r26.2)) : Option (List AV × AH O)).bind fun r30 =>
 (AV.asB (r30.1.getD 0 .u)).bind fun b31 =>
 (bif b31 then
 some ((.b false), r30.2)
 else bindS (S := List AV × AH O) (R := (AV × AH O)) (loopF (S := List AV × AH O) (T := (List AV × AH O) ⊕ (AV × AH O)) (law08_MemCloses_L2 l0 n1 k39 p5) ([(.i .i64 0)], r30.2)) fun r41 =>
 Option.bind p5 fun q42 =>
 (r41.2.ld q42.1 q42.2).bind fun w43 =>
 (AV.asP w43).bind fun p44 =>
 (k37 [(.p p44)] r41.2).bind fun r45 =>
 (AV.asI .i64 r45.1).bind fun n46 =>
 (k38 [(.p p5)] r45.2).bind fun r47 =>
 (AV.asI .i64 r47.1).bind fun n48 =>
 (k36 [(.p p5), (.i .i64 1)] r47.2).bind fun r49 =>
 (AV.asTup 2 r49.1).bind fun c50 =>
 (AV.asI .i64 (c50.getD 0 .u)).bind fun n51 =>
 (AV.asI .i64 (c50.getD 1 .u)).bind fun n52 =>
 ((bif (((n46 : Int) == 0) == true) then
 some ([(.b ((n48 : Int) == 0))], r49.2)
 else some ([(.b false)], r49.2)) : Option (List AV × AH O)).bind fun r53 =>
 (AV.asB (r53.1.getD 0 .u)).bind fun b54 =>
 ((bif (b54 == true) then
 some ([(.b ((n51 : Int) == 0))], r53.2)
 else some ([(.b false)], r53.2)) : Option (List AV × AH O)).bind fun r55 =>
 (AV.asB (r55.1.getD 0 .u)).bind fun b56 =>
 ((bif (b56 == true) then
 some ([(.b ((n52 : Int) == 0))], r55.2)
 else some ([(.b false)], r55.2)) : Option (List AV × AH O)).bind fun r57 =>
 (AV.asB (r57.1.getD 0 .u)).bind fun b58 =>
 ((bif (b58 == true) then
 Option.bind p5 fun q59 =>
 (r57.2.ld q59.1 q59.2).bind fun w60 =>
 (AV.asP w60).bind fun p61 =>
 (k40 [(.p p61)] r57.2).bind fun r62 =>
 (AV.asI .i64 r62.1).bind fun n63 =>
 some ([(.b ((n63 : Int) == (if 1 > n22 then 1 else n22)))], r62.2)
 else some ([(.b false)], r57.2)) : Option (List AV × AH O)).bind fun r64 =>
 (AV.asB (r64.1.getD 0 .u)).bind fun b65 =>
 ((bif (b65 == true) then
 Option.bind p5 fun q66 =>
 (r64.2.ld q66.1 q66.2).bind fun w67 =>
 (AV.asP w67).bind fun p68 =>
 (k41 [(.p p68)] r64.2).bind fun r69 =>
 (AV.asAgg 2 r69.1).bind fun c70 =>
 (AV.asI .u64 (c70.getD 0 .u)).bind fun n71 =>
 (AV.asI .u64 (c70.getD 1 .u)).bind fun n72 =>
 let c73 : Bool := (((n71 : Int) == 0) && (((n72 : Int) == 0) && true))
 some ([(.b c73)], r69.2)
 else some ([(.b false)], r64.2)) : Option (List AV × AH O)).bind fun r74 =>
 (AV.asB (r74.1.getD 0 .u)).bind fun b75 =>
 some ((.b b75), r74.2))))
 else none
noncomputable def law08_MemCloses {O : Type} : Sm O := law08_MemCloses_c law08_awake mem_New mem_Mem__Open meter_Meter__Held mem_Mem__Spaces mem_Mem__Close meter_Meter__High meter_Meter__Steps
theorem law08_MemCloses_ent : Entered Try.prog 6 := Try.call6
theorem law08_MemCloses_run {O : Type} (k34 k35 k36 k37 k38 k39 k40 k41 : Sm O) : run (O := O) Try.prog [(34, k34), (35, k35), (36, k36), (37, k37), (38, k38), (39, k39), (40, k40), (41, k41)] Try.f6 (.n .z (.n (.n .z (.n .z .z)) (.n (.n .z (.n .z .z)) (.n .z (.n .z (.n (.n .z (.n (.lp true 0 [(6, .one (.i .i64)), (7, .one (.i .i64))] [(6, .one (.i .i64))] (.n (.n .z .z) (.n (.n (.n .z (.n (.n (.g [(3, 2, [(44, .one .b)])]) (.n .z .z)) .z)) .z) .z))) .z)) (.n (.n (.g [(7, 5, [(65, .one .b)])]) (.n .z .z)) (.n (.n .z (.n (.lp true 2 [(10, .one (.i .i64))] [] (.n (.n .z .z) (.n (.n (.n .z (.n (.g [(4, 4, [(88, .one .b)])]) (.n .z .z))) .z) .z))) .z)) (.n .z (.n .z (.n (.g [(2, 2, [(106, .one .b)]), (6, 2, [(110, .one .b)]), (10, 2, [(114, .one .b)]), (14, 8, [(124, .one .b)]), (24, 7, [(133, .one .b)])]) .z))))))))))) = law08_MemCloses_c k34 k35 k36 k37 k38 k39 k40 k41 := by kernel_rfl
theorem law08_MemCloses_sound {O : Type} {RO : O → Loc → (Nat → Option Obj) → Prop} : FSound RO Try.prog 6 (law08_MemCloses) :=
   have h : FSound RO Try.prog 6 (law08_MemCloses_c law08_awake mem_New mem_Mem__Open meter_Meter__Held mem_Mem__Spaces mem_Mem__Close meter_Meter__High meter_Meter__Steps) := (law08_MemCloses_run law08_awake mem_New mem_Mem__Open meter_Meter__Held mem_Mem__Spaces mem_Mem__Close meter_Meter__High meter_Meter__Steps) ▸ run_sound (gcons law08_awake_ent (law08_awake_sound) <| gcons mem_New_ent (mem_New_sound) <| gcons mem_Mem__Open_ent (mem_Mem__Open_sound) <| gcons meter_Meter__Held_ent (meter_Meter__Held_sound) <| gcons mem_Mem__Spaces_ent (mem_Mem__Spaces_sound) <| gcons mem_Mem__Close_ent (mem_Mem__Close_sound) <| gcons meter_Meter__High_ent (meter_Meter__High_sound) <| gcons meter_Meter__Steps_ent (meter_Meter__Steps_sound) <| gnil) mixed Try.func6 (by kernel_rfl) _
   h

/-- haymow/haymowlaw08.MemHolds -/
noncomputable def law08_MemHolds_L1 {O : Type} (l4 : SA × Nat) (k36 : Sm O) (p12 : Option (Bid × Nat)) (n17 : Int) (k39 : Sm O) (k44 : Sm O) (v21 : Int) (k43 : Sm O) (k45 : Sm O) (k46 : Sm O) : List AV × AH O → Option ((List AV × AH O) ⊕ (List AV × AH O)) := (fun r26 =>
 (AV.asI .u64 (r26.1.getD 0 .u)).bind fun n27 =>
 (AV.asI .i64 (r26.1.getD 1 .u)).bind fun n28 =>
 (bif (decide (n28 < (l4.2 : Int))) then
 let σ29 := r26.2.bump 1
 (bif ((decide ((0 : Int) ≤ n28)) && (decide (n28 < (l4.2 : Int)))) then
 (SA.ref l4.1).bind fun q30 =>
 (σ29.ld q30.1 (q30.2 + (n28.toNat * 7))).bind fun w31 =>
 (AV.asI .i64 w31).bind fun n32 =>
 (σ29.ld q30.1 ((q30.2 + (n28.toNat * 7)) + 1)).bind fun w33 =>
 (AV.asI .i64 w33).bind fun n34 =>
 (σ29.ld q30.1 (((q30.2 + (n28.toNat * 7)) + 1) + 1)).bind fun w35 =>
 (AV.asI .i64 w35).bind fun n36 =>
 (σ29.ld q30.1 ((((q30.2 + (n28.toNat * 7)) + 1) + 1) + 1)).bind fun w37 =>
 (AV.asI .i64 w37).bind fun n38 =>
 (σ29.ld q30.1 (((((q30.2 + (n28.toNat * 7)) + 1) + 1) + 1) + 1)).bind fun w39 =>
 (AV.asI .i64 w39).bind fun n40 =>
 (σ29.ld q30.1 ((((((q30.2 + (n28.toNat * 7)) + 1) + 1) + 1) + 1) + 1)).bind fun w41 =>
 (AV.asI .i64 w41).bind fun n42 =>
 (σ29.ld q30.1 (((((((q30.2 + (n28.toNat * 7)) + 1) + 1) + 1) + 1) + 1) + 1)).bind fun w43 =>
 (AV.asI .u64 w43).bind fun n44 =>
 let σ45 := σ29.put r26.2.next (.cells true 67 [(.i .i64 0), (.i .i64 0), (.i .i64 0), (.i .i64 0), (.i .i64 0), (.i .i64 0), (.i .u64 0)])
 (σ45.st (.n r26.2.next) 0 [(.i .i64 n32), (.i .i64 n34), (.i .i64 n36), (.i .i64 n38), (.i .i64 n40), (.i .i64 n42), (.i .u64 n44)]).bind fun σ46 =>
 (σ46.ld (.n r26.2.next) 0).bind fun w47 =>
 (AV.asI .i64 w47).bind fun n48 =>
 ((bif ((n48 : Int) == 0) then
 (σ46.ld (.n r26.2.next) 5).bind fun w49 =>
 (AV.asI .i64 w49).bind fun n50 =>
 (k36 [(.p p12), (.i .i64 n50)] σ46).bind fun r51 =>
 (AV.asTup 2 r51.1).bind fun c52 =>
 (AV.asI .i64 (c52.getD 0 .u)).bind fun n53 =>
 (AV.asI .i64 (c52.getD 1 .u)).bind fun n54 =>
 some ([(.i .u64 n27)], r51.2)
 else ((bif ((n48 : Int) == 1) then
 (σ46.ld (.n r26.2.next) 1).bind fun w55 =>
 (AV.asI .i64 w55).bind fun n56 =>
 ((bif ((n56 : Int) != n17) then
 (σ46.ld (.n r26.2.next) 1).bind fun w57 =>
 (AV.asI .i64 w57).bind fun n58 =>
 (k39 [(.p p12), (.i .i64 n58)] σ46).bind fun r59 =>
 (AV.asI .i64 r59.1).bind fun n60 =>
 some ([], r59.2)
 else some ([], σ46)) : Option (List AV × AH O)).bind fun r61 =>
 some ([(.i .u64 n27)], r61.2)
 else ((bif ((n48 : Int) == 2) then
 (σ46.ld (.n r26.2.next) 1).bind fun w62 =>
 (AV.asI .i64 w62).bind fun n63 =>
 (σ46.ld (.n r26.2.next) 5).bind fun w64 =>
 (AV.asI .i64 w64).bind fun n65 =>
 (k44 [(.p p12), (.i .i64 n63), (.i .i64 n65)] σ46).bind fun r66 =>
 (AV.asI .i64 r66.1).bind fun n67 =>
 some ([(.i .u64 n27)], r66.2)
 else ((bif ((n48 : Int) == 4) then
 (σ46.ld (.n r26.2.next) 1).bind fun w68 =>
 (AV.asI .i64 w68).bind fun n69 =>
 ((bif (((n69 : Int) != n17) == false) then
 (σ46.ld (.n r26.2.next) 2).bind fun w70 =>
 (AV.asI .i64 w70).bind fun n71 =>
 some ([(.b ((n71 : Int) != v21))], σ46)
 else some ([(.b true)], σ46)) : Option (List AV × AH O)).bind fun r72 =>
 (AV.asB (r72.1.getD 0 .u)).bind fun b73 =>
 ((bif (b73 == true) then
 (r72.2.ld (.n r26.2.next) 1).bind fun w74 =>
 (AV.asI .i64 w74).bind fun n75 =>
 (r72.2.ld (.n r26.2.next) 2).bind fun w76 =>
 (AV.asI .i64 w76).bind fun n77 =>
 (r72.2.ld (.n r26.2.next) 6).bind fun w78 =>
 (AV.asI .u64 w78).bind fun n79 =>
 (k43 [(.p p12), (.i .i64 n75), (.i .i64 n77), (.i .u64 n79)] r72.2).bind fun r80 =>
 (AV.asI .i64 r80.1).bind fun n81 =>
 some ([(.b ((n81 : Int) == 0))], r80.2)
 else some ([(.b false)], r72.2)) : Option (List AV × AH O)).bind fun r82 =>
 (AV.asB (r82.1.getD 0 .u)).bind fun b83 =>
 ((bif b83 then
 some ([(.i .u64 (IntKind.u64.wrap (n27 + 1)))], r82.2)
 else some ([(.i .u64 n27)], r82.2)) : Option (List AV × AH O)).bind fun r84 =>
 (AV.asI .u64 (r84.1.getD 0 .u)).bind fun n85 =>
 some ([(.i .u64 n85)], r84.2)
 else ((bif ((n48 : Int) == 5) then
 (σ46.ld (.n r26.2.next) 1).bind fun w86 =>
 (AV.asI .i64 w86).bind fun n87 =>
 ((bif (((n87 : Int) != n17) == true) then
 (σ46.ld (.n r26.2.next) 1).bind fun w88 =>
 (AV.asI .i64 w88).bind fun n89 =>
 (σ46.ld (.n r26.2.next) 2).bind fun w90 =>
 (AV.asI .i64 w90).bind fun n91 =>
 (σ46.ld (.n r26.2.next) 5).bind fun w92 =>
 (AV.asI .i64 w92).bind fun n93 =>
 (k45 [(.p p12), (.i .i64 n89), (.i .i64 n91), (.i .i64 n93)] σ46).bind fun r94 =>
 (AV.asI .i64 r94.1).bind fun n95 =>
 some ([(.b ((n95 : Int) == 0))], r94.2)
 else some ([(.b false)], σ46)) : Option (List AV × AH O)).bind fun r96 =>
 (AV.asB (r96.1.getD 0 .u)).bind fun b97 =>
 ((bif b97 then
 (r96.2.ld (.n r26.2.next) 5).bind fun w98 =>
 (AV.asI .i64 w98).bind fun n99 =>
 let v100 : Int := (IntKind.u64.wrap (n27 + (IntKind.u64.wrap n99)))
 some ([(.i .u64 v100)], r96.2)
 else some ([(.i .u64 n27)], r96.2)) : Option (List AV × AH O)).bind fun r101 =>
 (AV.asI .u64 (r101.1.getD 0 .u)).bind fun n102 =>
 some ([(.i .u64 n102)], r101.2)
 else ((bif ((n48 : Int) == 6) then
 (σ46.ld (.n r26.2.next) 3).bind fun w103 =>
 (AV.asI .i64 w103).bind fun n104 =>
 ((bif (((n104 : Int) != n17) == true) then
 (σ46.ld (.n r26.2.next) 1).bind fun w105 =>
 (AV.asI .i64 w105).bind fun n106 =>
 (σ46.ld (.n r26.2.next) 2).bind fun w107 =>
 (AV.asI .i64 w107).bind fun n108 =>
 (σ46.ld (.n r26.2.next) 3).bind fun w109 =>
 (AV.asI .i64 w109).bind fun n110 =>
 (σ46.ld (.n r26.2.next) 4).bind fun w111 =>
 (AV.asI .i64 w111).bind fun n112 =>
 (σ46.ld (.n r26.2.next) 5).bind fun w113 =>
 (AV.asI .i64 w113).bind fun n114 =>
 (k46 [(.p p12), (.i .i64 n106), (.i .i64 n108), (.i .i64 n110), (.i .i64 n112), (.i .i64 n114)] σ46).bind fun r115 =>
 (AV.asI .i64 r115.1).bind fun n116 =>
 some ([(.b ((n116 : Int) == 0))], r115.2)
 else some ([(.b false)], σ46)) : Option (List AV × AH O)).bind fun r117 =>
 (AV.asB (r117.1.getD 0 .u)).bind fun b118 =>
 ((bif b118 then
 (r117.2.ld (.n r26.2.next) 5).bind fun w119 =>
 (AV.asI .i64 w119).bind fun n120 =>
 let v121 : Int := (IntKind.u64.wrap (n27 + (IntKind.u64.wrap (2 * (IntKind.u64.wrap n120)))))
 some ([(.i .u64 v121)], r117.2)
 else some ([(.i .u64 n27)], r117.2)) : Option (List AV × AH O)).bind fun r122 =>
 (AV.asI .u64 (r122.1.getD 0 .u)).bind fun n123 =>
 some ([(.i .u64 n123)], r122.2)
 else some ([(.i .u64 n27)], σ46)) : Option (List AV × AH O)).bind fun r124 =>
 (AV.asI .u64 (r124.1.getD 0 .u)).bind fun n125 =>
 some ([(.i .u64 n125)], r124.2)) : Option (List AV × AH O)).bind fun r126 =>
 (AV.asI .u64 (r126.1.getD 0 .u)).bind fun n127 =>
 some ([(.i .u64 n127)], r126.2)) : Option (List AV × AH O)).bind fun r128 =>
 (AV.asI .u64 (r128.1.getD 0 .u)).bind fun n129 =>
 some ([(.i .u64 n129)], r128.2)) : Option (List AV × AH O)).bind fun r130 =>
 (AV.asI .u64 (r130.1.getD 0 .u)).bind fun n131 =>
 some ([(.i .u64 n131)], r130.2)) : Option (List AV × AH O)).bind fun r132 =>
 (AV.asI .u64 (r132.1.getD 0 .u)).bind fun n133 =>
 some ([(.i .u64 n133)], r132.2)) : Option (List AV × AH O)).bind fun r134 =>
 (AV.asI .u64 (r134.1.getD 0 .u)).bind fun n135 =>
 some (Sum.inl ([(.i .u64 n135), (.i .i64 (IntKind.i64.wrap (n28 + 1)))], r134.2))
 else none)
 else some (Sum.inr ([(.i .u64 n27)], r26.2))))
noncomputable def law08_MemHolds_c {O : Type} (k34 k42 k35 k36 k43 k39 k44 k45 k46 k47 k41 : Sm O) : Sm O := fun xs σ =>
 bif Nat.beq xs.length 3 then
 (AV.asAgg 2 (xs.getD 0 .u)).bind fun c0 =>
 (AV.asI .u8 (c0.getD 0 .u)).bind fun n1 =>
 (AV.asI .u8 (c0.getD 1 .u)).bind fun n2 =>
 (AV.asI .u64 (xs.getD 1 .u)).bind fun n3 =>
 (AV.asSl (xs.getD 2 .u)).bind fun l4 =>
 let σ5 := σ.bump 1
 let σ6 := σ5.put σ.next (.cells true 62 [(.i .u8 n1), (.i .u8 n2)])
 (k34 [] σ6).bind fun r7 =>
 (AV.asB r7.1).bind fun b8 =>
 (bif (!b8) then
 some ((.b false), r7.2)
 else (k42 [(.sl l4.1 l4.2)] r7.2).bind fun r9 =>
 (AV.asB r9.1).bind fun b10 =>
 (bif (!b10) then
 some ((.b true), r9.2)
 else (k35 [] r9.2).bind fun r11 =>
 (AV.asP r11.1).bind fun p12 =>
 (r11.2.ld (.n σ.next) 0).bind fun w13 =>
 (AV.asI .u8 w13).bind fun n14 =>
 (k36 [(.p p12), (.i .i64 (IntKind.i64.wrap (1 + (IntKind.i64.wrap n14))))] r11.2).bind fun r15 =>
 (AV.asTup 2 r15.1).bind fun c16 =>
 (AV.asI .i64 (c16.getD 0 .u)).bind fun n17 =>
 (AV.asI .i64 (c16.getD 1 .u)).bind fun n18 =>
 (r15.2.ld (.n σ.next) 1).bind fun w19 =>
 (AV.asI .u8 w19).bind fun n20 =>
 (bif ((IntKind.i64.wrap (1 + (IntKind.i64.wrap n14))) == 0) then
 none
 else let v21 : Int := (Int.tmod (IntKind.i64.wrap n20) (IntKind.i64.wrap (1 + (IntKind.i64.wrap n14))))
 ((bif (((n18 : Int) != 0) == false) then
 (k43 [(.p p12), (.i .i64 n17), (.i .i64 v21), (.i .u64 n3)] r15.2).bind fun r22 =>
 (AV.asI .i64 r22.1).bind fun n23 =>
 some ([(.b ((n23 : Int) != 0))], r22.2)
 else some ([(.b true)], r15.2)) : Option (List AV × AH O)).bind fun r24 =>
 (AV.asB (r24.1.getD 0 .u)).bind fun b25 =>
 (bif b25 then
 some ((.b false), r24.2)
 else (loopF (S := List AV × AH O) (T := List AV × AH O) (law08_MemHolds_L1 l4 k36 p12 n17 k39 k44 v21 k43 k45 k46) ([(.i .u64 1), (.i .i64 0)], r24.2)).bind fun r136 =>
 (AV.asI .u64 (r136.1.getD 0 .u)).bind fun n137 =>
 (k47 [(.p p12), (.i .i64 n17), (.i .i64 v21)] r136.2).bind fun r138 =>
 (AV.asTup 2 r138.1).bind fun c139 =>
 (AV.asI .u64 (c139.getD 0 .u)).bind fun n140 =>
 (AV.asI .i64 (c139.getD 1 .u)).bind fun n141 =>
 ((bif (((n140 : Int) == n3) == true) then
 some ([(.b ((n141 : Int) == 0))], r138.2)
 else some ([(.b false)], r138.2)) : Option (List AV × AH O)).bind fun r142 =>
 (AV.asB (r142.1.getD 0 .u)).bind fun b143 =>
 ((bif (b143 == true) then
 Option.bind p12 fun q144 =>
 (r142.2.ld q144.1 q144.2).bind fun w145 =>
 (AV.asP w145).bind fun p146 =>
 (k41 [(.p p146)] r142.2).bind fun r147 =>
 (AV.asAgg 2 r147.1).bind fun c148 =>
 (AV.asI .u64 (c148.getD 0 .u)).bind fun n149 =>
 (AV.asI .u64 (c148.getD 1 .u)).bind fun n150 =>
 let c151 : Bool := (((n149 : Int) == 0) && (((n150 : Int) == (IntKind.u64.wrap (n137 + 1))) && true))
 some ([(.b c151)], r147.2)
 else some ([(.b false)], r142.2)) : Option (List AV × AH O)).bind fun r152 =>
 (AV.asB (r152.1.getD 0 .u)).bind fun b153 =>
 some ((.b b153), r152.2)))))
 else none
noncomputable def law08_MemHolds {O : Type} : Sm O := law08_MemHolds_c law08_awake law08_few mem_New mem_Mem__Open mem_Mem__Write mem_Mem__Close mem_Mem__Grow mem_Mem__Zero mem_Mem__Copy mem_Mem__Read meter_Meter__Steps
theorem law08_MemHolds_ent : Entered Try.prog 7 := Try.call7
theorem law08_MemHolds_run {O : Type} (k34 k42 k35 k36 k43 k39 k44 k45 k46 k47 k41 : Sm O) : run (O := O) Try.prog [(34, k34), (42, k42), (35, k35), (36, k36), (43, k43), (39, k39), (44, k44), (45, k45), (46, k46), (47, k47), (41, k41)] Try.f7 (.n .z (.n (.n .z (.n .z .z)) (.n (.n .z (.n .z .z)) (.n .z (.n .z (.n .z (.n .z (.n (.n (.g [(2, 6, [(47, .one .b)])]) (.n .z .z)) (.n .z (.n (.n .z (.n (.lp false 0 [(12, .one (.i .u64)), (13, .one (.i .i64))] [(12, .one (.i .u64))] (.n (.n .z .z) (.n (.n (.n .z (.n .z (.n (.n .z (.j false [(12, .one (.i .u64))] .z (.n .z (.j false [(12, .one (.i .u64))] (.n .z (.j false [] .z .z)) (.n .z (.j false [(12, .one (.i .u64))] .z (.n .z (.j false [(12, .one (.i .u64))] (.n (.g [(4, 4, [(95, .one .b)]), (10, 9, [(106, .one .b)])]) (.j false [(12, .one (.i .u64))] .z .z)) (.n .z (.j false [(12, .one (.i .u64))] (.n (.g [(4, 9, [(125, .one .b)])]) (.j false [(12, .one (.i .u64))] .z .z)) (.n .z (.j false [(12, .one (.i .u64))] (.n (.g [(4, 13, [(151, .one .b)])]) (.j false [(12, .one (.i .u64))] .z .z)) .z)))))))))))) .z))) .z) .z))) .z)) (.n .z (.n (.g [(3, 2, [(171, .one .b)]), (7, 9, [(182, .one .b)])]) .z)))))))))))) = law08_MemHolds_c k34 k42 k35 k36 k43 k39 k44 k45 k46 k47 k41 := by kernel_rfl
theorem law08_MemHolds_sound {O : Type} {RO : O → Loc → (Nat → Option Obj) → Prop} : FSound RO Try.prog 7 (law08_MemHolds) :=
   have h : FSound RO Try.prog 7 (law08_MemHolds_c law08_awake law08_few mem_New mem_Mem__Open mem_Mem__Write mem_Mem__Close mem_Mem__Grow mem_Mem__Zero mem_Mem__Copy mem_Mem__Read meter_Meter__Steps) := (law08_MemHolds_run law08_awake law08_few mem_New mem_Mem__Open mem_Mem__Write mem_Mem__Close mem_Mem__Grow mem_Mem__Zero mem_Mem__Copy mem_Mem__Read meter_Meter__Steps) ▸ run_sound (gcons law08_awake_ent (law08_awake_sound) <| gcons law08_few_ent (law08_few_sound) <| gcons mem_New_ent (mem_New_sound) <| gcons mem_Mem__Open_ent (mem_Mem__Open_sound) <| gcons mem_Mem__Write_ent (mem_Mem__Write_sound) <| gcons mem_Mem__Close_ent (mem_Mem__Close_sound) <| gcons mem_Mem__Grow_ent (mem_Mem__Grow_sound) <| gcons mem_Mem__Zero_ent (mem_Mem__Zero_sound) <| gcons mem_Mem__Copy_ent (mem_Mem__Copy_sound) <| gcons mem_Mem__Read_ent (mem_Mem__Read_sound) <| gcons meter_Meter__Steps_ent (meter_Meter__Steps_sound) <| gnil) mixed Try.func7 (by kernel_rfl) _
   h

end Go.Abs.Try
