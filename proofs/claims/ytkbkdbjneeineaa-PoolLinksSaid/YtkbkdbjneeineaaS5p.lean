/-
  What the functions of the program do, each as a function of Lean, and that it does so. No conditions.
-/
import Derived.Test.YtkbkdbjneeineaaAbsExtern
import Derived.Test.YtkbkdbjneeineaaProg
import Derived.KernelRfl
set_option linter.unusedVariables false
set_option linter.unusedSimpArgs false
set_option linter.constructorNameAsVariable false
set_option maxRecDepth 100000
namespace Go.Abs.Try
open Go Go.Abs Go.Proofs

theorem mixed : Try.prog.follows .mixedOrders = true := by kernel_rfl
abbrev T_int64 : Nat := 2
abbrev T_int : Nat := 3
abbrev T_bool : Nat := 4
abbrev T_uint8 : Nat := 5
abbrev T_abi_BoundsErrorCode : Nat := 6
abbrev T_runtime_boundsError : Nat := 8
abbrev T_string : Nat := 9
abbrev T_runtime_errorString : Nat := 10
abbrev T_runtime_plainError : Nat := 11
abbrev T_uintptr : Nat := 12
abbrev T_runtime_errorAddressString : Nat := 14
abbrev T_maps_unhashableTypeError : Nat := 19
abbrev T_int32 : Nat := 21
abbrev T_api_Errno : Nat := 27
abbrev T_chain_Table : Nat := 32
abbrev T_chain_Chain : Nat := 35
abbrev T_iter_Seq_int_ : Nat := 42
abbrev T_uint64 : Nat := 44
abbrev T_canon_Form : Nat := 52
abbrev T_haymowref40_Form : Nat := 57
abbrev T_haymowref10_State : Nat := 76
abbrev T_haymowref18_State : Nat := 79
abbrev T_api_Wide : Nat := 82
abbrev T_mem_Mem : Nat := 87
abbrev T_law18_Op : Nat := 89
abbrev T_ref_Ref : Nat := 91
abbrev T_haymowref18_Handle : Nat := 102
abbrev T_api_Shape : Nat := 129
abbrev T_api_Header : Nat := 131
abbrev T_law36_Op : Nat := 133
abbrev T_haymowref15_State : Nat := 147
abbrev T_law15_Op : Nat := 152
abbrev T_pool_Pool : Nat := 161
abbrev T_image_reader : Nat := 174
abbrev T_canon_Node : Nat := 176
abbrev T_haymowref40_Node : Nat := 184
abbrev T_meter_Kind : Nat := 197
abbrev T_handles_Handles : Nat := 199
abbrev T_haymowref10_Entry : Nat := 204
abbrev T_haymowref01_Four : Nat := 214
abbrev T_meter_words : Nat := 218
abbrev T_meter_Meter : Nat := 220
abbrev T_large_Large : Nat := 223
abbrev T_graph_Graph : Nat := 228
abbrev T_graph_node : Nat := 232
abbrev T_haymowref36_Node : Nat := 249
abbrev T_uint : Nat := 264
abbrev T_mem_space : Nat := 266
abbrev T_field_Field : Nat := 309
abbrev T_slices_sortedHint : Nat := 331
abbrev T_uint32 : Nat := 337
abbrev T_slices_xorshift : Nat := 338
abbrev T_runtime_TypeAssertionError : Nat := 347
abbrev T_runtime_PanicNilError : Nat := 350
abbrev T_abi_TFlag : Nat := 351
abbrev T_abi_Kind : Nat := 352
abbrev T_abi_NameOff : Nat := 355
abbrev T_abi_TypeOff : Nat := 356
abbrev T_abi_Type : Nat := 358
theorem bits_Add64_ext {O : Type} : ExternOK Try.prog 201 (bits_Add64 (O := O)) := add64_ext Try.func201 (by kernel_rfl) (by kernel_rfl) (by kernel_rfl) rfl

/-- (haymow/chain.Table).Right$1 -/
noncomputable def chain_Table__Right_1_c {O : Type} : Sm O := fun xs σ =>
 bif Nat.beq xs.length 2 then
 (AV.asI .i64 (xs.getD 0 .u)).bind fun n0 =>
 ((bif ((decide (n0 ≥ 0)) == true) then
 (AV.asPS (xs.getD 1 .u)).bind fun q1 =>
 (σ.ld q1.1 (q1.2 + 2)).bind fun w2 =>
 (AV.asI .i64 w2).bind fun n3 =>
 some ([(.b (decide (n0 < n3)))], σ)
 else some ([(.b false)], σ)) : Option (List AV × AH O)).bind fun r4 =>
 (AV.asB (r4.1.getD 0 .u)).bind fun b5 =>
 some ((.b b5), r4.2)
 else none
noncomputable def chain_Table__Right_1 {O : Type} : Sm O := chain_Table__Right_1_c
theorem chain_Table__Right_1_ent : Entered Try.prog 88 := Try.call88
theorem chain_Table__Right_1_run {O : Type} : run (O := O) Try.prog [] Try.f88 (.n .z (.n (.g [(2, 4, [(11, .one .b)])]) .z)) = chain_Table__Right_1_c  := by kernel_rfl
theorem chain_Table__Right_1_sound {O : Type} {RO : O → Loc → (Nat → Option Obj) → Prop} : FSound RO Try.prog 88 (chain_Table__Right_1) :=
   have h : FSound RO Try.prog 88 (chain_Table__Right_1_c) := (chain_Table__Right_1_run) ▸ run_sound (gnil) mixed Try.func88 (by kernel_rfl) _
   h

/-- (haymow/chain.Table).Right -/
noncomputable def chain_Table__Right_c {O : Type} (k88 : Sm O) : Sm O := fun xs σ =>
 bif Nat.beq xs.length 1 then
 (AV.asAgg 5 (xs.getD 0 .u)).bind fun c0 =>
 (AV.asP (c0.getD 0 .u)).bind fun p1 =>
 (AV.asI .i64 (c0.getD 1 .u)).bind fun n2 =>
 (AV.asI .i64 (c0.getD 2 .u)).bind fun n3 =>
 (AV.asI .i64 (c0.getD 3 .u)).bind fun n4 =>
 (AV.asI .i64 (c0.getD 4 .u)).bind fun n5 =>
 let σ6 := σ.bump 1
 let σ7 := σ6.put σ.next (.cells true 32 [(.p p1), (.i .i64 n2), (.i .i64 n3), (.i .i64 n4), (.i .i64 n5)])
 (σ7.ld (.n σ.next) 0).bind fun w8 =>
 (AV.asP w8).bind fun p9 =>
 ((bif ((!(Option.isNone p9)) == true) then
 (σ7.ld (.n σ.next) 2).bind fun w10 =>
 (AV.asI .i64 w10).bind fun n11 =>
 some ([(.b (decide (n11 ≥ 2)))], σ7)
 else some ([(.b false)], σ7)) : Option (List AV × AH O)).bind fun r12 =>
 (AV.asB (r12.1.getD 0 .u)).bind fun b13 =>
 ((bif (b13 == true) then
 (r12.2.ld (.n σ.next) 2).bind fun w14 =>
 (AV.asI .i64 w14).bind fun n15 =>
 some ([(.b (decide (n15 ≤ 64)))], r12.2)
 else some ([(.b false)], r12.2)) : Option (List AV × AH O)).bind fun r16 =>
 (AV.asB (r16.1.getD 0 .u)).bind fun b17 =>
 ((bif (b17 == true) then
 (r16.2.ld (.n σ.next) 3).bind fun w18 =>
 (AV.asI .i64 w18).bind fun n19 =>
 (k88 [(.i .i64 n19), (.p (some ((.n σ.next), 0)))] r16.2).bind fun r20 =>
 (AV.asB r20.1).bind fun b21 =>
 some ([(.b b21)], r20.2)
 else some ([(.b false)], r16.2)) : Option (List AV × AH O)).bind fun r22 =>
 (AV.asB (r22.1.getD 0 .u)).bind fun b23 =>
 ((bif (b23 == true) then
 (r22.2.ld (.n σ.next) 4).bind fun w24 =>
 (AV.asI .i64 w24).bind fun n25 =>
 (k88 [(.i .i64 n25), (.p (some ((.n σ.next), 0)))] r22.2).bind fun r26 =>
 (AV.asB r26.1).bind fun b27 =>
 some ([(.b b27)], r26.2)
 else some ([(.b false)], r22.2)) : Option (List AV × AH O)).bind fun r28 =>
 (AV.asB (r28.1.getD 0 .u)).bind fun b29 =>
 ((bif (b29 == true) then
 (r28.2.ld (.n σ.next) 3).bind fun w30 =>
 (AV.asI .i64 w30).bind fun n31 =>
 (r28.2.ld (.n σ.next) 4).bind fun w32 =>
 (AV.asI .i64 w32).bind fun n33 =>
 some ([(.b ((n31 : Int) != n33))], r28.2)
 else some ([(.b false)], r28.2)) : Option (List AV × AH O)).bind fun r34 =>
 (AV.asB (r34.1.getD 0 .u)).bind fun b35 =>
 some ((.b b35), r34.2)
 else none
noncomputable def chain_Table__Right {O : Type} : Sm O := chain_Table__Right_c chain_Table__Right_1
theorem chain_Table__Right_ent : Entered Try.prog 18 := Try.call18
theorem chain_Table__Right_run {O : Type} (k88 : Sm O) : run (O := O) Try.prog [(88, k88)] Try.f18 (.n .z (.n .z (.n (.g [(3, 3, [(12, .one .b)]), (8, 3, [(17, .one .b)]), (13, 4, [(23, .one .b)]), (19, 4, [(29, .one .b)]), (25, 5, [(36, .one .b)])]) .z))) = chain_Table__Right_c k88 := by kernel_rfl
theorem chain_Table__Right_sound {O : Type} {RO : O → Loc → (Nat → Option Obj) → Prop} : FSound RO Try.prog 18 (chain_Table__Right) :=
   have h : FSound RO Try.prog 18 (chain_Table__Right_c chain_Table__Right_1) := (chain_Table__Right_run chain_Table__Right_1) ▸ run_sound (gcons chain_Table__Right_1_ent (chain_Table__Right_1_sound) <| gnil) mixed Try.func18 (by kernel_rfl) _
   h

/-- (*haymow/mem.Mem).at -/
noncomputable def mem_Mem__at_c {O : Type} : Sm O := fun xs σ =>
 bif Nat.beq xs.length 2 then
 (AV.asP (xs.getD 0 .u)).bind fun p0 =>
 (AV.asI .i64 (xs.getD 1 .u)).bind fun n1 =>
 ((bif ((decide (n1 < 0)) == false) then
 Option.bind p0 fun q2 =>
 (σ.ld q2.1 (q2.2 + 1)).bind fun w3 =>
 (AV.asSl w3).bind fun l4 =>
 some ([(.b (decide (n1 ≥ (l4.2 : Int))))], σ)
 else some ([(.b true)], σ)) : Option (List AV × AH O)).bind fun r5 =>
 (AV.asB (r5.1.getD 0 .u)).bind fun b6 =>
 ((bif (b6 == false) then
 Option.bind p0 fun q7 =>
 (r5.2.ld q7.1 (q7.2 + 1)).bind fun w8 =>
 (AV.asSl w8).bind fun l9 =>
 (bif ((decide ((0 : Int) ≤ n1)) && (decide (n1 < (l9.2 : Int)))) then
 (SA.ref l9.1).bind fun q10 =>
 (r5.2.ld q10.1 ((q10.2 + (n1.toNat * 2)) + 1)).bind fun w11 =>
 (AV.asB w11).bind fun b12 =>
 some ([(.b (!b12))], r5.2)
 else none)
 else some ([(.b true)], r5.2)) : Option (List AV × AH O)).bind fun r13 =>
 (AV.asB (r13.1.getD 0 .u)).bind fun b14 =>
 (bif b14 then
 some ((.p none), r13.2)
 else Option.bind p0 fun q15 =>
 (r13.2.ld q15.1 (q15.2 + 1)).bind fun w16 =>
 (AV.asSl w16).bind fun l17 =>
 (bif ((decide ((0 : Int) ≤ n1)) && (decide (n1 < (l17.2 : Int)))) then
 (SA.ref l17.1).bind fun q18 =>
 some ((.p (some (q18.1, (q18.2 + (n1.toNat * 2))))), r13.2)
 else none))
 else none
noncomputable def mem_Mem__at {O : Type} : Sm O := mem_Mem__at_c
theorem mem_Mem__at_ent : Entered Try.prog 208 := Try.call208
theorem mem_Mem__at_run {O : Type} : run (O := O) Try.prog [] Try.f208 (.n .z (.n (.n (.g [(2, 7, [(15, .one .b)]), (11, 9, [(26, .one .b)])]) (.n .z .z)) .z)) = mem_Mem__at_c  := by kernel_rfl
theorem mem_Mem__at_sound {O : Type} {RO : O → Loc → (Nat → Option Obj) → Prop} : FSound RO Try.prog 208 (mem_Mem__at) :=
   have h : FSound RO Try.prog 208 (mem_Mem__at_c) := (mem_Mem__at_run) ▸ run_sound (gnil) mixed Try.func208 (by kernel_rfl) _
   h

/-- (*haymow/mem.Mem).Size -/
noncomputable def mem_Mem__Size_c {O : Type} (k208 : Sm O) : Sm O := fun xs σ =>
 bif Nat.beq xs.length 2 then
 (AV.asP (xs.getD 0 .u)).bind fun p0 =>
 (AV.asI .i64 (xs.getD 1 .u)).bind fun n1 =>
 (k208 [(.p p0), (.i .i64 n1)] σ).bind fun r2 =>
 (AV.asP r2.1).bind fun p3 =>
 (bif (Option.isNone p3) then
 some ((.tup [(.i .i64 0), (.i .i64 10)]), r2.2)
 else Option.bind p3 fun q4 =>
 (r2.2.ld q4.1 q4.2).bind fun w5 =>
 (AV.asSl w5).bind fun l6 =>
 some ((.tup [(.i .i64 (l6.2 : Int)), (.i .i64 0)]), r2.2))
 else none
noncomputable def mem_Mem__Size {O : Type} : Sm O := mem_Mem__Size_c mem_Mem__at
theorem mem_Mem__Size_ent : Entered Try.prog 220 := Try.call220
theorem mem_Mem__Size_run {O : Type} (k208 : Sm O) : run (O := O) Try.prog [(208, k208)] Try.f220 (.n .z (.n .z (.n (.n .z (.n .z .z)) .z))) = mem_Mem__Size_c k208 := by kernel_rfl
theorem mem_Mem__Size_sound {O : Type} {RO : O → Loc → (Nat → Option Obj) → Prop} : FSound RO Try.prog 220 (mem_Mem__Size) :=
   have h : FSound RO Try.prog 220 (mem_Mem__Size_c mem_Mem__at) := (mem_Mem__Size_run mem_Mem__at) ▸ run_sound (gcons mem_Mem__at_ent (mem_Mem__at_sound) <| gnil) mixed Try.func220 (by kernel_rfl) _
   h

/-- (haymow/chain.Table).Entries -/
noncomputable def chain_Table__Entries_c {O : Type} (k18 k220 : Sm O) : Sm O := fun xs σ =>
 bif Nat.beq xs.length 1 then
 (AV.asAgg 5 (xs.getD 0 .u)).bind fun c0 =>
 (AV.asP (c0.getD 0 .u)).bind fun p1 =>
 (AV.asI .i64 (c0.getD 1 .u)).bind fun n2 =>
 (AV.asI .i64 (c0.getD 2 .u)).bind fun n3 =>
 (AV.asI .i64 (c0.getD 3 .u)).bind fun n4 =>
 (AV.asI .i64 (c0.getD 4 .u)).bind fun n5 =>
 let σ6 := σ.bump 1
 let σ7 := σ6.put σ.next (.cells true 32 [(.p p1), (.i .i64 n2), (.i .i64 n3), (.i .i64 n4), (.i .i64 n5)])
 (σ7.ld (.n σ.next) 0).bind fun w8 =>
 (AV.asP w8).bind fun p9 =>
 (σ7.ld (.n σ.next) 1).bind fun w10 =>
 (AV.asI .i64 w10).bind fun n11 =>
 (σ7.ld (.n σ.next) 2).bind fun w12 =>
 (AV.asI .i64 w12).bind fun n13 =>
 (σ7.ld (.n σ.next) 3).bind fun w14 =>
 (AV.asI .i64 w14).bind fun n15 =>
 (σ7.ld (.n σ.next) 4).bind fun w16 =>
 (AV.asI .i64 w16).bind fun n17 =>
 (k18 [(.agg [(.p p9), (.i .i64 n11), (.i .i64 n13), (.i .i64 n15), (.i .i64 n17)])] σ7).bind fun r18 =>
 (AV.asB r18.1).bind fun b19 =>
 (bif (!b19) then
 some ((.i .i64 0), r18.2)
 else (r18.2.ld (.n σ.next) 0).bind fun w20 =>
 (AV.asP w20).bind fun p21 =>
 (r18.2.ld (.n σ.next) 1).bind fun w22 =>
 (AV.asI .i64 w22).bind fun n23 =>
 (k220 [(.p p21), (.i .i64 n23)] r18.2).bind fun r24 =>
 (AV.asTup 2 r24.1).bind fun c25 =>
 (AV.asI .i64 (c25.getD 0 .u)).bind fun n26 =>
 (AV.asI .i64 (c25.getD 1 .u)).bind fun n27 =>
 (r24.2.ld (.n σ.next) 2).bind fun w28 =>
 (AV.asI .i64 w28).bind fun n29 =>
 (bif (n29 == 0) then
 none
 else some ((.i .i64 (IntKind.i64.wrap (Int.tdiv n26 n29))), r24.2)))
 else none
noncomputable def chain_Table__Entries {O : Type} : Sm O := chain_Table__Entries_c chain_Table__Right mem_Mem__Size
theorem chain_Table__Entries_ent : Entered Try.prog 178 := Try.call178
theorem chain_Table__Entries_run {O : Type} (k18 k220 : Sm O) : run (O := O) Try.prog [(18, k18), (220, k220)] Try.f178 (.n .z (.n (.n .z (.n .z .z)) (.n .z .z))) = chain_Table__Entries_c k18 k220 := by kernel_rfl
theorem chain_Table__Entries_sound {O : Type} {RO : O → Loc → (Nat → Option Obj) → Prop} : FSound RO Try.prog 178 (chain_Table__Entries) :=
   have h : FSound RO Try.prog 178 (chain_Table__Entries_c chain_Table__Right mem_Mem__Size) := (chain_Table__Entries_run chain_Table__Right mem_Mem__Size) ▸ run_sound (gcons chain_Table__Right_ent (chain_Table__Right_sound) <| gcons mem_Mem__Size_ent (mem_Mem__Size_sound) <| gnil) mixed Try.func178 (by kernel_rfl) _
   h

/-- (haymow/chain.Table).check -/
noncomputable def chain_Table__check_c {O : Type} (k18 k178 : Sm O) : Sm O := fun xs σ =>
 bif Nat.beq xs.length 2 then
 (AV.asAgg 5 (xs.getD 0 .u)).bind fun c0 =>
 (AV.asP (c0.getD 0 .u)).bind fun p1 =>
 (AV.asI .i64 (c0.getD 1 .u)).bind fun n2 =>
 (AV.asI .i64 (c0.getD 2 .u)).bind fun n3 =>
 (AV.asI .i64 (c0.getD 3 .u)).bind fun n4 =>
 (AV.asI .i64 (c0.getD 4 .u)).bind fun n5 =>
 (AV.asI .i64 (xs.getD 1 .u)).bind fun n6 =>
 let σ7 := σ.bump 1
 let σ8 := σ7.put σ.next (.cells true 32 [(.p p1), (.i .i64 n2), (.i .i64 n3), (.i .i64 n4), (.i .i64 n5)])
 (σ8.ld (.n σ.next) 0).bind fun w9 =>
 (AV.asP w9).bind fun p10 =>
 (σ8.ld (.n σ.next) 1).bind fun w11 =>
 (AV.asI .i64 w11).bind fun n12 =>
 (σ8.ld (.n σ.next) 2).bind fun w13 =>
 (AV.asI .i64 w13).bind fun n14 =>
 (σ8.ld (.n σ.next) 3).bind fun w15 =>
 (AV.asI .i64 w15).bind fun n16 =>
 (σ8.ld (.n σ.next) 4).bind fun w17 =>
 (AV.asI .i64 w17).bind fun n18 =>
 (k18 [(.agg [(.p p10), (.i .i64 n12), (.i .i64 n14), (.i .i64 n16), (.i .i64 n18)])] σ8).bind fun r19 =>
 (AV.asB r19.1).bind fun b20 =>
 (bif (!b20) then
 some ((.i .i64 1), r19.2)
 else ((bif ((decide (n6 < 1)) == false) then
 (r19.2.ld (.n σ.next) 0).bind fun w21 =>
 (AV.asP w21).bind fun p22 =>
 (r19.2.ld (.n σ.next) 1).bind fun w23 =>
 (AV.asI .i64 w23).bind fun n24 =>
 (r19.2.ld (.n σ.next) 2).bind fun w25 =>
 (AV.asI .i64 w25).bind fun n26 =>
 (r19.2.ld (.n σ.next) 3).bind fun w27 =>
 (AV.asI .i64 w27).bind fun n28 =>
 (r19.2.ld (.n σ.next) 4).bind fun w29 =>
 (AV.asI .i64 w29).bind fun n30 =>
 (k178 [(.agg [(.p p22), (.i .i64 n24), (.i .i64 n26), (.i .i64 n28), (.i .i64 n30)])] r19.2).bind fun r31 =>
 (AV.asI .i64 r31.1).bind fun n32 =>
 some ([(.b (decide (n6 > n32)))], r31.2)
 else some ([(.b true)], r19.2)) : Option (List AV × AH O)).bind fun r33 =>
 (AV.asB (r33.1.getD 0 .u)).bind fun b34 =>
 (bif b34 then
 some ((.i .i64 2), r33.2)
 else some ((.i .i64 0), r33.2)))
 else none
noncomputable def chain_Table__check {O : Type} : Sm O := chain_Table__check_c chain_Table__Right chain_Table__Entries
theorem chain_Table__check_ent : Entered Try.prog 94 := Try.call94
theorem chain_Table__check_run {O : Type} (k18 k178 : Sm O) : run (O := O) Try.prog [(18, k18), (178, k178)] Try.f94 (.n .z (.n (.n (.n .z (.n .z (.n (.g [(2, 4, [(17, .one .b)])]) (.n .z .z)))) .z) .z)) = chain_Table__check_c k18 k178 := by kernel_rfl
theorem chain_Table__check_sound {O : Type} {RO : O → Loc → (Nat → Option Obj) → Prop} : FSound RO Try.prog 94 (chain_Table__check) :=
   have h : FSound RO Try.prog 94 (chain_Table__check_c chain_Table__Right chain_Table__Entries) := (chain_Table__check_run chain_Table__Right chain_Table__Entries) ▸ run_sound (gcons chain_Table__Right_ent (chain_Table__Right_sound) <| gcons chain_Table__Entries_ent (chain_Table__Entries_sound) <| gnil) mixed Try.func94 (by kernel_rfl) _
   h

/-- (haymow/chain.Table).at -/
noncomputable def chain_Table__at_c {O : Type} : Sm O := fun xs σ =>
 bif Nat.beq xs.length 3 then
 (AV.asAgg 5 (xs.getD 0 .u)).bind fun c0 =>
 (AV.asP (c0.getD 0 .u)).bind fun p1 =>
 (AV.asI .i64 (c0.getD 1 .u)).bind fun n2 =>
 (AV.asI .i64 (c0.getD 2 .u)).bind fun n3 =>
 (AV.asI .i64 (c0.getD 3 .u)).bind fun n4 =>
 (AV.asI .i64 (c0.getD 4 .u)).bind fun n5 =>
 (AV.asI .i64 (xs.getD 1 .u)).bind fun n6 =>
 (AV.asI .i64 (xs.getD 2 .u)).bind fun n7 =>
 let σ8 := σ.bump 1
 let σ9 := σ8.put σ.next (.cells true 32 [(.p p1), (.i .i64 n2), (.i .i64 n3), (.i .i64 n4), (.i .i64 n5)])
 (σ9.ld (.n σ.next) 2).bind fun w10 =>
 (AV.asI .i64 w10).bind fun n11 =>
 let v12 : Int := (IntKind.i64.wrap ((IntKind.i64.wrap (n6 - 1)) * n11))
 some ((.i .i64 (IntKind.i64.wrap (v12 + n7))), σ9)
 else none
noncomputable def chain_Table__at {O : Type} : Sm O := chain_Table__at_c
theorem chain_Table__at_ent : Entered Try.prog 179 := Try.call179
theorem chain_Table__at_run {O : Type} : run (O := O) Try.prog [] Try.f179 (.n .z .z) = chain_Table__at_c  := by kernel_rfl
theorem chain_Table__at_sound {O : Type} {RO : O → Loc → (Nat → Option Obj) → Prop} : FSound RO Try.prog 179 (chain_Table__at) :=
   have h : FSound RO Try.prog 179 (chain_Table__at_c) := (chain_Table__at_run) ▸ run_sound (gnil) mixed Try.func179 (by kernel_rfl) _
   h

/-- (*haymow/mem.Mem).within -/
noncomputable def mem_Mem__within_c {O : Type} (k208 : Sm O) : Sm O := fun xs σ =>
 bif Nat.beq xs.length 4 then
 (AV.asP (xs.getD 0 .u)).bind fun p0 =>
 (AV.asI .i64 (xs.getD 1 .u)).bind fun n1 =>
 (AV.asI .i64 (xs.getD 2 .u)).bind fun n2 =>
 (AV.asI .i64 (xs.getD 3 .u)).bind fun n3 =>
 (k208 [(.p p0), (.i .i64 n1)] σ).bind fun r4 =>
 (AV.asP r4.1).bind fun p5 =>
 (bif (Option.isNone p5) then
 some ((.tup [(.sl .nil 0), (.i .i64 10)]), r4.2)
 else ((bif ((decide (n3 < 0)) == false) then
 some ([(.b (decide (n2 < 0)))], r4.2)
 else some ([(.b true)], r4.2)) : Option (List AV × AH O)).bind fun r6 =>
 (AV.asB (r6.1.getD 0 .u)).bind fun b7 =>
 ((bif (b7 == false) then
 Option.bind p5 fun q8 =>
 (r6.2.ld q8.1 q8.2).bind fun w9 =>
 (AV.asSl w9).bind fun l10 =>
 some ([(.b (decide (n2 > (l10.2 : Int))))], r6.2)
 else some ([(.b true)], r6.2)) : Option (List AV × AH O)).bind fun r11 =>
 (AV.asB (r11.1.getD 0 .u)).bind fun b12 =>
 ((bif (b12 == false) then
 Option.bind p5 fun q13 =>
 (r11.2.ld q13.1 q13.2).bind fun w14 =>
 (AV.asSl w14).bind fun l15 =>
 let c16 : Bool := (decide (n3 > (IntKind.i64.wrap ((l15.2 : Int) - n2))))
 some ([(.b c16)], r11.2)
 else some ([(.b true)], r11.2)) : Option (List AV × AH O)).bind fun r17 =>
 (AV.asB (r17.1.getD 0 .u)).bind fun b18 =>
 (bif b18 then
 some ((.tup [(.sl .nil 0), (.i .i64 11)]), r17.2)
 else Option.bind p5 fun q19 =>
 (r17.2.ld q19.1 q19.2).bind fun w20 =>
 (AV.asSl w20).bind fun l21 =>
 (bif (((decide ((0 : Int) ≤ n2)) && (decide (n2 ≤ (IntKind.i64.wrap (n2 + n3))))) && (decide ((IntKind.i64.wrap (n2 + n3)) ≤ (l21.2 : Int)))) then
 (SA.adv l21.1 n2.toNat 1).bind fun a22 =>
 some ((.tup [(.sl a22 ((IntKind.i64.wrap (n2 + n3)).toNat - n2.toNat)), (.i .i64 0)]), r17.2)
 else none)))
 else none
noncomputable def mem_Mem__within {O : Type} : Sm O := mem_Mem__within_c mem_Mem__at
theorem mem_Mem__within_ent : Entered Try.prog 176 := Try.call176
theorem mem_Mem__within_run {O : Type} (k208 : Sm O) : run (O := O) Try.prog [(208, k208)] Try.f176 (.n .z (.n .z (.n (.n (.n .z (.n .z (.n (.g [(2, 2, [(23, .one .b)]), (6, 7, [(32, .one .b)]), (15, 9, [(43, .one .b)])]) (.n .z .z)))) .z) .z))) = mem_Mem__within_c k208 := by kernel_rfl
theorem mem_Mem__within_sound {O : Type} {RO : O → Loc → (Nat → Option Obj) → Prop} : FSound RO Try.prog 176 (mem_Mem__within) :=
   have h : FSound RO Try.prog 176 (mem_Mem__within_c mem_Mem__at) := (mem_Mem__within_run mem_Mem__at) ▸ run_sound (gcons mem_Mem__at_ent (mem_Mem__at_sound) <| gnil) mixed Try.func176 (by kernel_rfl) _
   h

/-- haymow/wide.Of -/
noncomputable def wide_Of_c {O : Type} : Sm O := fun xs σ =>
 bif Nat.beq xs.length 1 then
 (AV.asI .u64 (xs.getD 0 .u)).bind fun n0 =>
 let σ1 := σ.bump 1
 let σ2 := σ1.put σ.next (.cells true 82 [(.i .u64 0), (.i .u64 0)])
 (σ2.st (.n σ.next) 0 [(.i .u64 0), (.i .u64 n0)]).bind fun σ3 =>
 (σ3.ld (.n σ.next) 0).bind fun w4 =>
 (AV.asI .u64 w4).bind fun n5 =>
 (σ3.ld (.n σ.next) 1).bind fun w6 =>
 (AV.asI .u64 w6).bind fun n7 =>
 some ((.agg [(.i .u64 n5), (.i .u64 n7)]), σ3)
 else none
noncomputable def wide_Of {O : Type} : Sm O := wide_Of_c
theorem wide_Of_ent : Entered Try.prog 219 := Try.call219
theorem wide_Of_run {O : Type} : run (O := O) Try.prog [] Try.f219 (.n .z .z) = wide_Of_c  := by kernel_rfl
theorem wide_Of_sound {O : Type} {RO : O → Loc → (Nat → Option Obj) → Prop} : FSound RO Try.prog 219 (wide_Of) :=
   have h : FSound RO Try.prog 219 (wide_Of_c) := (wide_Of_run) ▸ run_sound (gnil) mixed Try.func219 (by kernel_rfl) _
   h

/-- haymow/wide.Most -/
noncomputable def wide_Most_c {O : Type} : Sm O := fun xs σ =>
 bif Nat.beq xs.length 0 then
 let σ0 := σ.bump 1
 let σ1 := σ0.put σ.next (.cells true 82 [(.i .u64 0), (.i .u64 0)])
 (σ1.st (.n σ.next) 0 [(.i .u64 18446744073709551615), (.i .u64 18446744073709551615)]).bind fun σ2 =>
 (σ2.ld (.n σ.next) 0).bind fun w3 =>
 (AV.asI .u64 w3).bind fun n4 =>
 (σ2.ld (.n σ.next) 1).bind fun w5 =>
 (AV.asI .u64 w5).bind fun n6 =>
 some ((.agg [(.i .u64 n4), (.i .u64 n6)]), σ2)
 else none
noncomputable def wide_Most {O : Type} : Sm O := wide_Most_c
theorem wide_Most_ent : Entered Try.prog 202 := Try.call202
theorem wide_Most_run {O : Type} : run (O := O) Try.prog [] Try.f202 (.n .z .z) = wide_Most_c  := by kernel_rfl
theorem wide_Most_sound {O : Type} {RO : O → Loc → (Nat → Option Obj) → Prop} : FSound RO Try.prog 202 (wide_Most) :=
   have h : FSound RO Try.prog 202 (wide_Most_c) := (wide_Most_run) ▸ run_sound (gnil) mixed Try.func202 (by kernel_rfl) _
   h

/-- haymow/wide.Add -/
noncomputable def wide_Add_c {O : Type} (k201 k202 : Sm O) : Sm O := fun xs σ =>
 bif Nat.beq xs.length 2 then
 (AV.asAgg 2 (xs.getD 0 .u)).bind fun c0 =>
 (AV.asI .u64 (c0.getD 0 .u)).bind fun n1 =>
 (AV.asI .u64 (c0.getD 1 .u)).bind fun n2 =>
 (AV.asAgg 2 (xs.getD 1 .u)).bind fun c3 =>
 (AV.asI .u64 (c3.getD 0 .u)).bind fun n4 =>
 (AV.asI .u64 (c3.getD 1 .u)).bind fun n5 =>
 let σ6 := σ.bump 3
 let σ7 := σ6.put σ.next (.cells true 82 [(.i .u64 n1), (.i .u64 n2)])
 let σ8 := σ7.put (σ.next + 1) (.cells true 82 [(.i .u64 n4), (.i .u64 n5)])
 let σ9 := σ8.put ((σ.next + 1) + 1) (.cells true 82 [(.i .u64 0), (.i .u64 0)])
 (σ9.ld (.n σ.next) 1).bind fun w10 =>
 (AV.asI .u64 w10).bind fun n11 =>
 (σ9.ld (.n (σ.next + 1)) 1).bind fun w12 =>
 (AV.asI .u64 w12).bind fun n13 =>
 (k201 [(.i .u64 n11), (.i .u64 n13), (.i .u64 0)] σ9).bind fun r14 =>
 (AV.asTup 2 r14.1).bind fun c15 =>
 (AV.asI .u64 (c15.getD 0 .u)).bind fun n16 =>
 (AV.asI .u64 (c15.getD 1 .u)).bind fun n17 =>
 (r14.2.ld (.n σ.next) 0).bind fun w18 =>
 (AV.asI .u64 w18).bind fun n19 =>
 (r14.2.ld (.n (σ.next + 1)) 0).bind fun w20 =>
 (AV.asI .u64 w20).bind fun n21 =>
 (k201 [(.i .u64 n19), (.i .u64 n21), (.i .u64 n17)] r14.2).bind fun r22 =>
 (AV.asTup 2 r22.1).bind fun c23 =>
 (AV.asI .u64 (c23.getD 0 .u)).bind fun n24 =>
 (AV.asI .u64 (c23.getD 1 .u)).bind fun n25 =>
 (bif ((n25 : Int) != 0) then
 (k202 [] r22.2).bind fun r26 =>
 (AV.asAgg 2 r26.1).bind fun c27 =>
 (AV.asI .u64 (c27.getD 0 .u)).bind fun n28 =>
 (AV.asI .u64 (c27.getD 1 .u)).bind fun n29 =>
 (r26.2.st (.n ((σ.next + 1) + 1)) 0 [(.i .u64 n28), (.i .u64 n29)]).bind fun σ30 =>
 (σ30.ld (.n ((σ.next + 1) + 1)) 0).bind fun w31 =>
 (AV.asI .u64 w31).bind fun n32 =>
 (σ30.ld (.n ((σ.next + 1) + 1)) 1).bind fun w33 =>
 (AV.asI .u64 w33).bind fun n34 =>
 some ((.tup [(.agg [(.i .u64 n32), (.i .u64 n34)]), (.b false)]), σ30)
 else (r22.2.st (.n ((σ.next + 1) + 1)) 0 [(.i .u64 n24), (.i .u64 n16)]).bind fun σ35 =>
 (σ35.ld (.n ((σ.next + 1) + 1)) 0).bind fun w36 =>
 (AV.asI .u64 w36).bind fun n37 =>
 (σ35.ld (.n ((σ.next + 1) + 1)) 1).bind fun w38 =>
 (AV.asI .u64 w38).bind fun n39 =>
 some ((.tup [(.agg [(.i .u64 n37), (.i .u64 n39)]), (.b true)]), σ35))
 else none
noncomputable def wide_Add {O : Type} : Sm O := wide_Add_c bits_Add64 wide_Most
theorem wide_Add_ent : Entered Try.prog 121 := Try.call121
theorem wide_Add_run {O : Type} (k201 k202 : Sm O) : run (O := O) Try.prog [(201, k201), (202, k202)] Try.f121 (.n .z (.n .z (.n .z (.n (.n .z (.n .z .z)) .z)))) = wide_Add_c k201 k202 := by kernel_rfl
theorem wide_Add_sound {O : Type} {RO : O → Loc → (Nat → Option Obj) → Prop} : FSound RO Try.prog 121 (wide_Add) :=
   have h : FSound RO Try.prog 121 (wide_Add_c bits_Add64 wide_Most) := (wide_Add_run bits_Add64 wide_Most) ▸ run_sound (gext bits_Add64_ext <| gcons wide_Most_ent (wide_Most_sound) <| gnil) mixed Try.func121 (by kernel_rfl) _
   h

/-- (*haymow/meter.Meter).Step -/
noncomputable def meter_Meter__Step_c {O : Type} (k219 k121 : Sm O) : Sm O := fun xs σ =>
 bif Nat.beq xs.length 3 then
 (AV.asP (xs.getD 0 .u)).bind fun p0 =>
 (AV.asI .i64 (xs.getD 1 .u)).bind fun n1 =>
 (AV.asI .i64 (xs.getD 2 .u)).bind fun n2 =>
 ((bif ((Option.isNone p0) == false) then
 some ([(.b (decide (n1 < 0)))], σ)
 else some ([(.b true)], σ)) : Option (List AV × AH O)).bind fun r3 =>
 (AV.asB (r3.1.getD 0 .u)).bind fun b4 =>
 ((bif (b4 == false) then
 some ([(.b (decide (n1 ≥ 2)))], r3.2)
 else some ([(.b true)], r3.2)) : Option (List AV × AH O)).bind fun r5 =>
 (AV.asB (r5.1.getD 0 .u)).bind fun b6 =>
 ((bif (b6 == false) then
 some ([(.b (decide (n2 < 1)))], r5.2)
 else some ([(.b true)], r5.2)) : Option (List AV × AH O)).bind fun r7 =>
 (AV.asB (r7.1.getD 0 .u)).bind fun b8 =>
 (bif b8 then
 some ((.tup []), r7.2)
 else Option.bind p0 fun q9 =>
 (bif ((decide ((0 : Int) ≤ n1)) && (decide (n1 < 2))) then
 (r7.2.ld q9.1 (q9.2 + (n1.toNat * 2))).bind fun w10 =>
 (AV.asI .u64 w10).bind fun n11 =>
 (r7.2.ld q9.1 ((q9.2 + (n1.toNat * 2)) + 1)).bind fun w12 =>
 (AV.asI .u64 w12).bind fun n13 =>
 Option.bind p0 fun q14 =>
 (k219 [(.i .u64 (IntKind.u64.wrap n2))] r7.2).bind fun r15 =>
 (AV.asAgg 2 r15.1).bind fun c16 =>
 (AV.asI .u64 (c16.getD 0 .u)).bind fun n17 =>
 (AV.asI .u64 (c16.getD 1 .u)).bind fun n18 =>
 (chk (r15.2.ld q9.1 (q9.2 + (n1.toNat * 2)) = some (.i .u64 n11))).bind fun _ =>
 (chk (r15.2.ld q9.1 ((q9.2 + (n1.toNat * 2)) + 1) = some (.i .u64 n13))).bind fun _ =>
 (k121 [(.agg [(.i .u64 n11), (.i .u64 n13)]), (.agg [(.i .u64 n17), (.i .u64 n18)])] r15.2).bind fun r19 =>
 (AV.asTup 2 r19.1).bind fun c20 =>
 (AV.asAgg 2 (c20.getD 0 .u)).bind fun c21 =>
 (AV.asI .u64 (c21.getD 0 .u)).bind fun n22 =>
 (AV.asI .u64 (c21.getD 1 .u)).bind fun n23 =>
 (AV.asB (c20.getD 1 .u)).bind fun b24 =>
 (bif ((decide ((0 : Int) ≤ n1)) && (decide (n1 < 2))) then
 (r19.2.st q14.1 (q14.2 + (n1.toNat * 2)) [(.i .u64 n22), (.i .u64 n23)]).bind fun σ25 =>
 some ((.tup []), σ25)
 else none)
 else none))
 else none
noncomputable def meter_Meter__Step {O : Type} : Sm O := meter_Meter__Step_c wide_Of wide_Add
theorem meter_Meter__Step_ent : Entered Try.prog 177 := Try.call177
theorem meter_Meter__Step_run {O : Type} (k219 k121 : Sm O) : run (O := O) Try.prog [(219, k219), (121, k121)] Try.f177 (.n (.n (.g [(2, 2, [(11, .one .b)]), (6, 2, [(15, .one .b)]), (10, 2, [(19, .one .b)])]) .z) (.d [] [0, 1, 2, 3, 4, 5, 6, 7, 8, 9, 15, 16, 10, 11, 12, 13, 14, 17, 18] [0, 0, 0, 0, 4, 20, 60, 124, 0, 256, 768, 2044, 4092, 8188, 8188, 1, 32769, 114687, 245759])) = meter_Meter__Step_c k219 k121 := by kernel_rfl
theorem meter_Meter__Step_sound {O : Type} {RO : O → Loc → (Nat → Option Obj) → Prop} : FSound RO Try.prog 177 (meter_Meter__Step) :=
   have h : FSound RO Try.prog 177 (meter_Meter__Step_c wide_Of wide_Add) := (meter_Meter__Step_run wide_Of wide_Add) ▸ run_sound (gcons wide_Of_ent (wide_Of_sound) <| gcons wide_Add_ent (wide_Add_sound) <| gnil) mixed Try.func177 (by kernel_rfl) _
   h

/-- (*haymow/mem.Mem).Read -/
noncomputable def mem_Mem__Read_c {O : Type} (k176 k177 : Sm O) : Sm O := fun xs σ =>
 bif Nat.beq xs.length 3 then
 (AV.asP (xs.getD 0 .u)).bind fun p0 =>
 (AV.asI .i64 (xs.getD 1 .u)).bind fun n1 =>
 (AV.asI .i64 (xs.getD 2 .u)).bind fun n2 =>
 (k176 [(.p p0), (.i .i64 n1), (.i .i64 n2), (.i .i64 1)] σ).bind fun r3 =>
 (AV.asTup 2 r3.1).bind fun c4 =>
 (AV.asSl (c4.getD 0 .u)).bind fun l5 =>
 (AV.asI .i64 (c4.getD 1 .u)).bind fun n6 =>
 (bif ((n6 : Int) != 0) then
 some ((.tup [(.i .u64 0), (.i .i64 n6)]), r3.2)
 else Option.bind p0 fun q7 =>
 (r3.2.ld q7.1 q7.2).bind fun w8 =>
 (AV.asP w8).bind fun p9 =>
 (k177 [(.p p9), (.i .i64 0), (.i .i64 1)] r3.2).bind fun r10 =>
 (AV.asTup 0 r10.1).bind fun c11 =>
 (bif (decide ((0 : Int) < (l5.2 : Int))) then
 (SA.ref l5.1).bind fun q12 =>
 (r10.2.ld q12.1 q12.2).bind fun w13 =>
 (AV.asI .u64 w13).bind fun n14 =>
 some ((.tup [(.i .u64 n14), (.i .i64 0)]), r10.2)
 else none))
 else none
noncomputable def mem_Mem__Read {O : Type} : Sm O := mem_Mem__Read_c mem_Mem__within meter_Meter__Step
theorem mem_Mem__Read_ent : Entered Try.prog 92 := Try.call92
theorem mem_Mem__Read_run {O : Type} (k176 k177 : Sm O) : run (O := O) Try.prog [(176, k176), (177, k177)] Try.f92 (.n .z (.n .z (.n (.n .z (.n .z .z)) (.n .z .z)))) = mem_Mem__Read_c k176 k177 := by kernel_rfl
theorem mem_Mem__Read_sound {O : Type} {RO : O → Loc → (Nat → Option Obj) → Prop} : FSound RO Try.prog 92 (mem_Mem__Read) :=
   have h : FSound RO Try.prog 92 (mem_Mem__Read_c mem_Mem__within meter_Meter__Step) := (mem_Mem__Read_run mem_Mem__within meter_Meter__Step) ▸ run_sound (gcons mem_Mem__within_ent (mem_Mem__within_sound) <| gcons meter_Meter__Step_ent (meter_Meter__Step_sound) <| gnil) mixed Try.func92 (by kernel_rfl) _
   h

/-- (haymow/chain.Table).get -/
noncomputable def chain_Table__get_c {O : Type} (k179 k92 : Sm O) : Sm O := fun xs σ =>
 bif Nat.beq xs.length 3 then
 (AV.asAgg 5 (xs.getD 0 .u)).bind fun c0 =>
 (AV.asP (c0.getD 0 .u)).bind fun p1 =>
 (AV.asI .i64 (c0.getD 1 .u)).bind fun n2 =>
 (AV.asI .i64 (c0.getD 2 .u)).bind fun n3 =>
 (AV.asI .i64 (c0.getD 3 .u)).bind fun n4 =>
 (AV.asI .i64 (c0.getD 4 .u)).bind fun n5 =>
 (AV.asI .i64 (xs.getD 1 .u)).bind fun n6 =>
 (AV.asI .i64 (xs.getD 2 .u)).bind fun n7 =>
 let σ8 := σ.bump 1
 let σ9 := σ8.put σ.next (.cells true 32 [(.p p1), (.i .i64 n2), (.i .i64 n3), (.i .i64 n4), (.i .i64 n5)])
 (σ9.ld (.n σ.next) 0).bind fun w10 =>
 (AV.asP w10).bind fun p11 =>
 (σ9.ld (.n σ.next) 1).bind fun w12 =>
 (AV.asI .i64 w12).bind fun n13 =>
 (σ9.ld (.n σ.next) 0).bind fun w14 =>
 (AV.asP w14).bind fun p15 =>
 (σ9.ld (.n σ.next) 1).bind fun w16 =>
 (AV.asI .i64 w16).bind fun n17 =>
 (σ9.ld (.n σ.next) 2).bind fun w18 =>
 (AV.asI .i64 w18).bind fun n19 =>
 (σ9.ld (.n σ.next) 3).bind fun w20 =>
 (AV.asI .i64 w20).bind fun n21 =>
 (σ9.ld (.n σ.next) 4).bind fun w22 =>
 (AV.asI .i64 w22).bind fun n23 =>
 (k179 [(.agg [(.p p15), (.i .i64 n17), (.i .i64 n19), (.i .i64 n21), (.i .i64 n23)]), (.i .i64 n6), (.i .i64 n7)] σ9).bind fun r24 =>
 (AV.asI .i64 r24.1).bind fun n25 =>
 (chk (r24.2.ld (.n σ.next) 0 = some (.p p11))).bind fun _ =>
 (chk (r24.2.ld (.n σ.next) 1 = some (.i .i64 n13))).bind fun _ =>
 (k92 [(.p p11), (.i .i64 n13), (.i .i64 n25)] r24.2).bind fun r26 =>
 (AV.asTup 2 r26.1).bind fun c27 =>
 (AV.asI .u64 (c27.getD 0 .u)).bind fun n28 =>
 (AV.asI .i64 (c27.getD 1 .u)).bind fun n29 =>
 some ((.i .i64 (IntKind.i64.wrap n28)), r26.2)
 else none
noncomputable def chain_Table__get {O : Type} : Sm O := chain_Table__get_c chain_Table__at mem_Mem__Read
theorem chain_Table__get_ent : Entered Try.prog 180 := Try.call180
theorem chain_Table__get_run {O : Type} (k179 k92 : Sm O) : run (O := O) Try.prog [(179, k179), (92, k92)] Try.f180 (.n .z (.n (.d [] [0, 1, 2, 3, 4, 5, 6, 7, 8, 9, 10, 11, 12, 13] [0, 1, 0, 4, 0, 0, 0, 112, 255, 511, 1023, 1023, 2047, 8191]) .z)) = chain_Table__get_c k179 k92 := by kernel_rfl
theorem chain_Table__get_sound {O : Type} {RO : O → Loc → (Nat → Option Obj) → Prop} : FSound RO Try.prog 180 (chain_Table__get) :=
   have h : FSound RO Try.prog 180 (chain_Table__get_c chain_Table__at mem_Mem__Read) := (chain_Table__get_run chain_Table__at mem_Mem__Read) ▸ run_sound (gcons chain_Table__at_ent (chain_Table__at_sound) <| gcons mem_Mem__Read_ent (mem_Mem__Read_sound) <| gnil) mixed Try.func180 (by kernel_rfl) _
   h

/-- (haymow/chain.Table).After -/
noncomputable def chain_Table__After_c {O : Type} (k94 k180 : Sm O) : Sm O := fun xs σ =>
 bif Nat.beq xs.length 2 then
 (AV.asAgg 5 (xs.getD 0 .u)).bind fun c0 =>
 (AV.asP (c0.getD 0 .u)).bind fun p1 =>
 (AV.asI .i64 (c0.getD 1 .u)).bind fun n2 =>
 (AV.asI .i64 (c0.getD 2 .u)).bind fun n3 =>
 (AV.asI .i64 (c0.getD 3 .u)).bind fun n4 =>
 (AV.asI .i64 (c0.getD 4 .u)).bind fun n5 =>
 (AV.asI .i64 (xs.getD 1 .u)).bind fun n6 =>
 let σ7 := σ.bump 1
 let σ8 := σ7.put σ.next (.cells true 32 [(.p p1), (.i .i64 n2), (.i .i64 n3), (.i .i64 n4), (.i .i64 n5)])
 (σ8.ld (.n σ.next) 0).bind fun w9 =>
 (AV.asP w9).bind fun p10 =>
 (σ8.ld (.n σ.next) 1).bind fun w11 =>
 (AV.asI .i64 w11).bind fun n12 =>
 (σ8.ld (.n σ.next) 2).bind fun w13 =>
 (AV.asI .i64 w13).bind fun n14 =>
 (σ8.ld (.n σ.next) 3).bind fun w15 =>
 (AV.asI .i64 w15).bind fun n16 =>
 (σ8.ld (.n σ.next) 4).bind fun w17 =>
 (AV.asI .i64 w17).bind fun n18 =>
 (k94 [(.agg [(.p p10), (.i .i64 n12), (.i .i64 n14), (.i .i64 n16), (.i .i64 n18)]), (.i .i64 n6)] σ8).bind fun r19 =>
 (AV.asI .i64 r19.1).bind fun n20 =>
 (bif ((n20 : Int) != 0) then
 some ((.tup [(.i .i64 0), (.i .i64 n20)]), r19.2)
 else (r19.2.ld (.n σ.next) 0).bind fun w21 =>
 (AV.asP w21).bind fun p22 =>
 (r19.2.ld (.n σ.next) 1).bind fun w23 =>
 (AV.asI .i64 w23).bind fun n24 =>
 (r19.2.ld (.n σ.next) 2).bind fun w25 =>
 (AV.asI .i64 w25).bind fun n26 =>
 (r19.2.ld (.n σ.next) 3).bind fun w27 =>
 (AV.asI .i64 w27).bind fun n28 =>
 (r19.2.ld (.n σ.next) 4).bind fun w29 =>
 (AV.asI .i64 w29).bind fun n30 =>
 (r19.2.ld (.n σ.next) 3).bind fun w31 =>
 (AV.asI .i64 w31).bind fun n32 =>
 (k180 [(.agg [(.p p22), (.i .i64 n24), (.i .i64 n26), (.i .i64 n28), (.i .i64 n30)]), (.i .i64 n6), (.i .i64 n32)] r19.2).bind fun r33 =>
 (AV.asI .i64 r33.1).bind fun n34 =>
 some ((.tup [(.i .i64 n34), (.i .i64 0)]), r33.2))
 else none
noncomputable def chain_Table__After {O : Type} : Sm O := chain_Table__After_c chain_Table__check chain_Table__get
theorem chain_Table__After_ent : Entered Try.prog 97 := Try.call97
theorem chain_Table__After_run {O : Type} (k94 k180 : Sm O) : run (O := O) Try.prog [(94, k94), (180, k180)] Try.f97 (.n .z (.n (.n .z (.n .z (.n .z .z))) .z)) = chain_Table__After_c k94 k180 := by kernel_rfl
theorem chain_Table__After_sound {O : Type} {RO : O → Loc → (Nat → Option Obj) → Prop} : FSound RO Try.prog 97 (chain_Table__After) :=
   have h : FSound RO Try.prog 97 (chain_Table__After_c chain_Table__check chain_Table__get) := (chain_Table__After_run chain_Table__check chain_Table__get) ▸ run_sound (gcons chain_Table__check_ent (chain_Table__check_sound) <| gcons chain_Table__get_ent (chain_Table__get_sound) <| gnil) mixed Try.func97 (by kernel_rfl) _
   h

/-- (haymow/chain.Table).All$1 -/
noncomputable def chain_Table__All_1_L1 {O : Type} (n6 : Int) (k97 : Sm O) (ky0 : Sm O) (f0 : Option (Fn × List AV × List AV)) (xs : List AV) : List AV × AH O → Option ((List AV × AH O) ⊕ ((List AV × AH O) ⊕ (AV × AH O))) := (fun r7 =>
 (AV.asI .i64 (r7.1.getD 0 .u)).bind fun n8 =>
 (AV.asI .i64 (r7.1.getD 1 .u)).bind fun n9 =>
 (bif (decide (n9 < n6)) then
 (callV [(97, k97), (1000000, ky0)] f0 [(.i .i64 n8)] r7.2).bind fun r10 =>
 (AV.asB r10.1).bind fun b11 =>
 (bif (!b11) then
 ((some ((.tup []), r10.2) : Option (AV × AH O)).map fun r => Sum.inr (Sum.inr r))
 else (AV.asPS (xs.getD 2 .u)).bind fun q12 =>
 (r10.2.ld q12.1 q12.2).bind fun w13 =>
 (AV.asP w13).bind fun p14 =>
 (r10.2.ld q12.1 (q12.2 + 1)).bind fun w15 =>
 (AV.asI .i64 w15).bind fun n16 =>
 (r10.2.ld q12.1 ((q12.2 + 1) + 1)).bind fun w17 =>
 (AV.asI .i64 w17).bind fun n18 =>
 (r10.2.ld q12.1 (((q12.2 + 1) + 1) + 1)).bind fun w19 =>
 (AV.asI .i64 w19).bind fun n20 =>
 (r10.2.ld q12.1 ((((q12.2 + 1) + 1) + 1) + 1)).bind fun w21 =>
 (AV.asI .i64 w21).bind fun n22 =>
 (k97 [(.agg [(.p p14), (.i .i64 n16), (.i .i64 n18), (.i .i64 n20), (.i .i64 n22)]), (.i .i64 n8)] r10.2).bind fun r23 =>
 (AV.asTup 2 r23.1).bind fun c24 =>
 (AV.asI .i64 (c24.getD 0 .u)).bind fun n25 =>
 (AV.asI .i64 (c24.getD 1 .u)).bind fun n26 =>
 (bif ((n26 : Int) != 0) then
 ((some ((.tup []), r23.2) : Option (AV × AH O)).map fun r => Sum.inr (Sum.inr r))
 else some (Sum.inl ([(.i .i64 n25), (.i .i64 (IntKind.i64.wrap (n9 + 1)))], r23.2))))
 else some (Sum.inr (Sum.inl ([], r7.2)))))
noncomputable def chain_Table__All_1_c {O : Type} (k97 ky0 : Sm O) : Sm O := fun xs σ =>
 bif Nat.beq xs.length 3 then
 (AV.asF (xs.getD 0 .u)).bind fun f0 =>
 (AV.asPS (xs.getD 1 .u)).bind fun q1 =>
 (σ.ld q1.1 q1.2).bind fun w2 =>
 (AV.asI .i64 w2).bind fun n3 =>
 (AV.asPS (xs.getD 1 .u)).bind fun q4 =>
 (σ.ld q4.1 (q4.2 + 2)).bind fun w5 =>
 (AV.asI .i64 w5).bind fun n6 =>
 bindS (S := List AV × AH O) (R := (AV × AH O)) (loopF (S := List AV × AH O) (T := (List AV × AH O) ⊕ (AV × AH O)) (chain_Table__All_1_L1 n6 k97 ky0 f0 xs) ([(.i .i64 n3), (.i .i64 0)], σ)) fun r27 =>
 some ((.tup []), r27.2)
 else none
noncomputable def chain_Table__All_1 {O : Type} (ky0 : Sm O) : Sm O := chain_Table__All_1_c chain_Table__After ky0
theorem chain_Table__All_1_ent : Entered Try.prog 96 := Try.call96
theorem chain_Table__All_1_run {O : Type} (k97 ky0 : Sm O) : run (O := O) Try.prog [(97, k97), (1000000, ky0)] Try.f96 (.n .z (.n .z (.n (.lp true 0 [(4, .one (.i .i64)), (11, .one (.i .i64))] [] (.n .z (.n .z (.n (.n (.n (.n .z .z) (.n .z (.n (.n .z .z) .z))) .z) .z)))) .z))) = chain_Table__All_1_c k97 ky0 := by kernel_rfl
theorem chain_Table__All_1_sound {O : Type} {RO : O → Loc → (Nat → Option Obj) → Prop} {ky0 : Sm O} (hy : YSound RO Try.prog ky0) : FSound RO Try.prog 96 (chain_Table__All_1 ky0) :=
   have h : FSound RO Try.prog 96 (chain_Table__All_1_c chain_Table__After ky0) := (chain_Table__All_1_run chain_Table__After ky0) ▸ run_sound (gcons chain_Table__After_ent (chain_Table__After_sound) <| gyld hy <| gnil) mixed Try.func96 (by kernel_rfl) _
   h

/-- haymow/meter.New -/
noncomputable def meter_New_c {O : Type} : Sm O := fun xs σ =>
 bif Nat.beq xs.length 0 then
 let σ0 := σ.bump 1
 let σ1 := σ0.put σ.next (.cells true 220 [(.i .u64 0), (.i .u64 0), (.i .u64 0), (.i .u64 0), (.i .i64 0), (.i .i64 0)])
 some ((.p (some ((.n σ.next), 0))), σ1)
 else none
noncomputable def meter_New {O : Type} : Sm O := meter_New_c
theorem meter_New_ent : Entered Try.prog 85 := Try.call85
theorem meter_New_run {O : Type} : run (O := O) Try.prog [] Try.f85 (.n .z .z) = meter_New_c  := by kernel_rfl
theorem meter_New_sound {O : Type} {RO : O → Loc → (Nat → Option Obj) → Prop} : FSound RO Try.prog 85 (meter_New) :=
   have h : FSound RO Try.prog 85 (meter_New_c) := (meter_New_run) ▸ run_sound (gnil) mixed Try.func85 (by kernel_rfl) _
   h

/-- haymow/mem.New -/
noncomputable def mem_New_c {O : Type} (k85 : Sm O) : Sm O := fun xs σ =>
 bif Nat.beq xs.length 0 then
 let σ0 := σ.bump 1
 (k85 [] σ0).bind fun r1 =>
 (AV.asP r1.1).bind fun p2 =>
 let σ3 := r1.2.put σ.next (.cells true 87 [(.p p2), (.sl .nil 0), (.i .i64 0), (.i .i64 0)])
 some ((.p (some ((.n σ.next), 0))), σ3)
 else none
noncomputable def mem_New {O : Type} : Sm O := mem_New_c meter_New
theorem mem_New_ent : Entered Try.prog 13 := Try.call13
theorem mem_New_run {O : Type} (k85 : Sm O) : run (O := O) Try.prog [(85, k85)] Try.f13 (.n .z .z) = mem_New_c k85 := by kernel_rfl
theorem mem_New_sound {O : Type} {RO : O → Loc → (Nat → Option Obj) → Prop} : FSound RO Try.prog 13 (mem_New) :=
   have h : FSound RO Try.prog 13 (mem_New_c meter_New) := (mem_New_run meter_New) ▸ run_sound (gcons meter_New_ent (meter_New_sound) <| gnil) mixed Try.func13 (by kernel_rfl) _
   h

/-- (*haymow/meter.words).open -/
noncomputable def meter_words__open_c {O : Type} : Sm O := fun xs σ =>
 bif Nat.beq xs.length 2 then
 (AV.asP (xs.getD 0 .u)).bind fun p0 =>
 (AV.asI .i64 (xs.getD 1 .u)).bind fun n1 =>
 Option.bind p0 fun q2 =>
 (σ.ld q2.1 q2.2).bind fun w3 =>
 (AV.asI .i64 w3).bind fun n4 =>
 Option.bind p0 fun q5 =>
 (σ.st q5.1 q5.2 [(.i .i64 (IntKind.i64.wrap (n4 + n1)))]).bind fun σ6 =>
 Option.bind p0 fun q7 =>
 (σ6.ld q7.1 (q7.2 + 1)).bind fun w8 =>
 (AV.asI .i64 w8).bind fun n9 =>
 Option.bind p0 fun q10 =>
 (σ6.ld q10.1 q10.2).bind fun w11 =>
 (AV.asI .i64 w11).bind fun n12 =>
 Option.bind p0 fun q13 =>
 (σ6.st q13.1 (q13.2 + 1) [(.i .i64 (if n12 > n9 then n12 else n9))]).bind fun σ14 =>
 some ((.tup []), σ14)
 else none
noncomputable def meter_words__open {O : Type} : Sm O := meter_words__open_c
theorem meter_words__open_ent : Entered Try.prog 218 := Try.call218
theorem meter_words__open_run {O : Type} : run (O := O) Try.prog [] Try.f218 (.n .z (.d [] [0, 1, 2, 3, 4, 5, 6, 7, 8, 9, 10, 11, 12] [0, 0, 2, 6, 14, 0, 32, 96, 224, 510, 1023, 2047, 4095])) = meter_words__open_c  := by kernel_rfl
theorem meter_words__open_sound {O : Type} {RO : O → Loc → (Nat → Option Obj) → Prop} : FSound RO Try.prog 218 (meter_words__open) :=
   have h : FSound RO Try.prog 218 (meter_words__open_c) := (meter_words__open_run) ▸ run_sound (gnil) mixed Try.func218 (by kernel_rfl) _
   h

/-- (*haymow/meter.Meter).Hold -/
noncomputable def meter_Meter__Hold_c {O : Type} (k218 : Sm O) : Sm O := fun xs σ =>
 bif Nat.beq xs.length 2 then
 (AV.asP (xs.getD 0 .u)).bind fun p0 =>
 (AV.asI .i64 (xs.getD 1 .u)).bind fun n1 =>
 ((bif ((Option.isNone p0) == false) then
 some ([(.b (decide (n1 < 0)))], σ)
 else some ([(.b true)], σ)) : Option (List AV × AH O)).bind fun r2 =>
 (AV.asB (r2.1.getD 0 .u)).bind fun b3 =>
 (bif b3 then
 some ((.i .i64 1), r2.2)
 else Option.bind p0 fun q4 =>
 (r2.2.ld q4.1 (q4.2 + 4)).bind fun w5 =>
 (AV.asI .i64 w5).bind fun n6 =>
 let c7 : Bool := (decide (n1 > (IntKind.i64.wrap (281474976710656 - n6))))
 (bif c7 then
 some ((.i .i64 3), r2.2)
 else Option.bind p0 fun q8 =>
 (k218 [(.p (some (q8.1, (q8.2 + 4)))), (.i .i64 n1)] r2.2).bind fun r9 =>
 (AV.asTup 0 r9.1).bind fun c10 =>
 some ((.i .i64 0), r9.2)))
 else none
noncomputable def meter_Meter__Hold {O : Type} : Sm O := meter_Meter__Hold_c meter_words__open
theorem meter_Meter__Hold_ent : Entered Try.prog 174 := Try.call174
theorem meter_Meter__Hold_run {O : Type} (k218 : Sm O) : run (O := O) Try.prog [(218, k218)] Try.f174 (.n .z (.n (.n (.n (.g [(2, 2, [(11, .one .b)])]) (.n .z (.n .z (.n .z .z)))) .z) (.n .z .z))) = meter_Meter__Hold_c k218 := by kernel_rfl
theorem meter_Meter__Hold_sound {O : Type} {RO : O → Loc → (Nat → Option Obj) → Prop} : FSound RO Try.prog 174 (meter_Meter__Hold) :=
   have h : FSound RO Try.prog 174 (meter_Meter__Hold_c meter_words__open) := (meter_Meter__Hold_run meter_words__open) ▸ run_sound (gcons meter_words__open_ent (meter_words__open_sound) <| gnil) mixed Try.func174 (by kernel_rfl) _
   h

/-- (*haymow/mem.Mem).Open -/
noncomputable def mem_Mem__Open_L1 {O : Type} (p0 : Option (Bid × Nat)) : List AV × AH O → Option ((List AV × AH O) ⊕ (List AV × AH O)) := (fun r8 =>
 (AV.asI .i64 (r8.1.getD 0 .u)).bind fun n9 =>
 Option.bind p0 fun q10 =>
 (r8.2.ld q10.1 (q10.2 + 1)).bind fun w11 =>
 (AV.asSl w11).bind fun l12 =>
 ((bif ((decide (n9 < (l12.2 : Int))) == true) then
 Option.bind p0 fun q13 =>
 (r8.2.ld q13.1 (q13.2 + 1)).bind fun w14 =>
 (AV.asSl w14).bind fun l15 =>
 (bif ((decide ((0 : Int) ≤ n9)) && (decide (n9 < (l15.2 : Int)))) then
 (SA.ref l15.1).bind fun q16 =>
 (r8.2.ld q16.1 ((q16.2 + (n9.toNat * 2)) + 1)).bind fun w17 =>
 (AV.asB w17).bind fun b18 =>
 some ([(.b b18)], r8.2)
 else none)
 else some ([(.b false)], r8.2)) : Option (List AV × AH O)).bind fun r19 =>
 (AV.asB (r19.1.getD 0 .u)).bind fun b20 =>
 (bif b20 then
 some (Sum.inl ([(.i .i64 (IntKind.i64.wrap (n9 + 1)))], r19.2))
 else some (Sum.inr ([(.i .i64 n9)], r19.2))))
noncomputable def mem_Mem__Open_c {O : Type} (k174 : Sm O) : Sm O := fun xs σ =>
 bif Nat.beq xs.length 2 then
 (AV.asP (xs.getD 0 .u)).bind fun p0 =>
 (AV.asI .i64 (xs.getD 1 .u)).bind fun n1 =>
 (bif (decide (n1 < 0)) then
 some ((.tup [(.i .i64 0), (.i .i64 1)]), σ)
 else (bif (decide (n1 > 4194304)) then
 some ((.tup [(.i .i64 0), (.i .i64 7)]), σ)
 else Option.bind p0 fun q2 =>
 (σ.ld q2.1 (q2.2 + 3)).bind fun w3 =>
 (AV.asI .i64 w3).bind fun n4 =>
 (bif (decide (n4 ≥ 262144)) then
 some ((.tup [(.i .i64 0), (.i .i64 3)]), σ)
 else Option.bind p0 fun q5 =>
 (σ.ld q5.1 (q5.2 + 2)).bind fun w6 =>
 (AV.asI .i64 w6).bind fun n7 =>
 (loopF (S := List AV × AH O) (T := List AV × AH O) (mem_Mem__Open_L1 p0) ([(.i .i64 n7)], σ)).bind fun r21 =>
 (AV.asI .i64 (r21.1.getD 0 .u)).bind fun n22 =>
 Option.bind p0 fun q23 =>
 (r21.2.ld q23.1 (q23.2 + 1)).bind fun w24 =>
 (AV.asSl w24).bind fun l25 =>
 ((bif ((n22 : Int) == (l25.2 : Int)) then
 let σ26 := r21.2.bump 2
 Option.bind p0 fun q27 =>
 (σ26.ld q27.1 (q27.2 + 1)).bind fun w28 =>
 (AV.asSl w28).bind fun l29 =>
 let σ30 := σ26.put r21.2.next (.cells true 266 [(.sl .nil 0), (.b false)])
 (σ30.rdSl (.loc (.n r21.2.next) 0 2) 1 2).bind fun new31 =>
 (bif (Nat.ble ((l29.2 + 1) * 33) 35184372088832) then
 (σ30.appSl (r21.2.next + 1) 266 2 l29.1 l29.2 1 new31).bind fun r32 =>
 (AV.asSl r32.1).bind fun l33 =>
 Option.bind p0 fun q34 =>
 (r32.2.st q34.1 (q34.2 + 1) [(.sl l33.1 l33.2)]).bind fun σ35 =>
 some ([], σ35)
 else none)
 else some ([], r21.2)) : Option (List AV × AH O)).bind fun r36 =>
 let σ37 := r36.2.bump 1
 Option.bind p0 fun q38 =>
 (σ37.ld q38.1 (q38.2 + 1)).bind fun w39 =>
 (AV.asSl w39).bind fun l40 =>
 (bif ((((decide ((0 : Int) ≤ n1)) && (decide (n1 ≤ n1))) && (decide ((n1 * 8) ≤ 140737488355328))) && (decide (n1 ≤ 140737488355328))) then
 let σ41 := σ37.put r36.2.next (.cells true 44 ((List.replicate n1.toNat [(.i .u64 0)]).flatten))
 (bif ((decide ((0 : Int) ≤ n22)) && (decide (n22 < (l40.2 : Int)))) then
 (SA.ref l40.1).bind fun q42 =>
 (σ41.st q42.1 (q42.2 + (n22.toNat * 2)) [(.sl (.loc (.n r36.2.next) 0 1) n1.toNat), (.b true)]).bind fun σ43 =>
 Option.bind p0 fun q44 =>
 (σ43.ld q44.1 (q44.2 + 3)).bind fun w45 =>
 (AV.asI .i64 w45).bind fun n46 =>
 Option.bind p0 fun q47 =>
 (σ43.st q47.1 (q47.2 + 2) [(.i .i64 (IntKind.i64.wrap (n22 + 1)))]).bind fun σ48 =>
 Option.bind p0 fun q49 =>
 (σ48.st q49.1 (q49.2 + 3) [(.i .i64 (IntKind.i64.wrap (n46 + 1)))]).bind fun σ50 =>
 Option.bind p0 fun q51 =>
 (σ50.ld q51.1 q51.2).bind fun w52 =>
 (AV.asP w52).bind fun p53 =>
 (k174 [(.p p53), (.i .i64 n1)] σ50).bind fun r54 =>
 (AV.asI .i64 r54.1).bind fun n55 =>
 some ((.tup [(.i .i64 n22), (.i .i64 0)]), r54.2)
 else none)
 else none))))
 else none
noncomputable def mem_Mem__Open {O : Type} : Sm O := mem_Mem__Open_c meter_Meter__Hold
theorem mem_Mem__Open_ent : Entered Try.prog 86 := Try.call86
theorem mem_Mem__Open_run {O : Type} (k174 : Sm O) : run (O := O) Try.prog [(174, k174)] Try.f86 (.n .z (.n (.n (.n .z (.n .z (.n .z (.n .z (.n .z (.n .z .z)))))) .z) (.n .z (.n (.n (.lp false 1 [(6, .one (.i .i64))] [(6, .one (.i .i64))] (.n (.n (.g [(7, 8, [(39, .one .b)])]) .z) .z)) .z) (.n (.n .z (.j false [] .z .z)) (.n (.d [] [0, 1, 2, 3, 4, 5, 6, 7, 8, 9] [0, 1, 3, 7, 0, 0, 32, 96, 255, 511]) (.n .z (.n .z .z)))))))) = mem_Mem__Open_c k174 := by kernel_rfl
theorem mem_Mem__Open_sound {O : Type} {RO : O → Loc → (Nat → Option Obj) → Prop} : FSound RO Try.prog 86 (mem_Mem__Open) :=
   have h : FSound RO Try.prog 86 (mem_Mem__Open_c meter_Meter__Hold) := (mem_Mem__Open_run meter_Meter__Hold) ▸ run_sound (gcons meter_Meter__Hold_ent (meter_Meter__Hold_sound) <| gnil) mixed Try.func86 (by kernel_rfl) _
   h

/-- haymow/pool.New -/
noncomputable def pool_New_c {O : Type} (k86 : Sm O) : Sm O := fun xs σ =>
 bif Nat.beq xs.length 2 then
 (AV.asP (xs.getD 0 .u)).bind fun p0 =>
 (AV.asI .i64 (xs.getD 1 .u)).bind fun n1 =>
 ((bif ((Option.isNone p0) == false) then
 some ([(.b (decide (n1 < 1)))], σ)
 else some ([(.b true)], σ)) : Option (List AV × AH O)).bind fun r2 =>
 (AV.asB (r2.1.getD 0 .u)).bind fun b3 =>
 ((bif (b3 == false) then
 some ([(.b (decide (n1 > 60)))], r2.2)
 else some ([(.b true)], r2.2)) : Option (List AV × AH O)).bind fun r4 =>
 (AV.asB (r4.1.getD 0 .u)).bind fun b5 =>
 (bif b5 then
 some ((.tup [(.p none), (.i .i64 1)]), r4.2)
 else (k86 [(.p p0), (.i .i64 0)] r4.2).bind fun r6 =>
 (AV.asTup 2 r6.1).bind fun c7 =>
 (AV.asI .i64 (c7.getD 0 .u)).bind fun n8 =>
 (AV.asI .i64 (c7.getD 1 .u)).bind fun n9 =>
 (bif ((n9 : Int) != 0) then
 some ((.tup [(.p none), (.i .i64 n9)]), r6.2)
 else let σ10 := r6.2.bump 1
 let σ11 := σ10.put r6.2.next (.cells true 161 [(.p p0), (.i .i64 n8), (.i .i64 n1), (.i .i64 0), (.i .i64 0), (.i .i64 0), (.i .i64 0)])
 some ((.tup [(.p (some ((.n r6.2.next), 0))), (.i .i64 0)]), σ11)))
 else none
noncomputable def pool_New {O : Type} : Sm O := pool_New_c mem_Mem__Open
theorem pool_New_ent : Entered Try.prog 14 := Try.call14
theorem pool_New_run {O : Type} (k86 : Sm O) : run (O := O) Try.prog [(86, k86)] Try.f14 (.n .z (.n (.n (.g [(2, 2, [(13, .one .b)]), (6, 2, [(17, .one .b)])]) (.n .z .z)) (.n .z (.n (.n .z (.n .z .z)) .z)))) = pool_New_c k86 := by kernel_rfl
theorem pool_New_sound {O : Type} {RO : O → Loc → (Nat → Option Obj) → Prop} : FSound RO Try.prog 14 (pool_New) :=
   have h : FSound RO Try.prog 14 (pool_New_c mem_Mem__Open) := (pool_New_run mem_Mem__Open) ▸ run_sound (gcons mem_Mem__Open_ent (mem_Mem__Open_sound) <| gnil) mixed Try.func14 (by kernel_rfl) _
   h

/-- haymow/haymowlaw10.made -/
noncomputable def law10_made_c {O : Type} (k13 k14 : Sm O) : Sm O := fun xs σ =>
 bif Nat.beq xs.length 1 then
 (AV.asI .i64 (xs.getD 0 .u)).bind fun n0 =>
 (k13 [] σ).bind fun r1 =>
 (AV.asP r1.1).bind fun p2 =>
 (bif (Option.isNone p2) then
 some ((.tup [(.p none), (.p none), (.b false)]), r1.2)
 else (k14 [(.p p2), (.i .i64 n0)] r1.2).bind fun r3 =>
 (AV.asTup 2 r3.1).bind fun c4 =>
 (AV.asP (c4.getD 0 .u)).bind fun p5 =>
 (AV.asI .i64 (c4.getD 1 .u)).bind fun n6 =>
 ((bif ((!(Option.isNone p5)) == true) then
 some ([(.b ((n6 : Int) == 0))], r3.2)
 else some ([(.b false)], r3.2)) : Option (List AV × AH O)).bind fun r7 =>
 (AV.asB (r7.1.getD 0 .u)).bind fun b8 =>
 some ((.tup [(.p p2), (.p p5), (.b b8)]), r7.2))
 else none
noncomputable def law10_made {O : Type} : Sm O := law10_made_c mem_New pool_New
theorem law10_made_ent : Entered Try.prog 81 := Try.call81
theorem law10_made_run {O : Type} (k13 k14 : Sm O) : run (O := O) Try.prog [(13, k13), (14, k14)] Try.f81 (.n .z (.n .z (.n (.n .z (.n .z .z)) (.n .z (.n (.g [(4, 2, [(24, .one .b)])]) .z))))) = law10_made_c k13 k14 := by kernel_rfl
theorem law10_made_sound {O : Type} {RO : O → Loc → (Nat → Option Obj) → Prop} : FSound RO Try.prog 81 (law10_made) :=
   have h : FSound RO Try.prog 81 (law10_made_c mem_New pool_New) := (law10_made_run mem_New pool_New) ▸ run_sound (gcons mem_New_ent (mem_New_sound) <| gcons pool_New_ent (pool_New_sound) <| gnil) mixed Try.func81 (by kernel_rfl) _
   h

/-- (*haymow/pool.Pool).width -/
noncomputable def pool_Pool__width_c {O : Type} : Sm O := fun xs σ =>
 bif Nat.beq xs.length 1 then
 (AV.asP (xs.getD 0 .u)).bind fun p0 =>
 Option.bind p0 fun q1 =>
 (σ.ld q1.1 (q1.2 + 2)).bind fun w2 =>
 (AV.asI .i64 w2).bind fun n3 =>
 some ((.i .i64 (IntKind.i64.wrap (n3 + 1))), σ)
 else none
noncomputable def pool_Pool__width {O : Type} : Sm O := pool_Pool__width_c
theorem pool_Pool__width_ent : Entered Try.prog 87 := Try.call87
theorem pool_Pool__width_run {O : Type} : run (O := O) Try.prog [] Try.f87 (.n .z .z) = pool_Pool__width_c  := by kernel_rfl
theorem pool_Pool__width_sound {O : Type} {RO : O → Loc → (Nat → Option Obj) → Prop} : FSound RO Try.prog 87 (pool_Pool__width) :=
   have h : FSound RO Try.prog 87 (pool_Pool__width_c) := (pool_Pool__width_run) ▸ run_sound (gnil) mixed Try.func87 (by kernel_rfl) _
   h

/-- (*haymow/mem.Mem).Grow -/
noncomputable def mem_Mem__Grow_c {O : Type} (k208 k174 : Sm O) : Sm O := fun xs σ =>
 bif Nat.beq xs.length 3 then
 (AV.asP (xs.getD 0 .u)).bind fun p0 =>
 (AV.asI .i64 (xs.getD 1 .u)).bind fun n1 =>
 (AV.asI .i64 (xs.getD 2 .u)).bind fun n2 =>
 (k208 [(.p p0), (.i .i64 n1)] σ).bind fun r3 =>
 (AV.asP r3.1).bind fun p4 =>
 (bif (Option.isNone p4) then
 some ((.i .i64 10), r3.2)
 else Option.bind p4 fun q5 =>
 (r3.2.ld q5.1 q5.2).bind fun w6 =>
 (AV.asSl w6).bind fun l7 =>
 (bif (decide (n2 < (l7.2 : Int))) then
 some ((.i .i64 1), r3.2)
 else (bif (decide (n2 > 4194304)) then
 some ((.i .i64 7), r3.2)
 else Option.bind p0 fun q8 =>
 (r3.2.ld q8.1 q8.2).bind fun w9 =>
 (AV.asP w9).bind fun p10 =>
 Option.bind p4 fun q11 =>
 (r3.2.ld q11.1 q11.2).bind fun w12 =>
 (AV.asSl w12).bind fun l13 =>
 (k174 [(.p p10), (.i .i64 (IntKind.i64.wrap (n2 - (l13.2 : Int))))] r3.2).bind fun r14 =>
 (AV.asI .i64 r14.1).bind fun n15 =>
 let σ16 := r14.2.bump 1
 (bif ((((decide ((0 : Int) ≤ n2)) && (decide (n2 ≤ n2))) && (decide ((n2 * 8) ≤ 140737488355328))) && (decide (n2 ≤ 140737488355328))) then
 let σ17 := σ16.put r14.2.next (.cells true 44 ((List.replicate n2.toNat [(.i .u64 0)]).flatten))
 Option.bind p4 fun q18 =>
 (σ17.ld q18.1 q18.2).bind fun w19 =>
 (AV.asSl w19).bind fun l20 =>
 (bif Nat.beq (min l20.2 n2.toNat) 0 then
 Option.bind p4 fun q24 =>
 (σ17.st q24.1 q24.2 [(.sl (.loc (.n r14.2.next) 0 1) n2.toNat)]).bind fun σ25 =>
 some ((.i .i64 0), σ25)
 else
 (σ17.rdSl l20.1 (min l20.2 n2.toNat) 1).bind fun c22 =>
 (σ17.wrSl (.loc (.n r14.2.next) 0 1) c22).bind fun σ23 =>
 Option.bind p4 fun q26 =>
 (σ23.st q26.1 q26.2 [(.sl (.loc (.n r14.2.next) 0 1) n2.toNat)]).bind fun σ27 =>
 some ((.i .i64 0), σ27))
 else none))))
 else none
noncomputable def mem_Mem__Grow {O : Type} : Sm O := mem_Mem__Grow_c mem_Mem__at meter_Meter__Hold
theorem mem_Mem__Grow_ent : Entered Try.prog 175 := Try.call175
theorem mem_Mem__Grow_run {O : Type} (k208 k174 : Sm O) : run (O := O) Try.prog [(208, k208), (174, k174)] Try.f175 (.n .z (.n .z (.n (.n (.n .z (.n .z (.n .z (.n .z (.n .z (.n .z .z)))))) .z) (.n (.d [] [0, 1, 2, 3, 4, 5, 6, 7, 8, 9, 10, 11] [0, 1, 3, 7, 0, 0, 32, 96, 224, 480, 1008, 2047]) (.n .z (.n .z (.n .z .z))))))) = mem_Mem__Grow_c k208 k174 := by kernel_rfl
theorem mem_Mem__Grow_sound {O : Type} {RO : O → Loc → (Nat → Option Obj) → Prop} : FSound RO Try.prog 175 (mem_Mem__Grow) :=
   have h : FSound RO Try.prog 175 (mem_Mem__Grow_c mem_Mem__at meter_Meter__Hold) := (mem_Mem__Grow_run mem_Mem__at meter_Meter__Hold) ▸ run_sound (gcons mem_Mem__at_ent (mem_Mem__at_sound) <| gcons meter_Meter__Hold_ent (meter_Meter__Hold_sound) <| gnil) mixed Try.func175 (by kernel_rfl) _
   h

/-- (*haymow/pool.Pool).grow -/
noncomputable def pool_Pool__grow_c {O : Type} (k87 k175 : Sm O) : Sm O := fun xs σ =>
 bif Nat.beq xs.length 1 then
 (AV.asP (xs.getD 0 .u)).bind fun p0 =>
 Option.bind p0 fun q1 =>
 (σ.ld q1.1 (q1.2 + 3)).bind fun w2 =>
 (AV.asI .i64 w2).bind fun n3 =>
 (bif (decide (n3 ≥ 1048576)) then
 some ((.i .i64 3), σ)
 else Option.bind p0 fun q4 =>
 (σ.ld q4.1 (q4.2 + 3)).bind fun w5 =>
 (AV.asI .i64 w5).bind fun n6 =>
 Option.bind p0 fun q7 =>
 (σ.ld q7.1 (q7.2 + 4)).bind fun w8 =>
 (AV.asI .i64 w8).bind fun n9 =>
 (bif (decide (n6 < n9)) then
 some ((.i .i64 0), σ)
 else Option.bind p0 fun q10 =>
 (σ.ld q10.1 (q10.2 + 4)).bind fun w11 =>
 (AV.asI .i64 w11).bind fun n12 =>
 let v13 : Int := (if (IntKind.i64.wrap (2 * n12)) > 8 then (IntKind.i64.wrap (2 * n12)) else 8)
 Option.bind p0 fun q14 =>
 (σ.ld q14.1 q14.2).bind fun w15 =>
 (AV.asP w15).bind fun p16 =>
 Option.bind p0 fun q17 =>
 (σ.ld q17.1 (q17.2 + 1)).bind fun w18 =>
 (AV.asI .i64 w18).bind fun n19 =>
 (k87 [(.p p0)] σ).bind fun r20 =>
 (AV.asI .i64 r20.1).bind fun n21 =>
 (chk (r20.2.ld q14.1 q14.2 = some (.p p16))).bind fun _ =>
 (chk (r20.2.ld q17.1 (q17.2 + 1) = some (.i .i64 n19))).bind fun _ =>
 (k175 [(.p p16), (.i .i64 n19), (.i .i64 (IntKind.i64.wrap (v13 * n21)))] r20.2).bind fun r22 =>
 (AV.asI .i64 r22.1).bind fun n23 =>
 (bif ((n23 : Int) != 0) then
 some ((.i .i64 3), r22.2)
 else Option.bind p0 fun q24 =>
 (r22.2.st q24.1 (q24.2 + 4) [(.i .i64 v13)]).bind fun σ25 =>
 some ((.i .i64 0), σ25))))
 else none
noncomputable def pool_Pool__grow {O : Type} : Sm O := pool_Pool__grow_c pool_Pool__width mem_Mem__Grow
theorem pool_Pool__grow_ent : Entered Try.prog 89 := Try.call89
theorem pool_Pool__grow_run {O : Type} (k87 k175 : Sm O) : run (O := O) Try.prog [(87, k87), (175, k175)] Try.f89 (.n .z (.n (.n (.n .z (.n .z (.n (.d [] [0, 1, 2, 3, 4, 5, 6, 7, 8, 9] [0, 1, 3, 7, 0, 16, 48, 112, 255, 511]) (.n .z .z)))) .z) (.n .z (.n (.n (.d [] [0, 1, 2, 3, 4, 5, 6, 7, 8, 9, 10, 11, 12, 13] [0, 1, 3, 7, 0, 16, 48, 112, 0, 0, 512, 1792, 4095, 8191]) (.n .z (.n .z .z))) (.n .z .z))))) = pool_Pool__grow_c k87 k175 := by kernel_rfl
theorem pool_Pool__grow_sound {O : Type} {RO : O → Loc → (Nat → Option Obj) → Prop} : FSound RO Try.prog 89 (pool_Pool__grow) :=
   have h : FSound RO Try.prog 89 (pool_Pool__grow_c pool_Pool__width mem_Mem__Grow) := (pool_Pool__grow_run pool_Pool__width mem_Mem__Grow) ▸ run_sound (gcons pool_Pool__width_ent (pool_Pool__width_sound) <| gcons mem_Mem__Grow_ent (mem_Mem__Grow_sound) <| gnil) mixed Try.func89 (by kernel_rfl) _
   h

/-- (*haymow/pool.Pool).at -/
noncomputable def pool_Pool__at_c {O : Type} (k87 : Sm O) : Sm O := fun xs σ =>
 bif Nat.beq xs.length 3 then
 (AV.asP (xs.getD 0 .u)).bind fun p0 =>
 (AV.asI .i64 (xs.getD 1 .u)).bind fun n1 =>
 (AV.asI .i64 (xs.getD 2 .u)).bind fun n2 =>
 (k87 [(.p p0)] σ).bind fun r3 =>
 (AV.asI .i64 r3.1).bind fun n4 =>
 let v5 : Int := (IntKind.i64.wrap ((IntKind.i64.wrap (n1 - 1)) * n4))
 let v6 : Int := (IntKind.i64.wrap ((IntKind.i64.wrap (v5 + 1)) + n2))
 some ((.i .i64 v6), r3.2)
 else none
noncomputable def pool_Pool__at {O : Type} : Sm O := pool_Pool__at_c pool_Pool__width
theorem pool_Pool__at_ent : Entered Try.prog 91 := Try.call91
theorem pool_Pool__at_run {O : Type} (k87 : Sm O) : run (O := O) Try.prog [(87, k87)] Try.f91 (.n .z .z) = pool_Pool__at_c k87 := by kernel_rfl
theorem pool_Pool__at_sound {O : Type} {RO : O → Loc → (Nat → Option Obj) → Prop} : FSound RO Try.prog 91 (pool_Pool__at) :=
   have h : FSound RO Try.prog 91 (pool_Pool__at_c pool_Pool__width) := (pool_Pool__at_run pool_Pool__width) ▸ run_sound (gcons pool_Pool__width_ent (pool_Pool__width_sound) <| gnil) mixed Try.func91 (by kernel_rfl) _
   h

/-- (*haymow/mem.Mem).Write -/
noncomputable def mem_Mem__Write_c {O : Type} (k176 k177 : Sm O) : Sm O := fun xs σ =>
 bif Nat.beq xs.length 4 then
 (AV.asP (xs.getD 0 .u)).bind fun p0 =>
 (AV.asI .i64 (xs.getD 1 .u)).bind fun n1 =>
 (AV.asI .i64 (xs.getD 2 .u)).bind fun n2 =>
 (AV.asI .u64 (xs.getD 3 .u)).bind fun n3 =>
 (k176 [(.p p0), (.i .i64 n1), (.i .i64 n2), (.i .i64 1)] σ).bind fun r4 =>
 (AV.asTup 2 r4.1).bind fun c5 =>
 (AV.asSl (c5.getD 0 .u)).bind fun l6 =>
 (AV.asI .i64 (c5.getD 1 .u)).bind fun n7 =>
 (bif ((n7 : Int) != 0) then
 some ((.i .i64 n7), r4.2)
 else Option.bind p0 fun q8 =>
 (r4.2.ld q8.1 q8.2).bind fun w9 =>
 (AV.asP w9).bind fun p10 =>
 (k177 [(.p p10), (.i .i64 1), (.i .i64 1)] r4.2).bind fun r11 =>
 (AV.asTup 0 r11.1).bind fun c12 =>
 (bif (decide ((0 : Int) < (l6.2 : Int))) then
 (SA.ref l6.1).bind fun q13 =>
 (r11.2.st q13.1 q13.2 [(.i .u64 n3)]).bind fun σ14 =>
 some ((.i .i64 0), σ14)
 else none))
 else none
noncomputable def mem_Mem__Write {O : Type} : Sm O := mem_Mem__Write_c mem_Mem__within meter_Meter__Step
theorem mem_Mem__Write_ent : Entered Try.prog 90 := Try.call90
theorem mem_Mem__Write_run {O : Type} (k176 k177 : Sm O) : run (O := O) Try.prog [(176, k176), (177, k177)] Try.f90 (.n .z (.n .z (.n (.n .z (.n .z .z)) (.n .z (.n .z .z))))) = mem_Mem__Write_c k176 k177 := by kernel_rfl
theorem mem_Mem__Write_sound {O : Type} {RO : O → Loc → (Nat → Option Obj) → Prop} : FSound RO Try.prog 90 (mem_Mem__Write) :=
   have h : FSound RO Try.prog 90 (mem_Mem__Write_c mem_Mem__within meter_Meter__Step) := (mem_Mem__Write_run mem_Mem__within meter_Meter__Step) ▸ run_sound (gcons mem_Mem__within_ent (mem_Mem__within_sound) <| gcons meter_Meter__Step_ent (meter_Meter__Step_sound) <| gnil) mixed Try.func90 (by kernel_rfl) _
   h

/-- (*haymow/mem.Mem).Zero -/
noncomputable def mem_Mem__Zero_c {O : Type} (k176 k177 : Sm O) : Sm O := fun xs σ =>
 bif Nat.beq xs.length 4 then
 (AV.asP (xs.getD 0 .u)).bind fun p0 =>
 (AV.asI .i64 (xs.getD 1 .u)).bind fun n1 =>
 (AV.asI .i64 (xs.getD 2 .u)).bind fun n2 =>
 (AV.asI .i64 (xs.getD 3 .u)).bind fun n3 =>
 (k176 [(.p p0), (.i .i64 n1), (.i .i64 n2), (.i .i64 n3)] σ).bind fun r4 =>
 (AV.asTup 2 r4.1).bind fun c5 =>
 (AV.asSl (c5.getD 0 .u)).bind fun l6 =>
 (AV.asI .i64 (c5.getD 1 .u)).bind fun n7 =>
 (bif ((n7 : Int) != 0) then
 some ((.i .i64 n7), r4.2)
 else Option.bind p0 fun q8 =>
 (r4.2.ld q8.1 q8.2).bind fun w9 =>
 (AV.asP w9).bind fun p10 =>
 (k177 [(.p p10), (.i .i64 1), (.i .i64 n3)] r4.2).bind fun r11 =>
 (AV.asTup 0 r11.1).bind fun c12 =>
 (bif Nat.beq l6.2 0 then
 some ((.i .i64 0), r11.2)
 else
 (r11.2.wrSl l6.1 ((List.replicate l6.2 [(.i .u64 0)]).flatten)).bind fun σ13 =>
 some ((.i .i64 0), σ13)))
 else none
noncomputable def mem_Mem__Zero {O : Type} : Sm O := mem_Mem__Zero_c mem_Mem__within meter_Meter__Step
theorem mem_Mem__Zero_ent : Entered Try.prog 93 := Try.call93
theorem mem_Mem__Zero_run {O : Type} (k176 k177 : Sm O) : run (O := O) Try.prog [(176, k176), (177, k177)] Try.f93 (.n .z (.n .z (.n (.n .z (.n .z .z)) (.n .z (.n .z .z))))) = mem_Mem__Zero_c k176 k177 := by kernel_rfl
theorem mem_Mem__Zero_sound {O : Type} {RO : O → Loc → (Nat → Option Obj) → Prop} : FSound RO Try.prog 93 (mem_Mem__Zero) :=
   have h : FSound RO Try.prog 93 (mem_Mem__Zero_c mem_Mem__within meter_Meter__Step) := (mem_Mem__Zero_run mem_Mem__within meter_Meter__Step) ▸ run_sound (gcons mem_Mem__within_ent (mem_Mem__within_sound) <| gcons meter_Meter__Step_ent (meter_Meter__Step_sound) <| gnil) mixed Try.func93 (by kernel_rfl) _
   h

/-- (*haymow/pool.Pool).Take -/
noncomputable def pool_Pool__Take_c {O : Type} (k89 k91 k90 k92 k93 : Sm O) : Sm O := fun xs σ =>
 bif Nat.beq xs.length 1 then
 (AV.asP (xs.getD 0 .u)).bind fun p0 =>
 Option.bind p0 fun q1 =>
 (σ.ld q1.1 (q1.2 + 5)).bind fun w2 =>
 (AV.asI .i64 w2).bind fun n3 =>
 (bif ((n3 : Int) == 0) then
 (k89 [(.p p0)] σ).bind fun r4 =>
 (AV.asI .i64 r4.1).bind fun n5 =>
 (bif ((n5 : Int) != 0) then
 some ((.tup [(.i .i64 0), (.i .i64 n5)]), r4.2)
 else Option.bind p0 fun q6 =>
 (r4.2.ld q6.1 (q6.2 + 3)).bind fun w7 =>
 (AV.asI .i64 w7).bind fun n8 =>
 Option.bind p0 fun q9 =>
 (r4.2.st q9.1 (q9.2 + 3) [(.i .i64 (IntKind.i64.wrap (n8 + 1)))]).bind fun σ10 =>
 Option.bind p0 fun q11 =>
 (σ10.ld q11.1 (q11.2 + 3)).bind fun w12 =>
 (AV.asI .i64 w12).bind fun n13 =>
 Option.bind p0 fun q14 =>
 (σ10.ld q14.1 q14.2).bind fun w15 =>
 (AV.asP w15).bind fun p16 =>
 Option.bind p0 fun q17 =>
 (σ10.ld q17.1 (q17.2 + 1)).bind fun w18 =>
 (AV.asI .i64 w18).bind fun n19 =>
 (k91 [(.p p0), (.i .i64 n13), (.i .i64 (-1))] σ10).bind fun r20 =>
 (AV.asI .i64 r20.1).bind fun n21 =>
 (chk (r20.2.ld q14.1 q14.2 = some (.p p16))).bind fun _ =>
 (chk (r20.2.ld q17.1 (q17.2 + 1) = some (.i .i64 n19))).bind fun _ =>
 (k90 [(.p p16), (.i .i64 n19), (.i .i64 n21), (.i .u64 1)] r20.2).bind fun r22 =>
 (AV.asI .i64 r22.1).bind fun n23 =>
 Option.bind p0 fun q24 =>
 (r22.2.ld q24.1 (q24.2 + 6)).bind fun w25 =>
 (AV.asI .i64 w25).bind fun n26 =>
 Option.bind p0 fun q27 =>
 (r22.2.st q27.1 (q27.2 + 6) [(.i .i64 (IntKind.i64.wrap (n26 + 1)))]).bind fun σ28 =>
 some ((.tup [(.i .i64 n13), (.i .i64 0)]), σ28))
 else Option.bind p0 fun q29 =>
 (σ.ld q29.1 q29.2).bind fun w30 =>
 (AV.asP w30).bind fun p31 =>
 Option.bind p0 fun q32 =>
 (σ.ld q32.1 (q32.2 + 1)).bind fun w33 =>
 (AV.asI .i64 w33).bind fun n34 =>
 (k91 [(.p p0), (.i .i64 n3), (.i .i64 0)] σ).bind fun r35 =>
 (AV.asI .i64 r35.1).bind fun n36 =>
 (chk (r35.2.ld q29.1 q29.2 = some (.p p31))).bind fun _ =>
 (chk (r35.2.ld q32.1 (q32.2 + 1) = some (.i .i64 n34))).bind fun _ =>
 (k92 [(.p p31), (.i .i64 n34), (.i .i64 n36)] r35.2).bind fun r37 =>
 (AV.asTup 2 r37.1).bind fun c38 =>
 (AV.asI .u64 (c38.getD 0 .u)).bind fun n39 =>
 (AV.asI .i64 (c38.getD 1 .u)).bind fun n40 =>
 Option.bind p0 fun q41 =>
 (r37.2.ld q41.1 q41.2).bind fun w42 =>
 (AV.asP w42).bind fun p43 =>
 Option.bind p0 fun q44 =>
 (r37.2.ld q44.1 (q44.2 + 1)).bind fun w45 =>
 (AV.asI .i64 w45).bind fun n46 =>
 (k91 [(.p p0), (.i .i64 n3), (.i .i64 (-1))] r37.2).bind fun r47 =>
 (AV.asI .i64 r47.1).bind fun n48 =>
 (chk (r47.2.ld q41.1 q41.2 = some (.p p43))).bind fun _ =>
 (chk (r47.2.ld q44.1 (q44.2 + 1) = some (.i .i64 n46))).bind fun _ =>
 (k92 [(.p p43), (.i .i64 n46), (.i .i64 n48)] r47.2).bind fun r49 =>
 (AV.asTup 2 r49.1).bind fun c50 =>
 (AV.asI .u64 (c50.getD 0 .u)).bind fun n51 =>
 (AV.asI .i64 (c50.getD 1 .u)).bind fun n52 =>
 Option.bind p0 fun q53 =>
 (r49.2.ld q53.1 q53.2).bind fun w54 =>
 (AV.asP w54).bind fun p55 =>
 Option.bind p0 fun q56 =>
 (r49.2.ld q56.1 (q56.2 + 1)).bind fun w57 =>
 (AV.asI .i64 w57).bind fun n58 =>
 (k91 [(.p p0), (.i .i64 n3), (.i .i64 (-1))] r49.2).bind fun r59 =>
 (AV.asI .i64 r59.1).bind fun n60 =>
 (chk (r59.2.ld q53.1 q53.2 = some (.p p55))).bind fun _ =>
 (chk (r59.2.ld q56.1 (q56.2 + 1) = some (.i .i64 n58))).bind fun _ =>
 (k90 [(.p p55), (.i .i64 n58), (.i .i64 n60), (.i .u64 (ibits .or .u64 n51 1))] r59.2).bind fun r61 =>
 (AV.asI .i64 r61.1).bind fun n62 =>
 Option.bind p0 fun q63 =>
 (r61.2.ld q63.1 q63.2).bind fun w64 =>
 (AV.asP w64).bind fun p65 =>
 Option.bind p0 fun q66 =>
 (r61.2.ld q66.1 (q66.2 + 1)).bind fun w67 =>
 (AV.asI .i64 w67).bind fun n68 =>
 Option.bind p0 fun q69 =>
 (r61.2.ld q69.1 (q69.2 + 2)).bind fun w70 =>
 (AV.asI .i64 w70).bind fun n71 =>
 (k91 [(.p p0), (.i .i64 n3), (.i .i64 0)] r61.2).bind fun r72 =>
 (AV.asI .i64 r72.1).bind fun n73 =>
 (chk (r72.2.ld q63.1 q63.2 = some (.p p65))).bind fun _ =>
 (chk (r72.2.ld q66.1 (q66.2 + 1) = some (.i .i64 n68))).bind fun _ =>
 (chk (r72.2.ld q69.1 (q69.2 + 2) = some (.i .i64 n71))).bind fun _ =>
 (k93 [(.p p65), (.i .i64 n68), (.i .i64 n73), (.i .i64 n71)] r72.2).bind fun r74 =>
 (AV.asI .i64 r74.1).bind fun n75 =>
 Option.bind p0 fun q76 =>
 (r74.2.st q76.1 (q76.2 + 5) [(.i .i64 (IntKind.i64.wrap n39))]).bind fun σ77 =>
 Option.bind p0 fun q78 =>
 (σ77.ld q78.1 (q78.2 + 6)).bind fun w79 =>
 (AV.asI .i64 w79).bind fun n80 =>
 Option.bind p0 fun q81 =>
 (σ77.st q81.1 (q81.2 + 6) [(.i .i64 (IntKind.i64.wrap (n80 + 1)))]).bind fun σ82 =>
 some ((.tup [(.i .i64 n3), (.i .i64 0)]), σ82))
 else none
noncomputable def pool_Pool__Take {O : Type} : Sm O := pool_Pool__Take_c pool_Pool__grow pool_Pool__at mem_Mem__Write mem_Mem__Read mem_Mem__Zero
theorem pool_Pool__Take_ent : Entered Try.prog 20 := Try.call20
theorem pool_Pool__Take_run {O : Type} (k89 k91 k90 k92 k93 : Sm O) : run (O := O) Try.prog [(89, k89), (91, k91), (90, k90), (92, k92), (93, k93)] Try.f20 (.n .z (.n .z (.n (.n .z (.n (.n (.n .z (.n .z (.n .z .z))) (.n .z (.n .z (.n (.d [] [0, 1, 2, 3, 4, 5, 6, 7, 8, 9, 10, 11] [0, 1, 3, 7, 0, 16, 48, 112, 0, 0, 768, 2047]) (.n .z .z))))) .z)) (.n (.d [] [0, 1, 2, 3, 4, 5, 6, 7, 8, 9, 10, 11, 12, 13, 14, 15, 16] [0, 1, 3, 7, 0, 16, 48, 112, 0, 0, 768, 2047, 4095, 8191, 8191, 16383, 65535]) (.n (.d [] [0, 1, 2, 3, 4, 5, 6, 7, 8, 9, 10, 11, 12, 13, 14, 15, 16] [0, 1, 3, 7, 0, 16, 48, 112, 0, 0, 768, 2047, 4095, 8191, 8191, 16383, 65535]) (.n (.d [] [0, 1, 2, 3, 4, 5, 6, 7, 8, 9, 11, 12, 10, 13] [0, 1, 3, 7, 0, 16, 48, 112, 0, 0, 768, 0, 2048, 8191]) (.n (.d [] [0, 1, 2, 3, 4, 5, 6, 7, 8, 9, 11, 12, 13, 14, 10, 15] [0, 1, 3, 7, 0, 16, 48, 112, 0, 0, 768, 0, 2048, 6144, 14336, 32767]) (.n .z (.n .z .z))))))))) = pool_Pool__Take_c k89 k91 k90 k92 k93 := by kernel_rfl
theorem pool_Pool__Take_sound {O : Type} {RO : O → Loc → (Nat → Option Obj) → Prop} : FSound RO Try.prog 20 (pool_Pool__Take) :=
   have h : FSound RO Try.prog 20 (pool_Pool__Take_c pool_Pool__grow pool_Pool__at mem_Mem__Write mem_Mem__Read mem_Mem__Zero) := (pool_Pool__Take_run pool_Pool__grow pool_Pool__at mem_Mem__Write mem_Mem__Read mem_Mem__Zero) ▸ run_sound (gcons pool_Pool__grow_ent (pool_Pool__grow_sound) <| gcons pool_Pool__at_ent (pool_Pool__at_sound) <| gcons mem_Mem__Write_ent (mem_Mem__Write_sound) <| gcons mem_Mem__Read_ent (mem_Mem__Read_sound) <| gcons mem_Mem__Zero_ent (mem_Mem__Zero_sound) <| gnil) mixed Try.func20 (by kernel_rfl) _
   h

/-- (*haymow/pool.Pool).look -/
noncomputable def pool_Pool__look_c {O : Type} (k91 k92 : Sm O) : Sm O := fun xs σ =>
 bif Nat.beq xs.length 2 then
 (AV.asP (xs.getD 0 .u)).bind fun p0 =>
 (AV.asI .i64 (xs.getD 1 .u)).bind fun n1 =>
 ((bif ((decide (n1 < 1)) == false) then
 Option.bind p0 fun q2 =>
 (σ.ld q2.1 (q2.2 + 3)).bind fun w3 =>
 (AV.asI .i64 w3).bind fun n4 =>
 some ([(.b (decide (n1 > n4)))], σ)
 else some ([(.b true)], σ)) : Option (List AV × AH O)).bind fun r5 =>
 (AV.asB (r5.1.getD 0 .u)).bind fun b6 =>
 (bif b6 then
 some ((.tup [(.i .u64 0), (.b false)]), r5.2)
 else Option.bind p0 fun q7 =>
 (r5.2.ld q7.1 q7.2).bind fun w8 =>
 (AV.asP w8).bind fun p9 =>
 Option.bind p0 fun q10 =>
 (r5.2.ld q10.1 (q10.2 + 1)).bind fun w11 =>
 (AV.asI .i64 w11).bind fun n12 =>
 (k91 [(.p p0), (.i .i64 n1), (.i .i64 (-1))] r5.2).bind fun r13 =>
 (AV.asI .i64 r13.1).bind fun n14 =>
 (chk (r13.2.ld q7.1 q7.2 = some (.p p9))).bind fun _ =>
 (chk (r13.2.ld q10.1 (q10.2 + 1) = some (.i .i64 n12))).bind fun _ =>
 (k92 [(.p p9), (.i .i64 n12), (.i .i64 n14)] r13.2).bind fun r15 =>
 (AV.asTup 2 r15.1).bind fun c16 =>
 (AV.asI .u64 (c16.getD 0 .u)).bind fun n17 =>
 (AV.asI .i64 (c16.getD 1 .u)).bind fun n18 =>
 some ((.tup [(.i .u64 n17), (.b true)]), r15.2))
 else none
noncomputable def pool_Pool__look {O : Type} : Sm O := pool_Pool__look_c pool_Pool__at mem_Mem__Read
theorem pool_Pool__look_ent : Entered Try.prog 173 := Try.call173
theorem pool_Pool__look_run {O : Type} (k91 k92 : Sm O) : run (O := O) Try.prog [(91, k91), (92, k92)] Try.f173 (.n .z (.n (.n (.g [(2, 6, [(17, .one .b)])]) (.n .z .z)) (.n (.d [] [0, 1, 2, 3, 4, 5, 6, 7, 8, 9, 10, 11, 12, 13, 14, 15, 16] [0, 1, 3, 7, 0, 16, 48, 112, 0, 0, 768, 2047, 4095, 8191, 8191, 16383, 65535]) .z))) = pool_Pool__look_c k91 k92 := by kernel_rfl
theorem pool_Pool__look_sound {O : Type} {RO : O → Loc → (Nat → Option Obj) → Prop} : FSound RO Try.prog 173 (pool_Pool__look) :=
   have h : FSound RO Try.prog 173 (pool_Pool__look_c pool_Pool__at mem_Mem__Read) := (pool_Pool__look_run pool_Pool__at mem_Mem__Read) ▸ run_sound (gcons pool_Pool__at_ent (pool_Pool__at_sound) <| gcons mem_Mem__Read_ent (mem_Mem__Read_sound) <| gnil) mixed Try.func173 (by kernel_rfl) _
   h

/-- (*haymow/pool.Pool).Give -/
noncomputable def pool_Pool__Give_c {O : Type} (k173 k91 k90 : Sm O) : Sm O := fun xs σ =>
 bif Nat.beq xs.length 2 then
 (AV.asP (xs.getD 0 .u)).bind fun p0 =>
 (AV.asI .i64 (xs.getD 1 .u)).bind fun n1 =>
 (k173 [(.p p0), (.i .i64 n1)] σ).bind fun r2 =>
 (AV.asTup 2 r2.1).bind fun c3 =>
 (AV.asI .u64 (c3.getD 0 .u)).bind fun n4 =>
 (AV.asB (c3.getD 1 .u)).bind fun b5 =>
 ((bif ((!b5) == false) then
 some ([(.b (((ibits .and .u64 n4 1) : Int) == 0))], r2.2)
 else some ([(.b true)], r2.2)) : Option (List AV × AH O)).bind fun r6 =>
 (AV.asB (r6.1.getD 0 .u)).bind fun b7 =>
 (bif b7 then
 some ((.i .i64 4), r6.2)
 else Option.bind p0 fun q8 =>
 (r6.2.ld q8.1 q8.2).bind fun w9 =>
 (AV.asP w9).bind fun p10 =>
 Option.bind p0 fun q11 =>
 (r6.2.ld q11.1 (q11.2 + 1)).bind fun w12 =>
 (AV.asI .i64 w12).bind fun n13 =>
 let v14 : Int := (IntKind.u64.wrap ((IntKind.u64.wrap ((Int.fdiv n4 (2 ^ 1)) + 1)) * 2 ^ 1))
 (k91 [(.p p0), (.i .i64 n1), (.i .i64 (-1))] r6.2).bind fun r15 =>
 (AV.asI .i64 r15.1).bind fun n16 =>
 (chk (r15.2.ld q8.1 q8.2 = some (.p p10))).bind fun _ =>
 (chk (r15.2.ld q11.1 (q11.2 + 1) = some (.i .i64 n13))).bind fun _ =>
 (k90 [(.p p10), (.i .i64 n13), (.i .i64 n16), (.i .u64 v14)] r15.2).bind fun r17 =>
 (AV.asI .i64 r17.1).bind fun n18 =>
 Option.bind p0 fun q19 =>
 (r17.2.ld q19.1 q19.2).bind fun w20 =>
 (AV.asP w20).bind fun p21 =>
 Option.bind p0 fun q22 =>
 (r17.2.ld q22.1 (q22.2 + 1)).bind fun w23 =>
 (AV.asI .i64 w23).bind fun n24 =>
 Option.bind p0 fun q25 =>
 (r17.2.ld q25.1 (q25.2 + 5)).bind fun w26 =>
 (AV.asI .i64 w26).bind fun n27 =>
 (k91 [(.p p0), (.i .i64 n1), (.i .i64 0)] r17.2).bind fun r28 =>
 (AV.asI .i64 r28.1).bind fun n29 =>
 (chk (r28.2.ld q19.1 q19.2 = some (.p p21))).bind fun _ =>
 (chk (r28.2.ld q22.1 (q22.2 + 1) = some (.i .i64 n24))).bind fun _ =>
 (chk (r28.2.ld q25.1 (q25.2 + 5) = some (.i .i64 n27))).bind fun _ =>
 (k90 [(.p p21), (.i .i64 n24), (.i .i64 n29), (.i .u64 (IntKind.u64.wrap n27))] r28.2).bind fun r30 =>
 (AV.asI .i64 r30.1).bind fun n31 =>
 Option.bind p0 fun q32 =>
 (r30.2.st q32.1 (q32.2 + 5) [(.i .i64 n1)]).bind fun σ33 =>
 Option.bind p0 fun q34 =>
 (σ33.ld q34.1 (q34.2 + 6)).bind fun w35 =>
 (AV.asI .i64 w35).bind fun n36 =>
 Option.bind p0 fun q37 =>
 (σ33.st q37.1 (q37.2 + 6) [(.i .i64 (IntKind.i64.wrap (n36 - 1)))]).bind fun σ38 =>
 some ((.i .i64 0), σ38))
 else none
noncomputable def pool_Pool__Give {O : Type} : Sm O := pool_Pool__Give_c pool_Pool__look pool_Pool__at mem_Mem__Write
theorem pool_Pool__Give_ent : Entered Try.prog 82 := Try.call82
theorem pool_Pool__Give_run {O : Type} (k173 k91 k90 : Sm O) : run (O := O) Try.prog [(173, k173), (91, k91), (90, k90)] Try.f82 (.n .z (.n .z (.n (.n (.g [(2, 3, [(19, .one .b)])]) (.n .z .z)) (.n (.d [] [0, 1, 2, 3, 4, 5, 6, 7, 8, 9, 11, 12, 13, 14, 10, 15] [0, 1, 3, 7, 0, 16, 48, 112, 0, 0, 768, 0, 2048, 6144, 14336, 32767]) (.n (.d [] [0, 1, 2, 3, 4, 5, 6, 7, 8, 9, 11, 12, 13, 14, 15, 10, 16] [0, 1, 3, 7, 0, 16, 48, 112, 0, 0, 768, 0, 2048, 6144, 14336, 30720, 65535]) (.n .z (.n .z .z))))))) = pool_Pool__Give_c k173 k91 k90 := by kernel_rfl
theorem pool_Pool__Give_sound {O : Type} {RO : O → Loc → (Nat → Option Obj) → Prop} : FSound RO Try.prog 82 (pool_Pool__Give) :=
   have h : FSound RO Try.prog 82 (pool_Pool__Give_c pool_Pool__look pool_Pool__at mem_Mem__Write) := (pool_Pool__Give_run pool_Pool__look pool_Pool__at mem_Mem__Write) ▸ run_sound (gcons pool_Pool__look_ent (pool_Pool__look_sound) <| gcons pool_Pool__at_ent (pool_Pool__at_sound) <| gcons mem_Mem__Write_ent (mem_Mem__Write_sound) <| gnil) mixed Try.func82 (by kernel_rfl) _
   h

/-- (*haymow/pool.Pool).Gen -/
noncomputable def pool_Pool__Gen_c {O : Type} (k173 : Sm O) : Sm O := fun xs σ =>
 bif Nat.beq xs.length 2 then
 (AV.asP (xs.getD 0 .u)).bind fun p0 =>
 (AV.asI .i64 (xs.getD 1 .u)).bind fun n1 =>
 (k173 [(.p p0), (.i .i64 n1)] σ).bind fun r2 =>
 (AV.asTup 2 r2.1).bind fun c3 =>
 (AV.asI .u64 (c3.getD 0 .u)).bind fun n4 =>
 (AV.asB (c3.getD 1 .u)).bind fun b5 =>
 some ((.i .i64 (IntKind.i64.wrap (Int.fdiv n4 (2 ^ 1)))), r2.2)
 else none
noncomputable def pool_Pool__Gen {O : Type} : Sm O := pool_Pool__Gen_c pool_Pool__look
theorem pool_Pool__Gen_ent : Entered Try.prog 83 := Try.call83
theorem pool_Pool__Gen_run {O : Type} (k173 : Sm O) : run (O := O) Try.prog [(173, k173)] Try.f83 (.n .z (.n .z .z)) = pool_Pool__Gen_c k173 := by kernel_rfl
theorem pool_Pool__Gen_sound {O : Type} {RO : O → Loc → (Nat → Option Obj) → Prop} : FSound RO Try.prog 83 (pool_Pool__Gen) :=
   have h : FSound RO Try.prog 83 (pool_Pool__Gen_c pool_Pool__look) := (pool_Pool__Gen_run pool_Pool__look) ▸ run_sound (gcons pool_Pool__look_ent (pool_Pool__look_sound) <| gnil) mixed Try.func83 (by kernel_rfl) _
   h

/-- (*haymow/pool.Pool).Taken -/
noncomputable def pool_Pool__Taken_c {O : Type} (k173 : Sm O) : Sm O := fun xs σ =>
 bif Nat.beq xs.length 2 then
 (AV.asP (xs.getD 0 .u)).bind fun p0 =>
 (AV.asI .i64 (xs.getD 1 .u)).bind fun n1 =>
 (k173 [(.p p0), (.i .i64 n1)] σ).bind fun r2 =>
 (AV.asTup 2 r2.1).bind fun c3 =>
 (AV.asI .u64 (c3.getD 0 .u)).bind fun n4 =>
 (AV.asB (c3.getD 1 .u)).bind fun b5 =>
 ((bif (b5 == true) then
 some ([(.b (((ibits .and .u64 n4 1) : Int) == 1))], r2.2)
 else some ([(.b false)], r2.2)) : Option (List AV × AH O)).bind fun r6 =>
 (AV.asB (r6.1.getD 0 .u)).bind fun b7 =>
 some ((.b b7), r6.2)
 else none
noncomputable def pool_Pool__Taken {O : Type} : Sm O := pool_Pool__Taken_c pool_Pool__look
theorem pool_Pool__Taken_ent : Entered Try.prog 84 := Try.call84
theorem pool_Pool__Taken_run {O : Type} (k173 : Sm O) : run (O := O) Try.prog [(173, k173)] Try.f84 (.n .z (.n .z (.n (.g [(1, 3, [(18, .one .b)])]) .z))) = pool_Pool__Taken_c k173 := by kernel_rfl
theorem pool_Pool__Taken_sound {O : Type} {RO : O → Loc → (Nat → Option Obj) → Prop} : FSound RO Try.prog 84 (pool_Pool__Taken) :=
   have h : FSound RO Try.prog 84 (pool_Pool__Taken_c pool_Pool__look) := (pool_Pool__Taken_run pool_Pool__look) ▸ run_sound (gcons pool_Pool__look_ent (pool_Pool__look_sound) <| gnil) mixed Try.func84 (by kernel_rfl) _
   h

/-- haymow/haymowlaw10.awake -/
noncomputable def law10_awake_c {O : Type} (k81 k20 k82 k83 k84 : Sm O) : Sm O := fun xs σ =>
 bif Nat.beq xs.length 0 then
 (k81 [(.i .i64 2)] σ).bind fun r0 =>
 (AV.asTup 3 r0.1).bind fun c1 =>
 (AV.asP (c1.getD 0 .u)).bind fun p2 =>
 (AV.asP (c1.getD 1 .u)).bind fun p3 =>
 (AV.asB (c1.getD 2 .u)).bind fun b4 =>
 (bif (!b4) then
 some ((.b false), r0.2)
 else (k20 [(.p p3)] r0.2).bind fun r5 =>
 (AV.asTup 2 r5.1).bind fun c6 =>
 (AV.asI .i64 (c6.getD 0 .u)).bind fun n7 =>
 (AV.asI .i64 (c6.getD 1 .u)).bind fun n8 =>
 (k20 [(.p p3)] r5.2).bind fun r9 =>
 (AV.asTup 2 r9.1).bind fun c10 =>
 (AV.asI .i64 (c10.getD 0 .u)).bind fun n11 =>
 (AV.asI .i64 (c10.getD 1 .u)).bind fun n12 =>
 (k82 [(.p p3), (.i .i64 1)] r9.2).bind fun r13 =>
 (AV.asI .i64 r13.1).bind fun n14 =>
 (k82 [(.p p3), (.i .i64 2)] r13.2).bind fun r15 =>
 (AV.asI .i64 r15.1).bind fun n16 =>
 (k20 [(.p p3)] r15.2).bind fun r17 =>
 (AV.asTup 2 r17.1).bind fun c18 =>
 (AV.asI .i64 (c18.getD 0 .u)).bind fun n19 =>
 (AV.asI .i64 (c18.getD 1 .u)).bind fun n20 =>
 ((bif (((n7 : Int) == 1) == true) then
 some ([(.b ((n11 : Int) == 2))], r17.2)
 else some ([(.b false)], r17.2)) : Option (List AV × AH O)).bind fun r21 =>
 (AV.asB (r21.1.getD 0 .u)).bind fun b22 =>
 ((bif (b22 == true) then
 some ([(.b ((n14 : Int) == 0))], r21.2)
 else some ([(.b false)], r21.2)) : Option (List AV × AH O)).bind fun r23 =>
 (AV.asB (r23.1.getD 0 .u)).bind fun b24 =>
 ((bif (b24 == true) then
 some ([(.b ((n16 : Int) == 0))], r23.2)
 else some ([(.b false)], r23.2)) : Option (List AV × AH O)).bind fun r25 =>
 (AV.asB (r25.1.getD 0 .u)).bind fun b26 =>
 ((bif (b26 == true) then
 some ([(.b ((n19 : Int) == 2))], r25.2)
 else some ([(.b false)], r25.2)) : Option (List AV × AH O)).bind fun r27 =>
 (AV.asB (r27.1.getD 0 .u)).bind fun b28 =>
 ((bif (b28 == true) then
 some ([(.b ((n20 : Int) == 0))], r27.2)
 else some ([(.b false)], r27.2)) : Option (List AV × AH O)).bind fun r29 =>
 (AV.asB (r29.1.getD 0 .u)).bind fun b30 =>
 ((bif (b30 == true) then
 (k83 [(.p p3), (.i .i64 2)] r29.2).bind fun r31 =>
 (AV.asI .i64 r31.1).bind fun n32 =>
 some ([(.b ((n32 : Int) == 1))], r31.2)
 else some ([(.b false)], r29.2)) : Option (List AV × AH O)).bind fun r33 =>
 (AV.asB (r33.1.getD 0 .u)).bind fun b34 =>
 ((bif (b34 == true) then
 (k84 [(.p p3), (.i .i64 2)] r33.2).bind fun r35 =>
 (AV.asB r35.1).bind fun b36 =>
 some ([(.b b36)], r35.2)
 else some ([(.b false)], r33.2)) : Option (List AV × AH O)).bind fun r37 =>
 (AV.asB (r37.1.getD 0 .u)).bind fun b38 =>
 ((bif (b38 == true) then
 (k84 [(.p p3), (.i .i64 1)] r37.2).bind fun r39 =>
 (AV.asB r39.1).bind fun b40 =>
 some ([(.b (!b40))], r39.2)
 else some ([(.b false)], r37.2)) : Option (List AV × AH O)).bind fun r41 =>
 (AV.asB (r41.1.getD 0 .u)).bind fun b42 =>
 some ((.b b42), r41.2))
 else none
noncomputable def law10_awake {O : Type} : Sm O := law10_awake_c law10_made pool_Pool__Take pool_Pool__Give pool_Pool__Gen pool_Pool__Taken
theorem law10_awake_ent : Entered Try.prog 12 := Try.call12
theorem law10_awake_run {O : Type} (k81 k20 k82 k83 k84 : Sm O) : run (O := O) Try.prog [(81, k81), (20, k20), (82, k82), (83, k83), (84, k84)] Try.f12 (.n .z (.n .z (.n (.n .z (.n .z .z)) (.n .z (.n .z (.n .z (.n .z (.n .z (.n (.g [(2, 2, [(43, .one .b)]), (6, 2, [(47, .one .b)]), (10, 2, [(51, .one .b)]), (14, 2, [(55, .one .b)]), (18, 2, [(59, .one .b)]), (22, 3, [(64, .one .b)]), (27, 2, [(68, .one .b)]), (31, 3, [(73, .one .b)])]) .z))))))))) = law10_awake_c k81 k20 k82 k83 k84 := by kernel_rfl
theorem law10_awake_sound {O : Type} {RO : O → Loc → (Nat → Option Obj) → Prop} : FSound RO Try.prog 12 (law10_awake) :=
   have h : FSound RO Try.prog 12 (law10_awake_c law10_made pool_Pool__Take pool_Pool__Give pool_Pool__Gen pool_Pool__Taken) := (law10_awake_run law10_made pool_Pool__Take pool_Pool__Give pool_Pool__Gen pool_Pool__Taken) ▸ run_sound (gcons law10_made_ent (law10_made_sound) <| gcons pool_Pool__Take_ent (pool_Pool__Take_sound) <| gcons pool_Pool__Give_ent (pool_Pool__Give_sound) <| gcons pool_Pool__Gen_ent (pool_Pool__Gen_sound) <| gcons pool_Pool__Taken_ent (pool_Pool__Taken_sound) <| gnil) mixed Try.func12 (by kernel_rfl) _
   h

/-- (*haymow/pool.Pool).Made -/
noncomputable def pool_Pool__Made_c {O : Type} : Sm O := fun xs σ =>
 bif Nat.beq xs.length 1 then
 (AV.asP (xs.getD 0 .u)).bind fun p0 =>
 Option.bind p0 fun q1 =>
 (σ.ld q1.1 (q1.2 + 3)).bind fun w2 =>
 (AV.asI .i64 w2).bind fun n3 =>
 some ((.i .i64 n3), σ)
 else none
noncomputable def pool_Pool__Made {O : Type} : Sm O := pool_Pool__Made_c
theorem pool_Pool__Made_ent : Entered Try.prog 15 := Try.call15
theorem pool_Pool__Made_run {O : Type} : run (O := O) Try.prog [] Try.f15 (.n .z .z) = pool_Pool__Made_c  := by kernel_rfl
theorem pool_Pool__Made_sound {O : Type} {RO : O → Loc → (Nat → Option Obj) → Prop} : FSound RO Try.prog 15 (pool_Pool__Made) :=
   have h : FSound RO Try.prog 15 (pool_Pool__Made_c) := (pool_Pool__Made_run) ▸ run_sound (gnil) mixed Try.func15 (by kernel_rfl) _
   h

/-- (*haymow/pool.Pool).Count -/
noncomputable def pool_Pool__Count_c {O : Type} : Sm O := fun xs σ =>
 bif Nat.beq xs.length 1 then
 (AV.asP (xs.getD 0 .u)).bind fun p0 =>
 Option.bind p0 fun q1 =>
 (σ.ld q1.1 (q1.2 + 6)).bind fun w2 =>
 (AV.asI .i64 w2).bind fun n3 =>
 some ((.i .i64 n3), σ)
 else none
noncomputable def pool_Pool__Count {O : Type} : Sm O := pool_Pool__Count_c
theorem pool_Pool__Count_ent : Entered Try.prog 16 := Try.call16
theorem pool_Pool__Count_run {O : Type} : run (O := O) Try.prog [] Try.f16 (.n .z .z) = pool_Pool__Count_c  := by kernel_rfl
theorem pool_Pool__Count_sound {O : Type} {RO : O → Loc → (Nat → Option Obj) → Prop} : FSound RO Try.prog 16 (pool_Pool__Count) :=
   have h : FSound RO Try.prog 16 (pool_Pool__Count_c) := (pool_Pool__Count_run) ▸ run_sound (gnil) mixed Try.func16 (by kernel_rfl) _
   h

/-- (*haymow/pool.Pool).Table -/
noncomputable def pool_Pool__Table_c {O : Type} (k87 : Sm O) : Sm O := fun xs σ =>
 bif Nat.beq xs.length 3 then
 (AV.asP (xs.getD 0 .u)).bind fun p0 =>
 (AV.asI .i64 (xs.getD 1 .u)).bind fun n1 =>
 (AV.asI .i64 (xs.getD 2 .u)).bind fun n2 =>
 let σ3 := σ.bump 1
 let σ4 := σ3.put σ.next (.cells true 32 [(.p none), (.i .i64 0), (.i .i64 0), (.i .i64 0), (.i .i64 0)])
 Option.bind p0 fun q5 =>
 (σ4.ld q5.1 q5.2).bind fun w6 =>
 (AV.asP w6).bind fun p7 =>
 Option.bind p0 fun q8 =>
 (σ4.ld q8.1 (q8.2 + 1)).bind fun w9 =>
 (AV.asI .i64 w9).bind fun n10 =>
 (k87 [(.p p0)] σ4).bind fun r11 =>
 (AV.asI .i64 r11.1).bind fun n12 =>
 (chk (r11.2.ld q5.1 q5.2 = some (.p p7))).bind fun _ =>
 (chk (r11.2.ld q8.1 (q8.2 + 1) = some (.i .i64 n10))).bind fun _ =>
 (r11.2.st (.n σ.next) 0 [(.p p7), (.i .i64 n10), (.i .i64 n12), (.i .i64 (IntKind.i64.wrap (n1 + 1))), (.i .i64 (IntKind.i64.wrap (n2 + 1)))]).bind fun σ13 =>
 (σ13.ld (.n σ.next) 0).bind fun w14 =>
 (AV.asP w14).bind fun p15 =>
 (σ13.ld (.n σ.next) 1).bind fun w16 =>
 (AV.asI .i64 w16).bind fun n17 =>
 (σ13.ld (.n σ.next) 2).bind fun w18 =>
 (AV.asI .i64 w18).bind fun n19 =>
 (σ13.ld (.n σ.next) 3).bind fun w20 =>
 (AV.asI .i64 w20).bind fun n21 =>
 (σ13.ld (.n σ.next) 4).bind fun w22 =>
 (AV.asI .i64 w22).bind fun n23 =>
 some ((.agg [(.p p15), (.i .i64 n17), (.i .i64 n19), (.i .i64 n21), (.i .i64 n23)]), σ13)
 else none
noncomputable def pool_Pool__Table {O : Type} : Sm O := pool_Pool__Table_c pool_Pool__width
theorem pool_Pool__Table_ent : Entered Try.prog 17 := Try.call17
theorem pool_Pool__Table_run {O : Type} (k87 : Sm O) : run (O := O) Try.prog [(87, k87)] Try.f17 (.n .z (.n (.d [] [0, 1, 2, 3, 4, 5, 6, 7, 8, 10, 11, 12, 13, 9, 14, 15] [0, 1, 3, 7, 0, 16, 48, 112, 0, 256, 0, 1024, 0, 4096, 16383, 32767]) .z)) = pool_Pool__Table_c k87 := by kernel_rfl
theorem pool_Pool__Table_sound {O : Type} {RO : O → Loc → (Nat → Option Obj) → Prop} : FSound RO Try.prog 17 (pool_Pool__Table) :=
   have h : FSound RO Try.prog 17 (pool_Pool__Table_c pool_Pool__width) := (pool_Pool__Table_run pool_Pool__width) ▸ run_sound (gcons pool_Pool__width_ent (pool_Pool__width_sound) <| gnil) mixed Try.func17 (by kernel_rfl) _
   h

/-- (*haymow/pool.Pool).Space -/
noncomputable def pool_Pool__Space_c {O : Type} : Sm O := fun xs σ =>
 bif Nat.beq xs.length 1 then
 (AV.asP (xs.getD 0 .u)).bind fun p0 =>
 Option.bind p0 fun q1 =>
 (σ.ld q1.1 (q1.2 + 1)).bind fun w2 =>
 (AV.asI .i64 w2).bind fun n3 =>
 some ((.i .i64 n3), σ)
 else none
noncomputable def pool_Pool__Space {O : Type} : Sm O := pool_Pool__Space_c
theorem pool_Pool__Space_ent : Entered Try.prog 19 := Try.call19
theorem pool_Pool__Space_run {O : Type} : run (O := O) Try.prog [] Try.f19 (.n .z .z) = pool_Pool__Space_c  := by kernel_rfl
theorem pool_Pool__Space_sound {O : Type} {RO : O → Loc → (Nat → Option Obj) → Prop} : FSound RO Try.prog 19 (pool_Pool__Space) :=
   have h : FSound RO Try.prog 19 (pool_Pool__Space_c) := (pool_Pool__Space_run) ▸ run_sound (gnil) mixed Try.func19 (by kernel_rfl) _
   h

/-- (haymow/chain.Table).set -/
noncomputable def chain_Table__set_c {O : Type} (k179 k90 : Sm O) : Sm O := fun xs σ =>
 bif Nat.beq xs.length 4 then
 (AV.asAgg 5 (xs.getD 0 .u)).bind fun c0 =>
 (AV.asP (c0.getD 0 .u)).bind fun p1 =>
 (AV.asI .i64 (c0.getD 1 .u)).bind fun n2 =>
 (AV.asI .i64 (c0.getD 2 .u)).bind fun n3 =>
 (AV.asI .i64 (c0.getD 3 .u)).bind fun n4 =>
 (AV.asI .i64 (c0.getD 4 .u)).bind fun n5 =>
 (AV.asI .i64 (xs.getD 1 .u)).bind fun n6 =>
 (AV.asI .i64 (xs.getD 2 .u)).bind fun n7 =>
 (AV.asI .i64 (xs.getD 3 .u)).bind fun n8 =>
 let σ9 := σ.bump 1
 let σ10 := σ9.put σ.next (.cells true 32 [(.p p1), (.i .i64 n2), (.i .i64 n3), (.i .i64 n4), (.i .i64 n5)])
 (σ10.ld (.n σ.next) 0).bind fun w11 =>
 (AV.asP w11).bind fun p12 =>
 (σ10.ld (.n σ.next) 1).bind fun w13 =>
 (AV.asI .i64 w13).bind fun n14 =>
 (σ10.ld (.n σ.next) 0).bind fun w15 =>
 (AV.asP w15).bind fun p16 =>
 (σ10.ld (.n σ.next) 1).bind fun w17 =>
 (AV.asI .i64 w17).bind fun n18 =>
 (σ10.ld (.n σ.next) 2).bind fun w19 =>
 (AV.asI .i64 w19).bind fun n20 =>
 (σ10.ld (.n σ.next) 3).bind fun w21 =>
 (AV.asI .i64 w21).bind fun n22 =>
 (σ10.ld (.n σ.next) 4).bind fun w23 =>
 (AV.asI .i64 w23).bind fun n24 =>
 (k179 [(.agg [(.p p16), (.i .i64 n18), (.i .i64 n20), (.i .i64 n22), (.i .i64 n24)]), (.i .i64 n6), (.i .i64 n7)] σ10).bind fun r25 =>
 (AV.asI .i64 r25.1).bind fun n26 =>
 (chk (r25.2.ld (.n σ.next) 0 = some (.p p12))).bind fun _ =>
 (chk (r25.2.ld (.n σ.next) 1 = some (.i .i64 n14))).bind fun _ =>
 (k90 [(.p p12), (.i .i64 n14), (.i .i64 n26), (.i .u64 (IntKind.u64.wrap n8))] r25.2).bind fun r27 =>
 (AV.asI .i64 r27.1).bind fun n28 =>
 some ((.tup []), r27.2)
 else none
noncomputable def chain_Table__set {O : Type} : Sm O := chain_Table__set_c chain_Table__at mem_Mem__Write
theorem chain_Table__set_ent : Entered Try.prog 95 := Try.call95
theorem chain_Table__set_run {O : Type} (k179 k90 : Sm O) : run (O := O) Try.prog [(179, k179), (90, k90)] Try.f95 (.n .z (.d [] [0, 1, 2, 3, 4, 5, 6, 8, 9, 7, 10] [0, 1, 0, 4, 0, 0, 0, 112, 0, 256, 1023])) = chain_Table__set_c k179 k90 := by kernel_rfl
theorem chain_Table__set_sound {O : Type} {RO : O → Loc → (Nat → Option Obj) → Prop} : FSound RO Try.prog 95 (chain_Table__set) :=
   have h : FSound RO Try.prog 95 (chain_Table__set_c chain_Table__at mem_Mem__Write) := (chain_Table__set_run chain_Table__at mem_Mem__Write) ▸ run_sound (gcons chain_Table__at_ent (chain_Table__at_sound) <| gcons mem_Mem__Write_ent (mem_Mem__Write_sound) <| gnil) mixed Try.func95 (by kernel_rfl) _
   h

/-- (haymow/chain.Table).Push -/
noncomputable def chain_Table__Push_c {O : Type} (k94 k95 : Sm O) : Sm O := fun xs σ =>
 bif Nat.beq xs.length 3 then
 (AV.asAgg 5 (xs.getD 0 .u)).bind fun c0 =>
 (AV.asP (c0.getD 0 .u)).bind fun p1 =>
 (AV.asI .i64 (c0.getD 1 .u)).bind fun n2 =>
 (AV.asI .i64 (c0.getD 2 .u)).bind fun n3 =>
 (AV.asI .i64 (c0.getD 3 .u)).bind fun n4 =>
 (AV.asI .i64 (c0.getD 4 .u)).bind fun n5 =>
 (AV.asAgg 3 (xs.getD 1 .u)).bind fun c6 =>
 (AV.asI .i64 (c6.getD 0 .u)).bind fun n7 =>
 (AV.asI .i64 (c6.getD 1 .u)).bind fun n8 =>
 (AV.asI .i64 (c6.getD 2 .u)).bind fun n9 =>
 (AV.asI .i64 (xs.getD 2 .u)).bind fun n10 =>
 let σ11 := σ.bump 3
 let σ12 := σ11.put σ.next (.cells true 32 [(.p p1), (.i .i64 n2), (.i .i64 n3), (.i .i64 n4), (.i .i64 n5)])
 let σ13 := σ12.put (σ.next + 1) (.cells true 35 [(.i .i64 n7), (.i .i64 n8), (.i .i64 n9)])
 let σ14 := σ13.put ((σ.next + 1) + 1) (.cells true 35 [(.i .i64 0), (.i .i64 0), (.i .i64 0)])
 (σ14.ld (.n σ.next) 0).bind fun w15 =>
 (AV.asP w15).bind fun p16 =>
 (σ14.ld (.n σ.next) 1).bind fun w17 =>
 (AV.asI .i64 w17).bind fun n18 =>
 (σ14.ld (.n σ.next) 2).bind fun w19 =>
 (AV.asI .i64 w19).bind fun n20 =>
 (σ14.ld (.n σ.next) 3).bind fun w21 =>
 (AV.asI .i64 w21).bind fun n22 =>
 (σ14.ld (.n σ.next) 4).bind fun w23 =>
 (AV.asI .i64 w23).bind fun n24 =>
 (k94 [(.agg [(.p p16), (.i .i64 n18), (.i .i64 n20), (.i .i64 n22), (.i .i64 n24)]), (.i .i64 n10)] σ14).bind fun r25 =>
 (AV.asI .i64 r25.1).bind fun n26 =>
 (bif ((n26 : Int) != 0) then
 (r25.2.ld (.n (σ.next + 1)) 0).bind fun w27 =>
 (AV.asI .i64 w27).bind fun n28 =>
 (r25.2.ld (.n (σ.next + 1)) 1).bind fun w29 =>
 (AV.asI .i64 w29).bind fun n30 =>
 (r25.2.ld (.n (σ.next + 1)) 2).bind fun w31 =>
 (AV.asI .i64 w31).bind fun n32 =>
 (r25.2.st (.n ((σ.next + 1) + 1)) 0 [(.i .i64 n28), (.i .i64 n30), (.i .i64 n32)]).bind fun σ33 =>
 (σ33.ld (.n ((σ.next + 1) + 1)) 0).bind fun w34 =>
 (AV.asI .i64 w34).bind fun n35 =>
 (σ33.ld (.n ((σ.next + 1) + 1)) 1).bind fun w36 =>
 (AV.asI .i64 w36).bind fun n37 =>
 (σ33.ld (.n ((σ.next + 1) + 1)) 2).bind fun w38 =>
 (AV.asI .i64 w38).bind fun n39 =>
 some ((.tup [(.agg [(.i .i64 n35), (.i .i64 n37), (.i .i64 n39)]), (.i .i64 n26)]), σ33)
 else (r25.2.ld (.n σ.next) 0).bind fun w40 =>
 (AV.asP w40).bind fun p41 =>
 (r25.2.ld (.n σ.next) 1).bind fun w42 =>
 (AV.asI .i64 w42).bind fun n43 =>
 (r25.2.ld (.n σ.next) 2).bind fun w44 =>
 (AV.asI .i64 w44).bind fun n45 =>
 (r25.2.ld (.n σ.next) 3).bind fun w46 =>
 (AV.asI .i64 w46).bind fun n47 =>
 (r25.2.ld (.n σ.next) 4).bind fun w48 =>
 (AV.asI .i64 w48).bind fun n49 =>
 (r25.2.ld (.n σ.next) 4).bind fun w50 =>
 (AV.asI .i64 w50).bind fun n51 =>
 (r25.2.ld (.n (σ.next + 1)) 1).bind fun w52 =>
 (AV.asI .i64 w52).bind fun n53 =>
 (k95 [(.agg [(.p p41), (.i .i64 n43), (.i .i64 n45), (.i .i64 n47), (.i .i64 n49)]), (.i .i64 n10), (.i .i64 n51), (.i .i64 n53)] r25.2).bind fun r54 =>
 (AV.asTup 0 r54.1).bind fun c55 =>
 (r54.2.ld (.n σ.next) 0).bind fun w56 =>
 (AV.asP w56).bind fun p57 =>
 (r54.2.ld (.n σ.next) 1).bind fun w58 =>
 (AV.asI .i64 w58).bind fun n59 =>
 (r54.2.ld (.n σ.next) 2).bind fun w60 =>
 (AV.asI .i64 w60).bind fun n61 =>
 (r54.2.ld (.n σ.next) 3).bind fun w62 =>
 (AV.asI .i64 w62).bind fun n63 =>
 (r54.2.ld (.n σ.next) 4).bind fun w64 =>
 (AV.asI .i64 w64).bind fun n65 =>
 (r54.2.ld (.n σ.next) 3).bind fun w66 =>
 (AV.asI .i64 w66).bind fun n67 =>
 (k95 [(.agg [(.p p57), (.i .i64 n59), (.i .i64 n61), (.i .i64 n63), (.i .i64 n65)]), (.i .i64 n10), (.i .i64 n67), (.i .i64 0)] r54.2).bind fun r68 =>
 (AV.asTup 0 r68.1).bind fun c69 =>
 (r68.2.ld (.n (σ.next + 1)) 2).bind fun w70 =>
 (AV.asI .i64 w70).bind fun n71 =>
 (bif ((n71 : Int) == 0) then
 (r68.2.st (.n ((σ.next + 1) + 1)) 0 [(.i .i64 n10), (.i .i64 n10), (.i .i64 1)]).bind fun σ72 =>
 (σ72.ld (.n ((σ.next + 1) + 1)) 0).bind fun w73 =>
 (AV.asI .i64 w73).bind fun n74 =>
 (σ72.ld (.n ((σ.next + 1) + 1)) 1).bind fun w75 =>
 (AV.asI .i64 w75).bind fun n76 =>
 (σ72.ld (.n ((σ.next + 1) + 1)) 2).bind fun w77 =>
 (AV.asI .i64 w77).bind fun n78 =>
 some ((.tup [(.agg [(.i .i64 n74), (.i .i64 n76), (.i .i64 n78)]), (.i .i64 0)]), σ72)
 else (r68.2.ld (.n σ.next) 0).bind fun w79 =>
 (AV.asP w79).bind fun p80 =>
 (r68.2.ld (.n σ.next) 1).bind fun w81 =>
 (AV.asI .i64 w81).bind fun n82 =>
 (r68.2.ld (.n σ.next) 2).bind fun w83 =>
 (AV.asI .i64 w83).bind fun n84 =>
 (r68.2.ld (.n σ.next) 3).bind fun w85 =>
 (AV.asI .i64 w85).bind fun n86 =>
 (r68.2.ld (.n σ.next) 4).bind fun w87 =>
 (AV.asI .i64 w87).bind fun n88 =>
 (r68.2.ld (.n (σ.next + 1)) 1).bind fun w89 =>
 (AV.asI .i64 w89).bind fun n90 =>
 (r68.2.ld (.n σ.next) 3).bind fun w91 =>
 (AV.asI .i64 w91).bind fun n92 =>
 (k95 [(.agg [(.p p80), (.i .i64 n82), (.i .i64 n84), (.i .i64 n86), (.i .i64 n88)]), (.i .i64 n90), (.i .i64 n92), (.i .i64 n10)] r68.2).bind fun r93 =>
 (AV.asTup 0 r93.1).bind fun c94 =>
 (r93.2.ld (.n (σ.next + 1)) 0).bind fun w95 =>
 (AV.asI .i64 w95).bind fun n96 =>
 (r93.2.ld (.n (σ.next + 1)) 2).bind fun w97 =>
 (AV.asI .i64 w97).bind fun n98 =>
 (r93.2.st (.n ((σ.next + 1) + 1)) 0 [(.i .i64 n96), (.i .i64 n10), (.i .i64 (IntKind.i64.wrap (n98 + 1)))]).bind fun σ99 =>
 (σ99.ld (.n ((σ.next + 1) + 1)) 0).bind fun w100 =>
 (AV.asI .i64 w100).bind fun n101 =>
 (σ99.ld (.n ((σ.next + 1) + 1)) 1).bind fun w102 =>
 (AV.asI .i64 w102).bind fun n103 =>
 (σ99.ld (.n ((σ.next + 1) + 1)) 2).bind fun w104 =>
 (AV.asI .i64 w104).bind fun n105 =>
 some ((.tup [(.agg [(.i .i64 n101), (.i .i64 n103), (.i .i64 n105)]), (.i .i64 0)]), σ99)))
 else none
noncomputable def chain_Table__Push {O : Type} : Sm O := chain_Table__Push_c chain_Table__check chain_Table__set
theorem chain_Table__Push_ent : Entered Try.prog 21 := Try.call21
theorem chain_Table__Push_run {O : Type} (k94 k95 : Sm O) : run (O := O) Try.prog [(94, k94), (95, k95)] Try.f21 (.n .z (.n (.n .z (.n .z (.n .z .z))) (.n .z (.n .z (.n (.n .z (.n .z .z)) (.n .z .z)))))) = chain_Table__Push_c k94 k95 := by kernel_rfl
theorem chain_Table__Push_sound {O : Type} {RO : O → Loc → (Nat → Option Obj) → Prop} : FSound RO Try.prog 21 (chain_Table__Push) :=
   have h : FSound RO Try.prog 21 (chain_Table__Push_c chain_Table__check chain_Table__set) := (chain_Table__Push_run chain_Table__check chain_Table__set) ▸ run_sound (gcons chain_Table__check_ent (chain_Table__check_sound) <| gcons chain_Table__set_ent (chain_Table__set_sound) <| gnil) mixed Try.func21 (by kernel_rfl) _
   h

/-- (haymow/chain.Table).All -/
noncomputable def chain_Table__All_c {O : Type} : Sm O := fun xs σ =>
 bif Nat.beq xs.length 2 then
 (AV.asAgg 5 (xs.getD 0 .u)).bind fun c0 =>
 (AV.asP (c0.getD 0 .u)).bind fun p1 =>
 (AV.asI .i64 (c0.getD 1 .u)).bind fun n2 =>
 (AV.asI .i64 (c0.getD 2 .u)).bind fun n3 =>
 (AV.asI .i64 (c0.getD 3 .u)).bind fun n4 =>
 (AV.asI .i64 (c0.getD 4 .u)).bind fun n5 =>
 (AV.asAgg 3 (xs.getD 1 .u)).bind fun c6 =>
 (AV.asI .i64 (c6.getD 0 .u)).bind fun n7 =>
 (AV.asI .i64 (c6.getD 1 .u)).bind fun n8 =>
 (AV.asI .i64 (c6.getD 2 .u)).bind fun n9 =>
 let σ10 := σ.bump 2
 let σ11 := σ10.put σ.next (.cells true 32 [(.p p1), (.i .i64 n2), (.i .i64 n3), (.i .i64 n4), (.i .i64 n5)])
 let σ12 := σ11.put (σ.next + 1) (.cells true 35 [(.i .i64 n7), (.i .i64 n8), (.i .i64 n9)])
 some ((.fn (some (.func 96, [], [(.p (some ((.n (σ.next + 1)), 0))), (.p (some ((.n σ.next), 0)))]))), σ12)
 else none
noncomputable def chain_Table__All {O : Type} : Sm O := chain_Table__All_c
theorem chain_Table__All_ent : Entered Try.prog 22 := Try.call22
theorem chain_Table__All_run {O : Type} : run (O := O) Try.prog [] Try.f22 (.n .z .z) = chain_Table__All_c  := by kernel_rfl
theorem chain_Table__All_sound {O : Type} {RO : O → Loc → (Nat → Option Obj) → Prop} : FSound RO Try.prog 22 (chain_Table__All) :=
   have h : FSound RO Try.prog 22 (chain_Table__All_c) := (chain_Table__All_run) ▸ run_sound (gnil) mixed Try.func22 (by kernel_rfl) _
   h

/-- (*haymow/pool.Pool).check -/
noncomputable def pool_Pool__check_c {O : Type} (k84 : Sm O) : Sm O := fun xs σ =>
 bif Nat.beq xs.length 3 then
 (AV.asP (xs.getD 0 .u)).bind fun p0 =>
 (AV.asI .i64 (xs.getD 1 .u)).bind fun n1 =>
 (AV.asI .i64 (xs.getD 2 .u)).bind fun n2 =>
 (k84 [(.p p0), (.i .i64 n1)] σ).bind fun r3 =>
 (AV.asB r3.1).bind fun b4 =>
 (bif (!b4) then
 some ((.i .i64 4), r3.2)
 else ((bif ((decide (n2 < 0)) == false) then
 Option.bind p0 fun q5 =>
 (r3.2.ld q5.1 (q5.2 + 2)).bind fun w6 =>
 (AV.asI .i64 w6).bind fun n7 =>
 some ([(.b (decide (n2 ≥ n7)))], r3.2)
 else some ([(.b true)], r3.2)) : Option (List AV × AH O)).bind fun r8 =>
 (AV.asB (r8.1.getD 0 .u)).bind fun b9 =>
 (bif b9 then
 some ((.i .i64 32), r8.2)
 else some ((.i .i64 0), r8.2)))
 else none
noncomputable def pool_Pool__check {O : Type} : Sm O := pool_Pool__check_c pool_Pool__Taken
theorem pool_Pool__check_ent : Entered Try.prog 98 := Try.call98
theorem pool_Pool__check_run {O : Type} (k84 : Sm O) : run (O := O) Try.prog [(84, k84)] Try.f98 (.n .z (.n (.n (.n .z (.n .z (.n (.g [(2, 6, [(22, .one .b)])]) (.n .z .z)))) .z) .z)) = pool_Pool__check_c k84 := by kernel_rfl
theorem pool_Pool__check_sound {O : Type} {RO : O → Loc → (Nat → Option Obj) → Prop} : FSound RO Try.prog 98 (pool_Pool__check) :=
   have h : FSound RO Try.prog 98 (pool_Pool__check_c pool_Pool__Taken) := (pool_Pool__check_run pool_Pool__Taken) ▸ run_sound (gcons pool_Pool__Taken_ent (pool_Pool__Taken_sound) <| gnil) mixed Try.func98 (by kernel_rfl) _
   h

/-- (*haymow/pool.Pool).Get -/
noncomputable def pool_Pool__Get_c {O : Type} (k98 k91 k92 : Sm O) : Sm O := fun xs σ =>
 bif Nat.beq xs.length 3 then
 (AV.asP (xs.getD 0 .u)).bind fun p0 =>
 (AV.asI .i64 (xs.getD 1 .u)).bind fun n1 =>
 (AV.asI .i64 (xs.getD 2 .u)).bind fun n2 =>
 (k98 [(.p p0), (.i .i64 n1), (.i .i64 n2)] σ).bind fun r3 =>
 (AV.asI .i64 r3.1).bind fun n4 =>
 (bif ((n4 : Int) != 0) then
 some ((.tup [(.i .u64 0), (.i .i64 n4)]), r3.2)
 else Option.bind p0 fun q5 =>
 (r3.2.ld q5.1 q5.2).bind fun w6 =>
 (AV.asP w6).bind fun p7 =>
 Option.bind p0 fun q8 =>
 (r3.2.ld q8.1 (q8.2 + 1)).bind fun w9 =>
 (AV.asI .i64 w9).bind fun n10 =>
 (k91 [(.p p0), (.i .i64 n1), (.i .i64 n2)] r3.2).bind fun r11 =>
 (AV.asI .i64 r11.1).bind fun n12 =>
 (chk (r11.2.ld q5.1 q5.2 = some (.p p7))).bind fun _ =>
 (chk (r11.2.ld q8.1 (q8.2 + 1) = some (.i .i64 n10))).bind fun _ =>
 (k92 [(.p p7), (.i .i64 n10), (.i .i64 n12)] r11.2).bind fun r13 =>
 (AV.asTup 2 r13.1).bind fun c14 =>
 (AV.asI .u64 (c14.getD 0 .u)).bind fun n15 =>
 (AV.asI .i64 (c14.getD 1 .u)).bind fun n16 =>
 some ((.tup [(.i .u64 n15), (.i .i64 n16)]), r13.2))
 else none
noncomputable def pool_Pool__Get {O : Type} : Sm O := pool_Pool__Get_c pool_Pool__check pool_Pool__at mem_Mem__Read
theorem pool_Pool__Get_ent : Entered Try.prog 23 := Try.call23
theorem pool_Pool__Get_run {O : Type} (k98 k91 k92 : Sm O) : run (O := O) Try.prog [(98, k98), (91, k91), (92, k92)] Try.f23 (.n .z (.n (.n .z (.n .z (.n .z .z))) (.n (.d [] [0, 1, 2, 3, 4, 5, 6, 7, 8, 9, 10, 11, 12, 13, 14, 15, 16] [0, 1, 3, 7, 0, 16, 48, 112, 0, 0, 0, 1792, 4095, 8191, 8191, 32767, 65535]) .z))) = pool_Pool__Get_c k98 k91 k92 := by kernel_rfl
theorem pool_Pool__Get_sound {O : Type} {RO : O → Loc → (Nat → Option Obj) → Prop} : FSound RO Try.prog 23 (pool_Pool__Get) :=
   have h : FSound RO Try.prog 23 (pool_Pool__Get_c pool_Pool__check pool_Pool__at mem_Mem__Read) := (pool_Pool__Get_run pool_Pool__check pool_Pool__at mem_Mem__Read) ▸ run_sound (gcons pool_Pool__check_ent (pool_Pool__check_sound) <| gcons pool_Pool__at_ent (pool_Pool__at_sound) <| gcons mem_Mem__Read_ent (mem_Mem__Read_sound) <| gnil) mixed Try.func23 (by kernel_rfl) _
   h

/-- haymow/haymowref02.Same -/
noncomputable def haymowref02_Same_L1 {O : Type} (l0 : SA × Nat) (l1 : SA × Nat) : List AV × AH O → Option ((List AV × AH O) ⊕ ((List AV × AH O) ⊕ (AV × AH O))) := (fun r2 =>
 (AV.asI .i64 (r2.1.getD 0 .u)).bind fun n3 =>
 (bif (decide (n3 < (l0.2 : Int))) then
 (bif ((decide ((0 : Int) ≤ n3)) && (decide (n3 < (l0.2 : Int)))) then
 (SA.ref l0.1).bind fun q4 =>
 (r2.2.ld q4.1 (q4.2 + (n3.toNat * 1))).bind fun w5 =>
 (AV.asI .i64 w5).bind fun n6 =>
 (bif ((decide ((0 : Int) ≤ n3)) && (decide (n3 < (l1.2 : Int)))) then
 (SA.ref l1.1).bind fun q7 =>
 (r2.2.ld q7.1 (q7.2 + (n3.toNat * 1))).bind fun w8 =>
 (AV.asI .i64 w8).bind fun n9 =>
 (bif ((n6 : Int) != n9) then
 ((some ((.b false), r2.2) : Option (AV × AH O)).map fun r => Sum.inr (Sum.inr r))
 else some (Sum.inl ([(.i .i64 (IntKind.i64.wrap (n3 + 1)))], r2.2)))
 else none)
 else none)
 else some (Sum.inr (Sum.inl ([], r2.2)))))
noncomputable def haymowref02_Same_c {O : Type} : Sm O := fun xs σ =>
 bif Nat.beq xs.length 2 then
 (AV.asSl (xs.getD 0 .u)).bind fun l0 =>
 (AV.asSl (xs.getD 1 .u)).bind fun l1 =>
 (bif (((l0.2 : Int) : Int) != (l1.2 : Int)) then
 some ((.b false), σ)
 else bindS (S := List AV × AH O) (R := (AV × AH O)) (loopF (S := List AV × AH O) (T := (List AV × AH O) ⊕ (AV × AH O)) (haymowref02_Same_L1 l0 l1) ([(.i .i64 0)], σ)) fun r10 =>
 some ((.b true), r10.2))
 else none
noncomputable def haymowref02_Same {O : Type} : Sm O := haymowref02_Same_c
theorem haymowref02_Same_ent : Entered Try.prog 24 := Try.call24
theorem haymowref02_Same_run {O : Type} : run (O := O) Try.prog [] Try.f24 (.n .z (.n (.n .z (.n .z .z)) (.n (.n .z (.n (.lp true 0 [(5, .one (.i .i64))] [] (.n (.n .z .z) (.n (.n (.n (.d [] [0, 1, 2, 3, 4, 5, 6, 7, 8] [0, 0, 3, 7, 0, 0, 48, 112, 255]) (.n .z .z)) .z) .z))) .z)) .z))) = haymowref02_Same_c  := by kernel_rfl
theorem haymowref02_Same_sound {O : Type} {RO : O → Loc → (Nat → Option Obj) → Prop} : FSound RO Try.prog 24 (haymowref02_Same) :=
   have h : FSound RO Try.prog 24 (haymowref02_Same_c) := (haymowref02_Same_run) ▸ run_sound (gnil) mixed Try.func24 (by kernel_rfl) _
   h

/-- a round of a loop in haymow/haymowlaw10.PoolLinks -/
noncomputable def law10_PoolLinks_R0_c {O : Type} : Sm O := roundW 3000 1 fun env0 ys0 blk0 σ =>
 (AV.asP (env0 22)).bind fun p0 =>
 (AV.asI .i64 (ys0.getD 0 .u)).bind fun n1 =>
 (busyL σ blk0).bind fun σ2 =>
 let σ3 := σ2.bump 2
 Option.bind p0 fun q4 =>
 (σ3.ld q4.1 q4.2).bind fun w5 =>
 (AV.asSl w5).bind fun l6 =>
 let σ7 := σ3.put σ2.next (.cells true 3 [(.i .i64 n1)])
 (σ7.rdSl (.loc (.n σ2.next) 0 1) 1 1).bind fun new8 =>
 (bif (Nat.ble ((l6.2 + 1) * 9) 35184372088832) then
 (σ7.appSl (σ2.next + 1) 3 1 l6.1 l6.2 1 new8).bind fun r9 =>
 (AV.asSl r9.1).bind fun l10 =>
 Option.bind p0 fun q11 =>
 (r9.2.st q11.1 q11.2 [(.sl l10.1 l10.2)]).bind fun σ12 =>
 (markL σ12 blk0 .ready).bind fun σ => some (.b true, σ)
 else none)
noncomputable def law10_PoolLinks_R0 {O : Type} : Sm O := law10_PoolLinks_R0_c
theorem law10_PoolLinks_R0_run {O : Type} : roundAt (O := O) Try.prog [] 3 Try.f3 0 [(22, .one .p)] [(154, .one (.i .i64))] (.n .z .z) = law10_PoolLinks_R0_c  := by kernel_rfl
theorem law10_PoolLinks_R0_sound {O : Type} {RO : O → Loc → (Nat → Option Obj) → Prop} : YSound RO Try.prog (law10_PoolLinks_R0) :=
   have h : YSound RO Try.prog (law10_PoolLinks_R0_c) := (law10_PoolLinks_R0_run) ▸ roundAt_sound (gnil) mixed Try.func3 _ _ _ _
   h
/-- haymow/haymowlaw10.PoolLinks -/
noncomputable def law10_PoolLinks_L2 {O : Type} (l130 : SA × Nat) (k23 : Sm O) (p13 : Option (Bid × Nat)) (n34 : Int) (n0 : Int) (n36 : Int) : List AV × AH O → Option ((List AV × AH O) ⊕ ((List AV × AH O) ⊕ (AV × AH O))) := (fun r154 =>
 (AV.asI .i64 (r154.1.getD 0 .u)).bind fun n155 =>
 let c156 : Bool := (decide ((IntKind.i64.wrap (n155 + 1)) < (l130.2 : Int)))
 (bif c156 then
 (bif ((decide ((0 : Int) ≤ n155)) && (decide (n155 < (l130.2 : Int)))) then
 (SA.ref l130.1).bind fun q157 =>
 (r154.2.ld q157.1 (q157.2 + (n155.toNat * 1))).bind fun w158 =>
 (AV.asI .i64 w158).bind fun n159 =>
 (k23 [(.p p13), (.i .i64 n159), (.i .i64 (Int.tmod (IntKind.i64.wrap n34) n0))] r154.2).bind fun r160 =>
 (AV.asTup 2 r160.1).bind fun c161 =>
 (AV.asI .u64 (c161.getD 0 .u)).bind fun n162 =>
 (AV.asI .i64 (c161.getD 1 .u)).bind fun n163 =>
 (bif ((decide ((0 : Int) ≤ (IntKind.i64.wrap (n155 + 1)))) && (decide ((IntKind.i64.wrap (n155 + 1)) < (l130.2 : Int)))) then
 (SA.ref l130.1).bind fun q164 =>
 (r160.2.ld q164.1 (q164.2 + ((IntKind.i64.wrap (n155 + 1)).toNat * 1))).bind fun w165 =>
 (AV.asI .i64 w165).bind fun n166 =>
 (k23 [(.p p13), (.i .i64 n166), (.i .i64 (Int.tmod (IntKind.i64.wrap n36) n0))] r160.2).bind fun r167 =>
 (AV.asTup 2 r167.1).bind fun c168 =>
 (AV.asI .u64 (c168.getD 0 .u)).bind fun n169 =>
 (AV.asI .i64 (c168.getD 1 .u)).bind fun n170 =>
 (bif ((decide ((0 : Int) ≤ (IntKind.i64.wrap (n155 + 1)))) && (decide ((IntKind.i64.wrap (n155 + 1)) < (l130.2 : Int)))) then
 (SA.ref l130.1).bind fun q171 =>
 (r167.2.ld q171.1 (q171.2 + ((IntKind.i64.wrap (n155 + 1)).toNat * 1))).bind fun w172 =>
 (AV.asI .i64 w172).bind fun n173 =>
 ((bif (((n162 : Int) != (IntKind.u64.wrap n173)) == false) then
 (bif ((decide ((0 : Int) ≤ n155)) && (decide (n155 < (l130.2 : Int)))) then
 (SA.ref l130.1).bind fun q174 =>
 (r167.2.ld q174.1 (q174.2 + (n155.toNat * 1))).bind fun w175 =>
 (AV.asI .i64 w175).bind fun n176 =>
 some ([(.b ((n169 : Int) != (IntKind.u64.wrap n176)))], r167.2)
 else none)
 else some ([(.b true)], r167.2)) : Option (List AV × AH O)).bind fun r177 =>
 (AV.asB (r177.1.getD 0 .u)).bind fun b178 =>
 ((bif (b178 == false) then
 some ([(.b ((n163 : Int) != 0))], r177.2)
 else some ([(.b true)], r177.2)) : Option (List AV × AH O)).bind fun r179 =>
 (AV.asB (r179.1.getD 0 .u)).bind fun b180 =>
 ((bif (b180 == false) then
 some ([(.b ((n170 : Int) != 0))], r179.2)
 else some ([(.b true)], r179.2)) : Option (List AV × AH O)).bind fun r181 =>
 (AV.asB (r181.1.getD 0 .u)).bind fun b182 =>
 (bif b182 then
 ((some ((.b false), r181.2) : Option (AV × AH O)).map fun r => Sum.inr (Sum.inr r))
 else some (Sum.inl ([(.i .i64 (IntKind.i64.wrap (n155 + 1)))], r181.2)))
 else none)
 else none)
 else none)
 else some (Sum.inr (Sum.inl ([], r154.2)))))
noncomputable def law10_PoolLinks_L1 {O : Type} (n1 : Int) (k20 : Sm O) (p13 : Option (Bid × Nat)) (r31 : List AV × AH O) (r71 : List AV × AH O) (k21 : Sm O) : List AV × AH O → Option ((List AV × AH O) ⊕ ((List AV × AH O) ⊕ (AV × AH O))) := (fun r90 =>
 (AV.asSl (r90.1.getD 0 .u)).bind fun l91 =>
 (AV.asI .i64 (r90.1.getD 1 .u)).bind fun n92 =>
 let c93 : Bool := (decide (n92 < (IntKind.i64.wrap (Int.tmod n1 20))))
 (bif c93 then
 (k20 [(.p p13)] r90.2).bind fun r94 =>
 (AV.asTup 2 r94.1).bind fun c95 =>
 (AV.asI .i64 (c95.getD 0 .u)).bind fun n96 =>
 (AV.asI .i64 (c95.getD 1 .u)).bind fun n97 =>
 (r94.2.ld (.n r31.2.next) 0).bind fun w98 =>
 (AV.asP w98).bind fun p99 =>
 (r94.2.ld (.n r31.2.next) 1).bind fun w100 =>
 (AV.asI .i64 w100).bind fun n101 =>
 (r94.2.ld (.n r31.2.next) 2).bind fun w102 =>
 (AV.asI .i64 w102).bind fun n103 =>
 (r94.2.ld (.n r31.2.next) 3).bind fun w104 =>
 (AV.asI .i64 w104).bind fun n105 =>
 (r94.2.ld (.n r31.2.next) 4).bind fun w106 =>
 (AV.asI .i64 w106).bind fun n107 =>
 (r94.2.ld (.n r71.2.next) 0).bind fun w108 =>
 (AV.asI .i64 w108).bind fun n109 =>
 (r94.2.ld (.n r71.2.next) 1).bind fun w110 =>
 (AV.asI .i64 w110).bind fun n111 =>
 (r94.2.ld (.n r71.2.next) 2).bind fun w112 =>
 (AV.asI .i64 w112).bind fun n113 =>
 (k21 [(.agg [(.p p99), (.i .i64 n101), (.i .i64 n103), (.i .i64 n105), (.i .i64 n107)]), (.agg [(.i .i64 n109), (.i .i64 n111), (.i .i64 n113)]), (.i .i64 n96)] r94.2).bind fun r114 =>
 (AV.asTup 2 r114.1).bind fun c115 =>
 (AV.asAgg 3 (c115.getD 0 .u)).bind fun c116 =>
 (AV.asI .i64 (c116.getD 0 .u)).bind fun n117 =>
 (AV.asI .i64 (c116.getD 1 .u)).bind fun n118 =>
 (AV.asI .i64 (c116.getD 2 .u)).bind fun n119 =>
 (AV.asI .i64 (c115.getD 1 .u)).bind fun n120 =>
 (r114.2.st (.n r71.2.next) 0 [(.i .i64 n117), (.i .i64 n118), (.i .i64 n119)]).bind fun σ121 =>
 ((bif (((n97 : Int) != 0) == false) then
 some ([(.b ((n120 : Int) != 0))], σ121)
 else some ([(.b true)], σ121)) : Option (List AV × AH O)).bind fun r122 =>
 (AV.asB (r122.1.getD 0 .u)).bind fun b123 =>
 (bif b123 then
 ((some ((.b false), r122.2) : Option (AV × AH O)).map fun r => Sum.inr (Sum.inr r))
 else let σ124 := r122.2.bump 2
 let σ125 := σ124.put r122.2.next (.cells true 3 [(.i .i64 n96)])
 (σ125.rdSl (.loc (.n r122.2.next) 0 1) 1 1).bind fun new126 =>
 (bif (Nat.ble ((l91.2 + 1) * 9) 35184372088832) then
 (σ125.appSl (r122.2.next + 1) 3 1 l91.1 l91.2 1 new126).bind fun r127 =>
 (AV.asSl r127.1).bind fun l128 =>
 some (Sum.inl ([(.sl l128.1 l128.2), (.i .i64 (IntKind.i64.wrap (n92 + 1)))], r127.2))
 else none))
 else some (Sum.inr (Sum.inl ([(.sl l91.1 l91.2)], r90.2)))))
noncomputable def law10_PoolLinks_c {O : Type} (k12 k13 k14 k15 k16 k17 k18 k19 k20 k21 k22 k23 k24 kr96 : Sm O) : Sm O := fun xs σ =>
 bif Nat.beq xs.length 3 then
 (AV.asI .i64 (xs.getD 0 .u)).bind fun n0 =>
 (AV.asI .u8 (xs.getD 1 .u)).bind fun n1 =>
 (AV.asAgg 2 (xs.getD 2 .u)).bind fun c2 =>
 (AV.asI .u8 (c2.getD 0 .u)).bind fun n3 =>
 (AV.asI .u8 (c2.getD 1 .u)).bind fun n4 =>
 let σ5 := σ.bump 1
 let σ6 := σ5.put σ.next (.cells true 22 [(.i .u8 n3), (.i .u8 n4)])
 (k12 [] σ6).bind fun r7 =>
 (AV.asB r7.1).bind fun b8 =>
 (bif (!b8) then
 some ((.b false), r7.2)
 else (k13 [] r7.2).bind fun r9 =>
 (AV.asP r9.1).bind fun p10 =>
 (k14 [(.p p10), (.i .i64 n0)] r9.2).bind fun r11 =>
 (AV.asTup 2 r11.1).bind fun c12 =>
 (AV.asP (c12.getD 0 .u)).bind fun p13 =>
 (AV.asI .i64 (c12.getD 1 .u)).bind fun n14 =>
 (k14 [(.p none), (.i .i64 2)] r11.2).bind fun r15 =>
 (AV.asTup 2 r15.1).bind fun c16 =>
 (AV.asP (c16.getD 0 .u)).bind fun p17 =>
 (AV.asI .i64 (c16.getD 1 .u)).bind fun n18 =>
 (bif ((n18 : Int) != 1) then
 some ((.b false), r15.2)
 else ((bif ((decide (n0 < 1)) == false) then
 some ([(.b (decide (n0 > 60)))], r15.2)
 else some ([(.b true)], r15.2)) : Option (List AV × AH O)).bind fun r19 =>
 (AV.asB (r19.1.getD 0 .u)).bind fun b20 =>
 (bif b20 then
 ((bif ((Option.isNone p13) == true) then
 some ([(.b ((n14 : Int) == 1))], r19.2)
 else some ([(.b false)], r19.2)) : Option (List AV × AH O)).bind fun r21 =>
 (AV.asB (r21.1.getD 0 .u)).bind fun b22 =>
 some ((.b b22), r21.2)
 else ((bif ((Option.isNone p13) == false) then
 some ([(.b ((n14 : Int) != 0))], r19.2)
 else some ([(.b true)], r19.2)) : Option (List AV × AH O)).bind fun r23 =>
 (AV.asB (r23.1.getD 0 .u)).bind fun b24 =>
 ((bif (b24 == false) then
 (k15 [(.p p13)] r23.2).bind fun r25 =>
 (AV.asI .i64 r25.1).bind fun n26 =>
 some ([(.b ((n26 : Int) != 0))], r25.2)
 else some ([(.b true)], r23.2)) : Option (List AV × AH O)).bind fun r27 =>
 (AV.asB (r27.1.getD 0 .u)).bind fun b28 =>
 ((bif (b28 == false) then
 (k16 [(.p p13)] r27.2).bind fun r29 =>
 (AV.asI .i64 r29.1).bind fun n30 =>
 some ([(.b ((n30 : Int) != 0))], r29.2)
 else some ([(.b true)], r27.2)) : Option (List AV × AH O)).bind fun r31 =>
 (AV.asB (r31.1.getD 0 .u)).bind fun b32 =>
 (bif b32 then
 some ((.b false), r31.2)
 else (r31.2.ld (.n σ.next) 0).bind fun w33 =>
 (AV.asI .u8 w33).bind fun n34 =>
 (bif (n0 == 0) then
 none
 else (r31.2.ld (.n σ.next) 1).bind fun w35 =>
 (AV.asI .u8 w35).bind fun n36 =>
 (bif (n0 == 0) then
 none
 else let σ37 := r31.2.bump 1
 (k17 [(.p p13), (.i .i64 (Int.tmod (IntKind.i64.wrap n34) n0)), (.i .i64 (Int.tmod (IntKind.i64.wrap n36) n0))] σ37).bind fun r38 =>
 (AV.asAgg 5 r38.1).bind fun c39 =>
 (AV.asP (c39.getD 0 .u)).bind fun p40 =>
 (AV.asI .i64 (c39.getD 1 .u)).bind fun n41 =>
 (AV.asI .i64 (c39.getD 2 .u)).bind fun n42 =>
 (AV.asI .i64 (c39.getD 3 .u)).bind fun n43 =>
 (AV.asI .i64 (c39.getD 4 .u)).bind fun n44 =>
 let σ45 := r38.2.put r31.2.next (.cells true 32 [(.p none), (.i .i64 0), (.i .i64 0), (.i .i64 0), (.i .i64 0)])
 (σ45.st (.n r31.2.next) 0 [(.p p40), (.i .i64 n41), (.i .i64 n42), (.i .i64 n43), (.i .i64 n44)]).bind fun σ46 =>
 (σ46.ld (.n r31.2.next) 0).bind fun w47 =>
 (AV.asP w47).bind fun p48 =>
 (σ46.ld (.n r31.2.next) 1).bind fun w49 =>
 (AV.asI .i64 w49).bind fun n50 =>
 (σ46.ld (.n r31.2.next) 2).bind fun w51 =>
 (AV.asI .i64 w51).bind fun n52 =>
 (σ46.ld (.n r31.2.next) 3).bind fun w53 =>
 (AV.asI .i64 w53).bind fun n54 =>
 (σ46.ld (.n r31.2.next) 4).bind fun w55 =>
 (AV.asI .i64 w55).bind fun n56 =>
 let c57 : Bool := (((Int.tmod (IntKind.i64.wrap n34) n0) : Int) != (Int.tmod (IntKind.i64.wrap n36) n0))
 (k18 [(.agg [(.p p48), (.i .i64 n50), (.i .i64 n52), (.i .i64 n54), (.i .i64 n56)])] σ46).bind fun r58 =>
 (AV.asB r58.1).bind fun b59 =>
 ((bif ((!(b59 == c57)) == false) then
 (r58.2.ld (.n r31.2.next) 2).bind fun w60 =>
 (AV.asI .i64 w60).bind fun n61 =>
 some ([(.b ((n61 : Int) != (IntKind.i64.wrap (n0 + 1))))], r58.2)
 else some ([(.b true)], r58.2)) : Option (List AV × AH O)).bind fun r62 =>
 (AV.asB (r62.1.getD 0 .u)).bind fun b63 =>
 ((bif (b63 == false) then
 (r62.2.ld (.n r31.2.next) 1).bind fun w64 =>
 (AV.asI .i64 w64).bind fun n65 =>
 (k19 [(.p p13)] r62.2).bind fun r66 =>
 (AV.asI .i64 r66.1).bind fun n67 =>
 (chk (r66.2.ld (.n r31.2.next) 1 = some (.i .i64 n65))).bind fun _ =>
 some ([(.b ((n65 : Int) != n67))], r66.2)
 else some ([(.b true)], r62.2)) : Option (List AV × AH O)).bind fun r68 =>
 (AV.asB (r68.1.getD 0 .u)).bind fun b69 =>
 ((bif (b69 == false) then
 let c70 : Bool := (((Int.tmod (IntKind.i64.wrap n34) n0) : Int) == (Int.tmod (IntKind.i64.wrap n36) n0))
 some ([(.b c70)], r68.2)
 else some ([(.b true)], r68.2)) : Option (List AV × AH O)).bind fun r71 =>
 (AV.asB (r71.1.getD 0 .u)).bind fun b72 =>
 (bif b72 then
 let c73 : Bool := (((Int.tmod (IntKind.i64.wrap n34) n0) : Int) == (Int.tmod (IntKind.i64.wrap n36) n0))
 ((bif (c73 == true) then
 (r71.2.ld (.n r31.2.next) 0).bind fun w74 =>
 (AV.asP w74).bind fun p75 =>
 (r71.2.ld (.n r31.2.next) 1).bind fun w76 =>
 (AV.asI .i64 w76).bind fun n77 =>
 (r71.2.ld (.n r31.2.next) 2).bind fun w78 =>
 (AV.asI .i64 w78).bind fun n79 =>
 (r71.2.ld (.n r31.2.next) 3).bind fun w80 =>
 (AV.asI .i64 w80).bind fun n81 =>
 (r71.2.ld (.n r31.2.next) 4).bind fun w82 =>
 (AV.asI .i64 w82).bind fun n83 =>
 (k18 [(.agg [(.p p75), (.i .i64 n77), (.i .i64 n79), (.i .i64 n81), (.i .i64 n83)])] r71.2).bind fun r84 =>
 (AV.asB r84.1).bind fun b85 =>
 some ([(.b (!b85))], r84.2)
 else some ([(.b false)], r71.2)) : Option (List AV × AH O)).bind fun r86 =>
 (AV.asB (r86.1.getD 0 .u)).bind fun b87 =>
 some ((.b b87), r86.2)
 else let σ88 := r71.2.bump 1
 let σ89 := σ88.put r71.2.next (.cells true 35 [(.i .i64 0), (.i .i64 0), (.i .i64 0)])
 bindS (S := List AV × AH O) (R := (AV × AH O)) (loopF (S := List AV × AH O) (T := (List AV × AH O) ⊕ (AV × AH O)) (law10_PoolLinks_L1 n1 k20 p13 r31 r71 k21) ([(.sl .nil 0), (.i .i64 0)], σ89)) fun r129 =>
 (AV.asSl (r129.1.getD 0 .u)).bind fun l130 =>
 (r129.2.ld (.n r31.2.next) 0).bind fun w131 =>
 (AV.asP w131).bind fun p132 =>
 (r129.2.ld (.n r31.2.next) 1).bind fun w133 =>
 (AV.asI .i64 w133).bind fun n134 =>
 (r129.2.ld (.n r31.2.next) 2).bind fun w135 =>
 (AV.asI .i64 w135).bind fun n136 =>
 (r129.2.ld (.n r31.2.next) 3).bind fun w137 =>
 (AV.asI .i64 w137).bind fun n138 =>
 (r129.2.ld (.n r31.2.next) 4).bind fun w139 =>
 (AV.asI .i64 w139).bind fun n140 =>
 (r129.2.ld (.n r71.2.next) 0).bind fun w141 =>
 (AV.asI .i64 w141).bind fun n142 =>
 (r129.2.ld (.n r71.2.next) 1).bind fun w143 =>
 (AV.asI .i64 w143).bind fun n144 =>
 (r129.2.ld (.n r71.2.next) 2).bind fun w145 =>
 (AV.asI .i64 w145).bind fun n146 =>
 (k22 [(.agg [(.p p132), (.i .i64 n134), (.i .i64 n136), (.i .i64 n138), (.i .i64 n140)]), (.agg [(.i .i64 n142), (.i .i64 n144), (.i .i64 n146)])] r129.2).bind fun r147 =>
 (AV.asF r147.1).bind fun f148 =>
 (bif (Option.isNone f148) then
 some ((.b false), r147.2)
 else let σ149 := r147.2.bump 1
 let σ150 := σ149.put r147.2.next (.cells true 36 [(.sl .nil 0)])
 (rangeV [(12, k12), (13, k13), (14, k14), (15, k15), (16, k16), (17, k17), (18, k18), (19, k19), (20, k20), (21, k21), (22, k22), (23, k23), (24, k24), (2000096, kr96)] f148 3000 [(22, (.p (some ((.n r147.2.next), 0))))] σ150).bind fun r151 =>
 (lstN r151.2 σ150.next).bind fun st152 =>
 let σ153 := r151.2.kill σ150.next
 (bif Nat.beq st152 0 then
 bindS (S := List AV × AH O) (R := (AV × AH O)) (loopF (S := List AV × AH O) (T := (List AV × AH O) ⊕ (AV × AH O)) (law10_PoolLinks_L2 l130 k23 p13 n34 n0 n36) ([(.i .i64 0)], σ153)) fun r183 =>
 (r183.2.ld (.n r147.2.next) 0).bind fun w184 =>
 (AV.asSl w184).bind fun l185 =>
 (k24 [(.sl l185.1 l185.2), (.sl l130.1 l130.2)] r183.2).bind fun r186 =>
 (AV.asB r186.1).bind fun b187 =>
 some ((.b b187), r186.2)
 else none)))))))))
 else none
noncomputable def law10_PoolLinks {O : Type} : Sm O := law10_PoolLinks_c law10_awake mem_New pool_New pool_Pool__Made pool_Pool__Count pool_Pool__Table chain_Table__Right pool_Pool__Space pool_Pool__Take chain_Table__Push chain_Table__All pool_Pool__Get haymowref02_Same (chain_Table__All_1 (law10_PoolLinks_R0))
theorem law10_PoolLinks_ent : Entered Try.prog 3 := Try.call3
theorem law10_PoolLinks_run {O : Type} (k12 k13 k14 k15 k16 k17 k18 k19 k20 k21 k22 k23 k24 kr96 : Sm O) : run (O := O) Try.prog [(12, k12), (13, k13), (14, k14), (15, k15), (16, k16), (17, k17), (18, k18), (19, k19), (20, k20), (21, k21), (22, k22), (23, k23), (24, k24), (2000096, kr96)] Try.f3 (.n .z (.n (.n .z (.n .z .z)) (.n .z (.n .z (.n .z (.n (.n .z (.n .z .z)) (.n (.n (.g [(2, 2, [(49, .one .b)])]) (.n (.n (.g [(2, 2, [(55, .one .b)])]) .z) .z)) (.n (.n (.g [(2, 2, [(61, .one .b)]), (6, 3, [(66, .one .b)]), (11, 3, [(71, .one .b)])]) (.n .z .z)) (.n (.d [] [0, 1, 2, 3, 4, 5, 6, 7, 8, 9, 10, 11] [0, 1, 3, 0, 15, 0, 32, 96, 0, 480, 31, 2047]) (.n .z (.n (.n (.d [(6, 5, [(98, .one .b)]), (13, 5, [(105, .one .b)]), (20, 3, [(110, .one .b)])] [0, 2, 3, 4, 1, 5, 6, 7, 8, 9, 10, 11, 12, 13, 14, 15, 16, 17, 18, 19, 20, 21, 22, 23, 24] [0, 1, 0, 0, 12, 31, 63, 127, 255, 127, 639, 2047, 4095, 8191, 16383, 32767, 16383, 81919, 262143, 524287, 1048575, 2097151, 2097151, 8388607, 16777215]) (.n (.n (.g [(3, 3, [(118, .one .b)])]) .z) .z)) (.n .z (.n .z (.n (.n .z (.n (.lp true 0 [(16, .one .sl), (17, .one (.i .i64))] [(16, .one .sl)] (.n (.n .z .z) (.n (.n (.n .z (.n .z (.n .z (.n (.n (.g [(2, 2, [(143, .one .b)])]) (.n .z .z)) .z)))) .z) .z))) .z)) (.n .z (.n (.n .z (.n .z .z)) (.n .z (.n (.n .z (.n (.rf 3000 [22] []) .z)) (.n (.n .z (.n (.lp true 4 [(24, .one (.i .i64))] [] (.n (.n .z .z) (.n (.n (.n .z (.n .z (.n (.g [(8, 7, [(203, .one .b)]), (17, 2, [(207, .one .b)]), (21, 2, [(211, .one .b)])]) (.n .z .z)))) .z) .z))) .z)) .z))))))))))))))))))) = law10_PoolLinks_c k12 k13 k14 k15 k16 k17 k18 k19 k20 k21 k22 k23 k24 kr96 := by kernel_rfl
theorem law10_PoolLinks_sound {O : Type} {RO : O → Loc → (Nat → Option Obj) → Prop} : FSound RO Try.prog 3 (law10_PoolLinks) :=
   have h : FSound RO Try.prog 3 (law10_PoolLinks_c law10_awake mem_New pool_New pool_Pool__Made pool_Pool__Count pool_Pool__Table chain_Table__Right pool_Pool__Space pool_Pool__Take chain_Table__Push chain_Table__All pool_Pool__Get haymowref02_Same (chain_Table__All_1 (law10_PoolLinks_R0))) := (law10_PoolLinks_run law10_awake mem_New pool_New pool_Pool__Made pool_Pool__Count pool_Pool__Table chain_Table__Right pool_Pool__Space pool_Pool__Take chain_Table__Push chain_Table__All pool_Pool__Get haymowref02_Same (chain_Table__All_1 (law10_PoolLinks_R0))) ▸ run_soundR (gcons law10_awake_ent (law10_awake_sound) <| gcons mem_New_ent (mem_New_sound) <| gcons pool_New_ent (pool_New_sound) <| gcons pool_Pool__Made_ent (pool_Pool__Made_sound) <| gcons pool_Pool__Count_ent (pool_Pool__Count_sound) <| gcons pool_Pool__Table_ent (pool_Pool__Table_sound) <| gcons chain_Table__Right_ent (chain_Table__Right_sound) <| gcons pool_Pool__Space_ent (pool_Pool__Space_sound) <| gcons pool_Pool__Take_ent (pool_Pool__Take_sound) <| gcons chain_Table__Push_ent (chain_Table__Push_sound) <| gcons chain_Table__All_ent (chain_Table__All_sound) <| gcons pool_Pool__Get_ent (pool_Pool__Get_sound) <| gcons haymowref02_Same_ent (haymowref02_Same_sound) <| grf (c := 96) chain_Table__All_1_ent (chain_Table__All_1_sound (law10_PoolLinks_R0_sound)) <| gnil) mixed Try.func3 (by kernel_rfl) _ (by kernel_rfl)
   h

end Go.Abs.Try
