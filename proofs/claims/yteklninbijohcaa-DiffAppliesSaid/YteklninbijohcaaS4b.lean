/-
  What functions of the program do. No conditions.
-/
import Derived.Test.YteklninbijohcaaAbsExtern
import Derived.Test.YteklninbijohcaaProg
import Derived.KernelRfl
set_option linter.unusedVariables false
set_option linter.unusedSimpArgs false
set_option linter.constructorNameAsVariable false
set_option maxRecDepth 100000
namespace Go.Abs.Try
open Go Go.Abs Go.Proofs

theorem mixed : Try.prog.follows .mixedOrders = true := by kernel_rfl
abbrev T_int64 : Nat := 2
abbrev T_int : Nat := 3
abbrev T_bool : Nat := 4
abbrev T_uint8 : Nat := 5
abbrev T_abi_BoundsErrorCode : Nat := 6
abbrev T_runtime_boundsError : Nat := 8
abbrev T_string : Nat := 9
abbrev T_runtime_errorString : Nat := 10
abbrev T_runtime_plainError : Nat := 11
abbrev T_uintptr : Nat := 12
abbrev T_runtime_errorAddressString : Nat := 14
abbrev T_maps_unhashableTypeError : Nat := 19
abbrev T_int32 : Nat := 21
abbrev T_uint64 : Nat := 22
abbrev T_canon_Form : Nat := 39
abbrev T_api_Errno : Nat := 41
abbrev T_haymowref40_Form : Nat := 52
abbrev T_diff_Kind : Nat := 67
abbrev T_api_Shape : Nat := 69
abbrev T_api_Header : Nat := 71
abbrev T_canon_Node : Nat := 74
abbrev T_diff_Change : Nat := 76
abbrev T_haymowref40_Node : Nat := 78
abbrev T_haymowref47_Change : Nat := 80
abbrev T_load_Dice : Nat := 89
abbrev T_uint : Nat := 90
abbrev T_load_maker : Nat := 95
abbrev T_record_Kind : Nat := 97
abbrev T_image_reader : Nat := 114
abbrev T_field_Field : Nat := 168
abbrev T_slices_sortedHint : Nat := 179
abbrev T_uint32 : Nat := 186
abbrev T_slices_xorshift : Nat := 196
abbrev T_runtime_TypeAssertionError : Nat := 206
abbrev T_runtime_PanicNilError : Nat := 209
abbrev T_abi_TFlag : Nat := 210
abbrev T_abi_Kind : Nat := 211
abbrev T_abi_NameOff : Nat := 214
abbrev T_abi_TypeOff : Nat := 215
abbrev T_abi_Type : Nat := 217
/-- slices.Clone[[]int,int] -/
noncomputable def slices_Clone___int_int__c {O : Type} : Sm O := fun xs σ =>
 bif Nat.beq xs.length 1 then
 (AV.asSl (xs.getD 0 .u)).bind fun l0 =>
 (bif (SA.isNil l0.1) then
 some ((.sl .nil 0), σ)
 else let σ1 := σ.bump 2
 let σ2 := σ1.put σ.next (.cells true 3 [])
 (σ2.rdSl l0.1 l0.2 1).bind fun new3 =>
 (bif (Nat.ble ((0 + l0.2) * 9) 35184372088832) then
 (σ2.appSl (σ.next + 1) 3 1 (.loc (.n σ.next) 0 1) 0 l0.2 new3).bind fun r4 =>
 (AV.asSl r4.1).bind fun l5 =>
 some ((.sl l5.1 l5.2), r4.2)
 else none))
 else none
noncomputable def slices_Clone___int_int_ {O : Type} : Sm O := slices_Clone___int_int__c
theorem slices_Clone___int_int__ent : Entered Try.prog 57 := Try.call57
theorem slices_Clone___int_int__run {O : Type} : run (O := O) Try.prog [] Try.f57 (.n .z (.n (.n .z (.n .z .z)) .z)) = slices_Clone___int_int__c  := by kernel_rfl
theorem slices_Clone___int_int__sound {O : Type} {RO : O → Loc → (Nat → Option Obj) → Prop} : FSound RO Try.prog 57 (slices_Clone___int_int_) :=
   have h : FSound RO Try.prog 57 (slices_Clone___int_int__c) := (slices_Clone___int_int__run) ▸ run_sound (gnil) mixed Try.func57 (by kernel_rfl) _
   h

/-- slices.Clone[[]uint64,uint64] -/
noncomputable def slices_Clone___uint64_uint64__c {O : Type} : Sm O := fun xs σ =>
 bif Nat.beq xs.length 1 then
 (AV.asSl (xs.getD 0 .u)).bind fun l0 =>
 (bif (SA.isNil l0.1) then
 some ((.sl .nil 0), σ)
 else let σ1 := σ.bump 2
 let σ2 := σ1.put σ.next (.cells true 22 [])
 (σ2.rdSl l0.1 l0.2 1).bind fun new3 =>
 (bif (Nat.ble ((0 + l0.2) * 9) 35184372088832) then
 (σ2.appSl (σ.next + 1) 22 1 (.loc (.n σ.next) 0 1) 0 l0.2 new3).bind fun r4 =>
 (AV.asSl r4.1).bind fun l5 =>
 some ((.sl l5.1 l5.2), r4.2)
 else none))
 else none
noncomputable def slices_Clone___uint64_uint64_ {O : Type} : Sm O := slices_Clone___uint64_uint64__c
theorem slices_Clone___uint64_uint64__ent : Entered Try.prog 112 := Try.call112
theorem slices_Clone___uint64_uint64__run {O : Type} : run (O := O) Try.prog [] Try.f112 (.n .z (.n (.n .z (.n .z .z)) .z)) = slices_Clone___uint64_uint64__c  := by kernel_rfl
theorem slices_Clone___uint64_uint64__sound {O : Type} {RO : O → Loc → (Nat → Option Obj) → Prop} : FSound RO Try.prog 112 (slices_Clone___uint64_uint64_) :=
   have h : FSound RO Try.prog 112 (slices_Clone___uint64_uint64__c) := (slices_Clone___uint64_uint64__run) ▸ run_sound (gnil) mixed Try.func112 (by kernel_rfl) _
   h

/-- haymow/diff.clone -/
noncomputable def diff_clone_c {O : Type} (k57 k112 : Sm O) : Sm O := fun xs σ =>
 bif Nat.beq xs.length 1 then
 (AV.asAgg 7 (xs.getD 0 .u)).bind fun c0 =>
 (AV.asI .i64 (c0.getD 0 .u)).bind fun n1 =>
 (AV.asI .i64 (c0.getD 1 .u)).bind fun n2 =>
 (AV.asI .i64 (c0.getD 2 .u)).bind fun n3 =>
 (AV.asI .i64 (c0.getD 3 .u)).bind fun n4 =>
 (AV.asB (c0.getD 4 .u)).bind fun b5 =>
 (AV.asSl (c0.getD 5 .u)).bind fun l6 =>
 (AV.asSl (c0.getD 6 .u)).bind fun l7 =>
 let σ8 := σ.bump 2
 let σ9 := σ8.put σ.next (.cells true 74 [(.i .i64 n1), (.i .i64 n2), (.i .i64 n3), (.i .i64 n4), (.b b5), (.sl l6.1 l6.2), (.sl l7.1 l7.2)])
 let σ10 := σ9.put (σ.next + 1) (.cells true 74 [(.i .i64 0), (.i .i64 0), (.i .i64 0), (.i .i64 0), (.b false), (.sl .nil 0), (.sl .nil 0)])
 (σ10.ld (.n σ.next) 0).bind fun w11 =>
 (AV.asI .i64 w11).bind fun n12 =>
 (σ10.ld (.n σ.next) 1).bind fun w13 =>
 (AV.asI .i64 w13).bind fun n14 =>
 (σ10.ld (.n σ.next) 2).bind fun w15 =>
 (AV.asI .i64 w15).bind fun n16 =>
 (σ10.ld (.n σ.next) 3).bind fun w17 =>
 (AV.asI .i64 w17).bind fun n18 =>
 (σ10.ld (.n σ.next) 4).bind fun w19 =>
 (AV.asB w19).bind fun b20 =>
 (σ10.ld (.n σ.next) 5).bind fun w21 =>
 (AV.asSl w21).bind fun l22 =>
 (σ10.ld (.n σ.next) 6).bind fun w23 =>
 (AV.asSl w23).bind fun l24 =>
 (k57 [(.sl l22.1 l22.2)] σ10).bind fun r25 =>
 (AV.asSl r25.1).bind fun l26 =>
 (chk (r25.2.ld (.n σ.next) 0 = some (.i .i64 n12))).bind fun _ =>
 (chk (r25.2.ld (.n σ.next) 1 = some (.i .i64 n14))).bind fun _ =>
 (chk (r25.2.ld (.n σ.next) 2 = some (.i .i64 n16))).bind fun _ =>
 (chk (r25.2.ld (.n σ.next) 3 = some (.i .i64 n18))).bind fun _ =>
 (chk (r25.2.ld (.n σ.next) 4 = some (.b b20))).bind fun _ =>
 (chk (r25.2.ld (.n σ.next) 6 = some (.sl l24.1 l24.2))).bind fun _ =>
 (k112 [(.sl l24.1 l24.2)] r25.2).bind fun r27 =>
 (AV.asSl r27.1).bind fun l28 =>
 (chk (r27.2.ld (.n σ.next) 0 = some (.i .i64 n12))).bind fun _ =>
 (chk (r27.2.ld (.n σ.next) 1 = some (.i .i64 n14))).bind fun _ =>
 (chk (r27.2.ld (.n σ.next) 2 = some (.i .i64 n16))).bind fun _ =>
 (chk (r27.2.ld (.n σ.next) 3 = some (.i .i64 n18))).bind fun _ =>
 (chk (r27.2.ld (.n σ.next) 4 = some (.b b20))).bind fun _ =>
 (r27.2.st (.n (σ.next + 1)) 0 [(.i .i64 n12), (.i .i64 n14), (.i .i64 n16), (.i .i64 n18), (.b b20), (.sl l26.1 l26.2), (.sl l28.1 l28.2)]).bind fun σ29 =>
 (σ29.ld (.n (σ.next + 1)) 0).bind fun w30 =>
 (AV.asI .i64 w30).bind fun n31 =>
 (σ29.ld (.n (σ.next + 1)) 1).bind fun w32 =>
 (AV.asI .i64 w32).bind fun n33 =>
 (σ29.ld (.n (σ.next + 1)) 2).bind fun w34 =>
 (AV.asI .i64 w34).bind fun n35 =>
 (σ29.ld (.n (σ.next + 1)) 3).bind fun w36 =>
 (AV.asI .i64 w36).bind fun n37 =>
 (σ29.ld (.n (σ.next + 1)) 4).bind fun w38 =>
 (AV.asB w38).bind fun b39 =>
 (σ29.ld (.n (σ.next + 1)) 5).bind fun w40 =>
 (AV.asSl w40).bind fun l41 =>
 (σ29.ld (.n (σ.next + 1)) 6).bind fun w42 =>
 (AV.asSl w42).bind fun l43 =>
 some ((.agg [(.i .i64 n31), (.i .i64 n33), (.i .i64 n35), (.i .i64 n37), (.b b39), (.sl l41.1 l41.2), (.sl l43.1 l43.2)]), σ29)
 else none
noncomputable def diff_clone {O : Type} : Sm O := diff_clone_c slices_Clone___int_int_ slices_Clone___uint64_uint64_
theorem diff_clone_ent : Entered Try.prog 85 := Try.call85
theorem diff_clone_run {O : Type} (k57 k112 : Sm O) : run (O := O) Try.prog [(57, k57), (112, k112)] Try.f85 (.n .z (.n (.d [] [0, 1, 2, 3, 5, 6, 4, 7, 8, 9] [0, 1, 0, 4, 12, 0, 32, 124, 255, 511]) .z)) = diff_clone_c k57 k112 := by kernel_rfl
theorem diff_clone_sound {O : Type} {RO : O → Loc → (Nat → Option Obj) → Prop} : FSound RO Try.prog 85 (diff_clone) :=
   have h : FSound RO Try.prog 85 (diff_clone_c slices_Clone___int_int_ slices_Clone___uint64_uint64_) := (diff_clone_run slices_Clone___int_int_ slices_Clone___uint64_uint64_) ▸ run_sound (gcons slices_Clone___int_int__ent (slices_Clone___int_int__sound) <| gcons slices_Clone___uint64_uint64__ent (slices_Clone___uint64_uint64__sound) <| gnil) mixed Try.func85 (by kernel_rfl) _
   h

/-- haymow/diff.nodes -/
noncomputable def diff_nodes_L2 {O : Type} (l100 : SA × Nat) (σ : AH O) (n0 : Int) : List AV × AH O → Option ((List AV × AH O) ⊕ (List AV × AH O)) := (fun r101 =>
 (AV.asSl (r101.1.getD 0 .u)).bind fun l102 =>
 (AV.asI .i64 (r101.1.getD 1 .u)).bind fun n103 =>
 (bif (decide (n103 < (l100.2 : Int))) then
 (bif ((decide ((0 : Int) ≤ n103)) && (decide (n103 < (l100.2 : Int)))) then
 (SA.ref l100.1).bind fun q104 =>
 (r101.2.ld q104.1 (q104.2 + (n103.toNat * 1))).bind fun w105 =>
 (AV.asI .u64 w105).bind fun n106 =>
 (r101.2.ld (.n σ.next) 6).bind fun w107 =>
 (AV.asSl w107).bind fun l108 =>
 (bif ((decide ((0 : Int) ≤ n103)) && (decide (n103 < (l108.2 : Int)))) then
 (SA.ref l108.1).bind fun q109 =>
 (r101.2.ld q109.1 (q109.2 + (n103.toNat * 1))).bind fun w110 =>
 (AV.asI .u64 w110).bind fun n111 =>
 ((bif ((n111 : Int) != n106) then
 let σ112 := r101.2.bump 2
 let σ113 := σ112.put r101.2.next (.cells true 76 [(.i .i64 3), (.i .i64 n0), (.i .i64 n103), (.i .i64 0), (.i .u64 n106), (.i .i64 0), (.i .i64 0), (.i .i64 0), (.i .i64 0), (.b false), (.sl .nil 0), (.sl .nil 0), (.sl .nil 0)])
 (σ113.rdSl (.loc (.n r101.2.next) 0 13) 1 13).bind fun new114 =>
 (bif (Nat.ble ((l102.2 + 1) * 153) 35184372088832) then
 (σ113.appSl (r101.2.next + 1) 76 13 l102.1 l102.2 1 new114).bind fun r115 =>
 (AV.asSl r115.1).bind fun l116 =>
 some ([(.sl l116.1 l116.2)], r115.2)
 else none)
 else some ([(.sl l102.1 l102.2)], r101.2)) : Option (List AV × AH O)).bind fun r117 =>
 (AV.asSl (r117.1.getD 0 .u)).bind fun l118 =>
 some (Sum.inl ([(.sl l118.1 l118.2), (.i .i64 (IntKind.i64.wrap (n103 + 1)))], r117.2))
 else none)
 else none)
 else some (Sum.inr ([(.sl l102.1 l102.2)], r101.2))))
noncomputable def diff_nodes_L1 {O : Type} (l78 : SA × Nat) (σ : AH O) (n0 : Int) : List AV × AH O → Option ((List AV × AH O) ⊕ (List AV × AH O)) := (fun r79 =>
 (AV.asSl (r79.1.getD 0 .u)).bind fun l80 =>
 (AV.asI .i64 (r79.1.getD 1 .u)).bind fun n81 =>
 (bif (decide (n81 < (l78.2 : Int))) then
 (bif ((decide ((0 : Int) ≤ n81)) && (decide (n81 < (l78.2 : Int)))) then
 (SA.ref l78.1).bind fun q82 =>
 (r79.2.ld q82.1 (q82.2 + (n81.toNat * 1))).bind fun w83 =>
 (AV.asI .i64 w83).bind fun n84 =>
 (r79.2.ld (.n σ.next) 5).bind fun w85 =>
 (AV.asSl w85).bind fun l86 =>
 (bif ((decide ((0 : Int) ≤ n81)) && (decide (n81 < (l86.2 : Int)))) then
 (SA.ref l86.1).bind fun q87 =>
 (r79.2.ld q87.1 (q87.2 + (n81.toNat * 1))).bind fun w88 =>
 (AV.asI .i64 w88).bind fun n89 =>
 ((bif ((n89 : Int) != n84) then
 let σ90 := r79.2.bump 2
 let σ91 := σ90.put r79.2.next (.cells true 76 [(.i .i64 2), (.i .i64 n0), (.i .i64 n81), (.i .i64 n84), (.i .u64 0), (.i .i64 0), (.i .i64 0), (.i .i64 0), (.i .i64 0), (.b false), (.sl .nil 0), (.sl .nil 0), (.sl .nil 0)])
 (σ91.rdSl (.loc (.n r79.2.next) 0 13) 1 13).bind fun new92 =>
 (bif (Nat.ble ((l80.2 + 1) * 153) 35184372088832) then
 (σ91.appSl (r79.2.next + 1) 76 13 l80.1 l80.2 1 new92).bind fun r93 =>
 (AV.asSl r93.1).bind fun l94 =>
 some ([(.sl l94.1 l94.2)], r93.2)
 else none)
 else some ([(.sl l80.1 l80.2)], r79.2)) : Option (List AV × AH O)).bind fun r95 =>
 (AV.asSl (r95.1.getD 0 .u)).bind fun l96 =>
 some (Sum.inl ([(.sl l96.1 l96.2), (.i .i64 (IntKind.i64.wrap (n81 + 1)))], r95.2))
 else none)
 else none)
 else some (Sum.inr ([(.sl l80.1 l80.2)], r79.2))))
noncomputable def diff_nodes_c {O : Type} (k85 : Sm O) : Sm O := fun xs σ =>
 bif Nat.beq xs.length 3 then
 (AV.asI .i64 (xs.getD 0 .u)).bind fun n0 =>
 (AV.asAgg 7 (xs.getD 1 .u)).bind fun c1 =>
 (AV.asI .i64 (c1.getD 0 .u)).bind fun n2 =>
 (AV.asI .i64 (c1.getD 1 .u)).bind fun n3 =>
 (AV.asI .i64 (c1.getD 2 .u)).bind fun n4 =>
 (AV.asI .i64 (c1.getD 3 .u)).bind fun n5 =>
 (AV.asB (c1.getD 4 .u)).bind fun b6 =>
 (AV.asSl (c1.getD 5 .u)).bind fun l7 =>
 (AV.asSl (c1.getD 6 .u)).bind fun l8 =>
 (AV.asAgg 7 (xs.getD 2 .u)).bind fun c9 =>
 (AV.asI .i64 (c9.getD 0 .u)).bind fun n10 =>
 (AV.asI .i64 (c9.getD 1 .u)).bind fun n11 =>
 (AV.asI .i64 (c9.getD 2 .u)).bind fun n12 =>
 (AV.asI .i64 (c9.getD 3 .u)).bind fun n13 =>
 (AV.asB (c9.getD 4 .u)).bind fun b14 =>
 (AV.asSl (c9.getD 5 .u)).bind fun l15 =>
 (AV.asSl (c9.getD 6 .u)).bind fun l16 =>
 let σ17 := σ.bump 2
 let σ18 := σ17.put σ.next (.cells true 74 [(.i .i64 n2), (.i .i64 n3), (.i .i64 n4), (.i .i64 n5), (.b b6), (.sl l7.1 l7.2), (.sl l8.1 l8.2)])
 let σ19 := σ18.put (σ.next + 1) (.cells true 74 [(.i .i64 n10), (.i .i64 n11), (.i .i64 n12), (.i .i64 n13), (.b b14), (.sl l15.1 l15.2), (.sl l16.1 l16.2)])
 (σ19.ld (.n σ.next) 0).bind fun w20 =>
 (AV.asI .i64 w20).bind fun n21 =>
 (σ19.ld (.n σ.next) 1).bind fun w22 =>
 (AV.asI .i64 w22).bind fun n23 =>
 (σ19.ld (.n σ.next) 2).bind fun w24 =>
 (AV.asI .i64 w24).bind fun n25 =>
 (σ19.ld (.n σ.next) 3).bind fun w26 =>
 (AV.asI .i64 w26).bind fun n27 =>
 (σ19.ld (.n σ.next) 4).bind fun w28 =>
 (AV.asB w28).bind fun b29 =>
 (σ19.ld (.n (σ.next + 1)) 0).bind fun w30 =>
 (AV.asI .i64 w30).bind fun n31 =>
 (σ19.ld (.n (σ.next + 1)) 1).bind fun w32 =>
 (AV.asI .i64 w32).bind fun n33 =>
 (σ19.ld (.n (σ.next + 1)) 2).bind fun w34 =>
 (AV.asI .i64 w34).bind fun n35 =>
 (σ19.ld (.n (σ.next + 1)) 3).bind fun w36 =>
 (AV.asI .i64 w36).bind fun n37 =>
 (σ19.ld (.n (σ.next + 1)) 4).bind fun w38 =>
 (AV.asB w38).bind fun b39 =>
 ((bif ((!((((n21 : Int) == n31) && (((n23 : Int) == n33) && true)) && (((n25 : Int) == n35) && (((n27 : Int) == n37) && ((b29 == b39) && true))))) == false) then
 (σ19.ld (.n σ.next) 5).bind fun w40 =>
 (AV.asSl w40).bind fun l41 =>
 (σ19.ld (.n (σ.next + 1)) 5).bind fun w42 =>
 (AV.asSl w42).bind fun l43 =>
 some ([(.b (((l41.2 : Int) : Int) != (l43.2 : Int)))], σ19)
 else some ([(.b true)], σ19)) : Option (List AV × AH O)).bind fun r44 =>
 (AV.asB (r44.1.getD 0 .u)).bind fun b45 =>
 ((bif (b45 == false) then
 (r44.2.ld (.n σ.next) 6).bind fun w46 =>
 (AV.asSl w46).bind fun l47 =>
 (r44.2.ld (.n (σ.next + 1)) 6).bind fun w48 =>
 (AV.asSl w48).bind fun l49 =>
 some ([(.b (((l47.2 : Int) : Int) != (l49.2 : Int)))], r44.2)
 else some ([(.b true)], r44.2)) : Option (List AV × AH O)).bind fun r50 =>
 (AV.asB (r50.1.getD 0 .u)).bind fun b51 =>
 (bif b51 then
 let σ52 := r50.2.bump 1
 (σ52.ld (.n (σ.next + 1)) 0).bind fun w53 =>
 (AV.asI .i64 w53).bind fun n54 =>
 (σ52.ld (.n (σ.next + 1)) 1).bind fun w55 =>
 (AV.asI .i64 w55).bind fun n56 =>
 (σ52.ld (.n (σ.next + 1)) 2).bind fun w57 =>
 (AV.asI .i64 w57).bind fun n58 =>
 (σ52.ld (.n (σ.next + 1)) 3).bind fun w59 =>
 (AV.asI .i64 w59).bind fun n60 =>
 (σ52.ld (.n (σ.next + 1)) 4).bind fun w61 =>
 (AV.asB w61).bind fun b62 =>
 (σ52.ld (.n (σ.next + 1)) 5).bind fun w63 =>
 (AV.asSl w63).bind fun l64 =>
 (σ52.ld (.n (σ.next + 1)) 6).bind fun w65 =>
 (AV.asSl w65).bind fun l66 =>
 (k85 [(.agg [(.i .i64 n54), (.i .i64 n56), (.i .i64 n58), (.i .i64 n60), (.b b62), (.sl l64.1 l64.2), (.sl l66.1 l66.2)])] σ52).bind fun r67 =>
 (AV.asAgg 7 r67.1).bind fun c68 =>
 (AV.asI .i64 (c68.getD 0 .u)).bind fun n69 =>
 (AV.asI .i64 (c68.getD 1 .u)).bind fun n70 =>
 (AV.asI .i64 (c68.getD 2 .u)).bind fun n71 =>
 (AV.asI .i64 (c68.getD 3 .u)).bind fun n72 =>
 (AV.asB (c68.getD 4 .u)).bind fun b73 =>
 (AV.asSl (c68.getD 5 .u)).bind fun l74 =>
 (AV.asSl (c68.getD 6 .u)).bind fun l75 =>
 let σ76 := r67.2.put r50.2.next (.cells true 76 [(.i .i64 1), (.i .i64 n0), (.i .i64 0), (.i .i64 0), (.i .u64 0), (.i .i64 n69), (.i .i64 n70), (.i .i64 n71), (.i .i64 n72), (.b b73), (.sl l74.1 l74.2), (.sl l75.1 l75.2), (.sl .nil 0)])
 some ((.sl (.loc (.n r50.2.next) 0 13) 1), σ76)
 else (r50.2.ld (.n (σ.next + 1)) 5).bind fun w77 =>
 (AV.asSl w77).bind fun l78 =>
 (loopF (S := List AV × AH O) (T := List AV × AH O) (diff_nodes_L1 l78 σ n0) ([(.sl .nil 0), (.i .i64 0)], r50.2)).bind fun r97 =>
 (AV.asSl (r97.1.getD 0 .u)).bind fun l98 =>
 (r97.2.ld (.n (σ.next + 1)) 6).bind fun w99 =>
 (AV.asSl w99).bind fun l100 =>
 (loopF (S := List AV × AH O) (T := List AV × AH O) (diff_nodes_L2 l100 σ n0) ([(.sl l98.1 l98.2), (.i .i64 0)], r97.2)).bind fun r119 =>
 (AV.asSl (r119.1.getD 0 .u)).bind fun l120 =>
 some ((.sl l120.1 l120.2), r119.2))
 else none
noncomputable def diff_nodes {O : Type} : Sm O := frz (diff_nodes_c diff_clone)
theorem diff_nodes_ent : Entered Try.prog 55 := Try.call55
theorem diff_nodes_run {O : Type} (k85 : Sm O) : run (O := O) Try.prog [(85, k85)] Try.f55 (.n .z (.n (.n (.g [(5, 7, [(25, .one .b)]), (14, 7, [(34, .one .b)])]) (.n .z .z)) (.n .z (.n (.n .z (.n (.lp false 0 [(7, .one .sl), (43, .one (.i .i64))] [(7, .one .sl)] (.n .z (.n .z (.n (.n (.n .z (.n .z (.j false [(7, .one .sl)] .z .z))) .z) .z)))) .z)) (.n (.n .z (.n (.lp false 2 [(7, .one .sl), (66, .one (.i .i64))] [(7, .one .sl)] (.n .z (.n .z (.n (.n (.n .z (.n .z (.j false [(7, .one .sl)] .z .z))) .z) .z)))) .z)) .z))))) = diff_nodes_c k85 := by kernel_rfl
theorem diff_nodes_sound {O : Type} {RO : O → Loc → (Nat → Option Obj) → Prop} : FSound RO Try.prog 55 (diff_nodes) :=
   have h : FSound RO Try.prog 55 (diff_nodes_c diff_clone) := (diff_nodes_run diff_clone) ▸ run_sound (gcons diff_clone_ent (diff_clone_sound) <| gnil) mixed Try.func55 (by kernel_rfl) _
   h.frz

/-- slices.Equal[[]int,int] -/
noncomputable def slices_Equal___int_int__L1 {O : Type} (l0 : SA × Nat) (l1 : SA × Nat) : List AV × AH O → Option ((List AV × AH O) ⊕ ((List AV × AH O) ⊕ (AV × AH O))) := (fun r2 =>
 (AV.asI .i64 (r2.1.getD 0 .u)).bind fun n3 =>
 (bif (decide (n3 < (l0.2 : Int))) then
 (bif ((decide ((0 : Int) ≤ n3)) && (decide (n3 < (l0.2 : Int)))) then
 (SA.ref l0.1).bind fun q4 =>
 (r2.2.ld q4.1 (q4.2 + (n3.toNat * 1))).bind fun w5 =>
 (AV.asI .i64 w5).bind fun n6 =>
 (bif ((decide ((0 : Int) ≤ n3)) && (decide (n3 < (l1.2 : Int)))) then
 (SA.ref l1.1).bind fun q7 =>
 (r2.2.ld q7.1 (q7.2 + (n3.toNat * 1))).bind fun w8 =>
 (AV.asI .i64 w8).bind fun n9 =>
 (bif ((n6 : Int) != n9) then
 ((some ((.b false), r2.2) : Option (AV × AH O)).map fun r => Sum.inr (Sum.inr r))
 else some (Sum.inl ([(.i .i64 (IntKind.i64.wrap (n3 + 1)))], r2.2)))
 else none)
 else none)
 else some (Sum.inr (Sum.inl ([], r2.2)))))
noncomputable def slices_Equal___int_int__c {O : Type} : Sm O := fun xs σ =>
 bif Nat.beq xs.length 2 then
 (AV.asSl (xs.getD 0 .u)).bind fun l0 =>
 (AV.asSl (xs.getD 1 .u)).bind fun l1 =>
 (bif (((l0.2 : Int) : Int) != (l1.2 : Int)) then
 some ((.b false), σ)
 else bindS (S := List AV × AH O) (R := (AV × AH O)) (loopF (S := List AV × AH O) (T := (List AV × AH O) ⊕ (AV × AH O)) (slices_Equal___int_int__L1 l0 l1) ([(.i .i64 0)], σ)) fun r10 =>
 some ((.b true), r10.2))
 else none
noncomputable def slices_Equal___int_int_ {O : Type} : Sm O := slices_Equal___int_int__c
theorem slices_Equal___int_int__ent : Entered Try.prog 56 := Try.call56
theorem slices_Equal___int_int__run {O : Type} : run (O := O) Try.prog [] Try.f56 (.n .z (.n (.n .z (.n .z .z)) (.n (.n .z (.n (.lp true 0 [(13, .one (.i .i64))] [] (.n .z (.n .z (.n (.n (.n .z (.n (.d [] [0, 1, 2, 3, 4, 5, 6, 7, 8] [0, 0, 3, 7, 0, 0, 48, 112, 255]) (.n .z .z))) .z) .z)))) .z)) .z))) = slices_Equal___int_int__c  := by kernel_rfl
theorem slices_Equal___int_int__sound {O : Type} {RO : O → Loc → (Nat → Option Obj) → Prop} : FSound RO Try.prog 56 (slices_Equal___int_int_) :=
   have h : FSound RO Try.prog 56 (slices_Equal___int_int__c) := (slices_Equal___int_int__run) ▸ run_sound (gnil) mixed Try.func56 (by kernel_rfl) _
   h

/-- haymow/diff.Of -/
noncomputable def diff_Of_L1 {O : Type} (l25 : SA × Nat) (σ : AH O) (k55 : Sm O) : List AV × AH O → Option ((List AV × AH O) ⊕ (List AV × AH O)) := (fun r26 =>
 (AV.asSl (r26.1.getD 0 .u)).bind fun l27 =>
 (AV.asI .i64 (r26.1.getD 1 .u)).bind fun n28 =>
 (bif (decide (n28 < (l25.2 : Int))) then
 let σ29 := r26.2.bump 1
 (bif ((decide ((0 : Int) ≤ n28)) && (decide (n28 < (l25.2 : Int)))) then
 (SA.ref l25.1).bind fun q30 =>
 (σ29.ld q30.1 (q30.2 + (n28.toNat * 7))).bind fun w31 =>
 (AV.asI .i64 w31).bind fun n32 =>
 (σ29.ld q30.1 ((q30.2 + (n28.toNat * 7)) + 1)).bind fun w33 =>
 (AV.asI .i64 w33).bind fun n34 =>
 (σ29.ld q30.1 (((q30.2 + (n28.toNat * 7)) + 1) + 1)).bind fun w35 =>
 (AV.asI .i64 w35).bind fun n36 =>
 (σ29.ld q30.1 ((((q30.2 + (n28.toNat * 7)) + 1) + 1) + 1)).bind fun w37 =>
 (AV.asI .i64 w37).bind fun n38 =>
 (σ29.ld q30.1 (((((q30.2 + (n28.toNat * 7)) + 1) + 1) + 1) + 1)).bind fun w39 =>
 (AV.asB w39).bind fun b40 =>
 (σ29.ld q30.1 ((((((q30.2 + (n28.toNat * 7)) + 1) + 1) + 1) + 1) + 1)).bind fun w41 =>
 (AV.asSl w41).bind fun l42 =>
 (σ29.ld q30.1 (((((((q30.2 + (n28.toNat * 7)) + 1) + 1) + 1) + 1) + 1) + 1)).bind fun w43 =>
 (AV.asSl w43).bind fun l44 =>
 let σ45 := σ29.put r26.2.next (.cells true 74 [(.i .i64 0), (.i .i64 0), (.i .i64 0), (.i .i64 0), (.b false), (.sl .nil 0), (.sl .nil 0)])
 (σ45.st (.n r26.2.next) 0 [(.i .i64 n32), (.i .i64 n34), (.i .i64 n36), (.i .i64 n38), (.b b40), (.sl l42.1 l42.2), (.sl l44.1 l44.2)]).bind fun σ46 =>
 let σ47 := σ46.bump 1
 let σ48 := σ47.put σ46.next (.cells true 74 [(.i .i64 0), (.i .i64 0), (.i .i64 0), (.i .i64 0), (.b false), (.sl .nil 0), (.sl .nil 0)])
 (σ48.ld (.n σ.next) 0).bind fun w49 =>
 (AV.asSl w49).bind fun l50 =>
 ((bif (decide (n28 < (l50.2 : Int))) then
 (σ48.ld (.n σ.next) 0).bind fun w51 =>
 (AV.asSl w51).bind fun l52 =>
 (bif ((decide ((0 : Int) ≤ n28)) && (decide (n28 < (l52.2 : Int)))) then
 (SA.ref l52.1).bind fun q53 =>
 (σ48.ld q53.1 (q53.2 + (n28.toNat * 7))).bind fun w54 =>
 (AV.asI .i64 w54).bind fun n55 =>
 (σ48.ld q53.1 ((q53.2 + (n28.toNat * 7)) + 1)).bind fun w56 =>
 (AV.asI .i64 w56).bind fun n57 =>
 (σ48.ld q53.1 (((q53.2 + (n28.toNat * 7)) + 1) + 1)).bind fun w58 =>
 (AV.asI .i64 w58).bind fun n59 =>
 (σ48.ld q53.1 ((((q53.2 + (n28.toNat * 7)) + 1) + 1) + 1)).bind fun w60 =>
 (AV.asI .i64 w60).bind fun n61 =>
 (σ48.ld q53.1 (((((q53.2 + (n28.toNat * 7)) + 1) + 1) + 1) + 1)).bind fun w62 =>
 (AV.asB w62).bind fun b63 =>
 (σ48.ld q53.1 ((((((q53.2 + (n28.toNat * 7)) + 1) + 1) + 1) + 1) + 1)).bind fun w64 =>
 (AV.asSl w64).bind fun l65 =>
 (σ48.ld q53.1 (((((((q53.2 + (n28.toNat * 7)) + 1) + 1) + 1) + 1) + 1) + 1)).bind fun w66 =>
 (AV.asSl w66).bind fun l67 =>
 (σ48.st (.n σ46.next) 0 [(.i .i64 n55), (.i .i64 n57), (.i .i64 n59), (.i .i64 n61), (.b b63), (.sl l65.1 l65.2), (.sl l67.1 l67.2)]).bind fun σ68 =>
 some ([], σ68)
 else none)
 else some ([], σ48)) : Option (List AV × AH O)).bind fun r69 =>
 let σ70 := r69.2.bump 1
 (σ70.ld (.n σ46.next) 0).bind fun w71 =>
 (AV.asI .i64 w71).bind fun n72 =>
 (σ70.ld (.n σ46.next) 1).bind fun w73 =>
 (AV.asI .i64 w73).bind fun n74 =>
 (σ70.ld (.n σ46.next) 2).bind fun w75 =>
 (AV.asI .i64 w75).bind fun n76 =>
 (σ70.ld (.n σ46.next) 3).bind fun w77 =>
 (AV.asI .i64 w77).bind fun n78 =>
 (σ70.ld (.n σ46.next) 4).bind fun w79 =>
 (AV.asB w79).bind fun b80 =>
 (σ70.ld (.n σ46.next) 5).bind fun w81 =>
 (AV.asSl w81).bind fun l82 =>
 (σ70.ld (.n σ46.next) 6).bind fun w83 =>
 (AV.asSl w83).bind fun l84 =>
 (σ70.ld (.n r26.2.next) 0).bind fun w85 =>
 (AV.asI .i64 w85).bind fun n86 =>
 (σ70.ld (.n r26.2.next) 1).bind fun w87 =>
 (AV.asI .i64 w87).bind fun n88 =>
 (σ70.ld (.n r26.2.next) 2).bind fun w89 =>
 (AV.asI .i64 w89).bind fun n90 =>
 (σ70.ld (.n r26.2.next) 3).bind fun w91 =>
 (AV.asI .i64 w91).bind fun n92 =>
 (σ70.ld (.n r26.2.next) 4).bind fun w93 =>
 (AV.asB w93).bind fun b94 =>
 (σ70.ld (.n r26.2.next) 5).bind fun w95 =>
 (AV.asSl w95).bind fun l96 =>
 (σ70.ld (.n r26.2.next) 6).bind fun w97 =>
 (AV.asSl w97).bind fun l98 =>
 (k55 [(.i .i64 (IntKind.i64.wrap (n28 + 1))), (.agg [(.i .i64 n72), (.i .i64 n74), (.i .i64 n76), (.i .i64 n78), (.b b80), (.sl l82.1 l82.2), (.sl l84.1 l84.2)]), (.agg [(.i .i64 n86), (.i .i64 n88), (.i .i64 n90), (.i .i64 n92), (.b b94), (.sl l96.1 l96.2), (.sl l98.1 l98.2)])] σ70).bind fun r99 =>
 (AV.asSl r99.1).bind fun l100 =>
 (r99.2.rdSl l100.1 l100.2 13).bind fun new101 =>
 (bif (Nat.ble ((l27.2 + l100.2) * 153) 35184372088832) then
 (r99.2.appSl r69.2.next 76 13 l27.1 l27.2 l100.2 new101).bind fun r102 =>
 (AV.asSl r102.1).bind fun l103 =>
 some (Sum.inl ([(.sl l103.1 l103.2), (.i .i64 (IntKind.i64.wrap (n28 + 1)))], r102.2))
 else none)
 else none)
 else some (Sum.inr ([(.sl l27.1 l27.2)], r26.2))))
noncomputable def diff_Of_c {O : Type} (k55 k56 k57 : Sm O) : Sm O := fun xs σ =>
 bif Nat.beq xs.length 2 then
 (AV.asAgg 3 (xs.getD 0 .u)).bind fun c0 =>
 (AV.asSl (c0.getD 0 .u)).bind fun l1 =>
 (AV.asSl (c0.getD 1 .u)).bind fun l2 =>
 (AV.asSl (c0.getD 2 .u)).bind fun l3 =>
 (AV.asAgg 3 (xs.getD 1 .u)).bind fun c4 =>
 (AV.asSl (c4.getD 0 .u)).bind fun l5 =>
 (AV.asSl (c4.getD 1 .u)).bind fun l6 =>
 (AV.asSl (c4.getD 2 .u)).bind fun l7 =>
 let σ8 := σ.bump 2
 let σ9 := σ8.put σ.next (.cells true 39 [(.sl l1.1 l1.2), (.sl l2.1 l2.2), (.sl l3.1 l3.2)])
 let σ10 := σ9.put (σ.next + 1) (.cells true 39 [(.sl l5.1 l5.2), (.sl l6.1 l6.2), (.sl l7.1 l7.2)])
 (σ10.ld (.n σ.next) 0).bind fun w11 =>
 (AV.asSl w11).bind fun l12 =>
 (σ10.ld (.n (σ.next + 1)) 0).bind fun w13 =>
 (AV.asSl w13).bind fun l14 =>
 ((bif (((l12.2 : Int) : Int) != (l14.2 : Int)) then
 let σ15 := σ10.bump 2
 (σ15.ld (.n (σ.next + 1)) 0).bind fun w16 =>
 (AV.asSl w16).bind fun l17 =>
 let σ18 := σ15.put σ10.next (.cells true 76 [(.i .i64 0), (.i .i64 0), (.i .i64 0), (.i .i64 (l17.2 : Int)), (.i .u64 0), (.i .i64 0), (.i .i64 0), (.i .i64 0), (.i .i64 0), (.b false), (.sl .nil 0), (.sl .nil 0), (.sl .nil 0)])
 (σ18.rdSl (.loc (.n σ10.next) 0 13) 1 13).bind fun new19 =>
 (bif (Nat.ble ((0 + 1) * 153) 35184372088832) then
 (σ18.appSl (σ10.next + 1) 76 13 .nil 0 1 new19).bind fun r20 =>
 (AV.asSl r20.1).bind fun l21 =>
 some ([(.sl l21.1 l21.2)], r20.2)
 else none)
 else some ([(.sl .nil 0)], σ10)) : Option (List AV × AH O)).bind fun r22 =>
 (AV.asSl (r22.1.getD 0 .u)).bind fun l23 =>
 (r22.2.ld (.n (σ.next + 1)) 0).bind fun w24 =>
 (AV.asSl w24).bind fun l25 =>
 (loopF (S := List AV × AH O) (T := List AV × AH O) (diff_Of_L1 l25 σ k55) ([(.sl l23.1 l23.2), (.i .i64 0)], r22.2)).bind fun r104 =>
 (AV.asSl (r104.1.getD 0 .u)).bind fun l105 =>
 (r104.2.ld (.n σ.next) 1).bind fun w106 =>
 (AV.asSl w106).bind fun l107 =>
 (r104.2.ld (.n (σ.next + 1)) 1).bind fun w108 =>
 (AV.asSl w108).bind fun l109 =>
 (k56 [(.sl l107.1 l107.2), (.sl l109.1 l109.2)] r104.2).bind fun r110 =>
 (AV.asB r110.1).bind fun b111 =>
 ((bif (!b111) then
 let σ112 := r110.2.bump 2
 (σ112.ld (.n (σ.next + 1)) 1).bind fun w113 =>
 (AV.asSl w113).bind fun l114 =>
 (k57 [(.sl l114.1 l114.2)] σ112).bind fun r115 =>
 (AV.asSl r115.1).bind fun l116 =>
 let σ117 := r115.2.put r110.2.next (.cells true 76 [(.i .i64 4), (.i .i64 0), (.i .i64 0), (.i .i64 0), (.i .u64 0), (.i .i64 0), (.i .i64 0), (.i .i64 0), (.i .i64 0), (.b false), (.sl .nil 0), (.sl .nil 0), (.sl l116.1 l116.2)])
 (σ117.rdSl (.loc (.n r110.2.next) 0 13) 1 13).bind fun new118 =>
 (bif (Nat.ble ((l105.2 + 1) * 153) 35184372088832) then
 (σ117.appSl (r110.2.next + 1) 76 13 l105.1 l105.2 1 new118).bind fun r119 =>
 (AV.asSl r119.1).bind fun l120 =>
 some ([(.sl l120.1 l120.2)], r119.2)
 else none)
 else some ([(.sl l105.1 l105.2)], r110.2)) : Option (List AV × AH O)).bind fun r121 =>
 (AV.asSl (r121.1.getD 0 .u)).bind fun l122 =>
 (r121.2.ld (.n σ.next) 2).bind fun w123 =>
 (AV.asSl w123).bind fun l124 =>
 (r121.2.ld (.n (σ.next + 1)) 2).bind fun w125 =>
 (AV.asSl w125).bind fun l126 =>
 (k56 [(.sl l124.1 l124.2), (.sl l126.1 l126.2)] r121.2).bind fun r127 =>
 (AV.asB r127.1).bind fun b128 =>
 ((bif (!b128) then
 let σ129 := r127.2.bump 2
 (σ129.ld (.n (σ.next + 1)) 2).bind fun w130 =>
 (AV.asSl w130).bind fun l131 =>
 (k57 [(.sl l131.1 l131.2)] σ129).bind fun r132 =>
 (AV.asSl r132.1).bind fun l133 =>
 let σ134 := r132.2.put r127.2.next (.cells true 76 [(.i .i64 5), (.i .i64 0), (.i .i64 0), (.i .i64 0), (.i .u64 0), (.i .i64 0), (.i .i64 0), (.i .i64 0), (.i .i64 0), (.b false), (.sl .nil 0), (.sl .nil 0), (.sl l133.1 l133.2)])
 (σ134.rdSl (.loc (.n r127.2.next) 0 13) 1 13).bind fun new135 =>
 (bif (Nat.ble ((l122.2 + 1) * 153) 35184372088832) then
 (σ134.appSl (r127.2.next + 1) 76 13 l122.1 l122.2 1 new135).bind fun r136 =>
 (AV.asSl r136.1).bind fun l137 =>
 some ([(.sl l137.1 l137.2)], r136.2)
 else none)
 else some ([(.sl l122.1 l122.2)], r127.2)) : Option (List AV × AH O)).bind fun r138 =>
 (AV.asSl (r138.1.getD 0 .u)).bind fun l139 =>
 some ((.sl l139.1 l139.2), r138.2)
 else none
noncomputable def diff_Of {O : Type} : Sm O := frz (diff_Of_c diff_nodes slices_Equal___int_int_ slices_Clone___int_int_)
theorem diff_Of_ent : Entered Try.prog 27 := Try.call27
theorem diff_Of_run {O : Type} (k55 k56 k57 : Sm O) : run (O := O) Try.prog [(55, k55), (56, k56), (57, k57)] Try.f27 (.n .z (.n .z (.n (.n .z (.j false [(5, .one .sl)] .z .z)) (.n (.n .z (.n (.lp false 0 [(5, .one .sl), (26, .one (.i .i64))] [(5, .one .sl)] (.n .z (.n .z (.n (.n (.n .z (.n .z (.n (.n .z (.j false [] .z .z)) .z))) .z) .z)))) .z)) (.n (.n .z (.j false [(5, .one .sl)] .z .z)) (.n (.n .z (.j false [(5, .one .sl)] .z .z)) .z)))))) = diff_Of_c k55 k56 k57 := by kernel_rfl
theorem diff_Of_sound {O : Type} {RO : O → Loc → (Nat → Option Obj) → Prop} : FSound RO Try.prog 27 (diff_Of) :=
   have h : FSound RO Try.prog 27 (diff_Of_c diff_nodes slices_Equal___int_int_ slices_Clone___int_int_) := (diff_Of_run diff_nodes slices_Equal___int_int_ slices_Clone___int_int_) ▸ run_sound (gcons diff_nodes_ent (diff_nodes_sound) <| gcons slices_Equal___int_int__ent (slices_Equal___int_int__sound) <| gcons slices_Clone___int_int__ent (slices_Clone___int_int__sound) <| gnil) mixed Try.func27 (by kernel_rfl) _
   h.frz

/-- haymow/haymowlaw47.awake -/
noncomputable def law47_awake_c {O : Type} (k27 : Sm O) : Sm O := fun xs σ =>
 bif Nat.beq xs.length 0 then
 let σ0 := σ.bump 1
 let σ1 := σ0.put σ.next (.cells true 71 [(.i .i64 0), (.i .i64 0), (.i .i64 0), (.i .i64 0), (.b false)])
 (σ1.st (.n σ.next) 0 [(.i .i64 0), (.i .i64 1), (.i .i64 0), (.i .i64 0), (.b false)]).bind fun σ2 =>
 let σ3 := σ2.bump 4
 (σ3.ld (.n σ.next) 0).bind fun w4 =>
 (AV.asI .i64 w4).bind fun n5 =>
 (σ3.ld (.n σ.next) 1).bind fun w6 =>
 (AV.asI .i64 w6).bind fun n7 =>
 (σ3.ld (.n σ.next) 2).bind fun w8 =>
 (AV.asI .i64 w8).bind fun n9 =>
 (σ3.ld (.n σ.next) 3).bind fun w10 =>
 (AV.asI .i64 w10).bind fun n11 =>
 (σ3.ld (.n σ.next) 4).bind fun w12 =>
 (AV.asB w12).bind fun b13 =>
 let σ14 := σ3.put σ2.next (.cells true 22 [(.i .u64 1)])
 let σ15 := σ14.put (σ2.next + 1) (.cells true 74 [(.i .i64 n5), (.i .i64 n7), (.i .i64 n9), (.i .i64 n11), (.b b13), (.sl .nil 0), (.sl (.loc (.n σ2.next) 0 1) 1)])
 let σ16 := σ15.put ((σ2.next + 1) + 1) (.cells true 3 [(.i .i64 1)])
 let σ17 := σ16.put (((σ2.next + 1) + 1) + 1) (.cells true 39 [(.sl .nil 0), (.sl .nil 0), (.sl .nil 0)])
 (σ17.st (.n (((σ2.next + 1) + 1) + 1)) 0 [(.sl (.loc (.n (σ2.next + 1)) 0 7) 1), (.sl (.loc (.n ((σ2.next + 1) + 1)) 0 1) 1), (.sl .nil 0)]).bind fun σ18 =>
 let σ19 := σ18.bump 4
 (σ19.ld (.n σ.next) 0).bind fun w20 =>
 (AV.asI .i64 w20).bind fun n21 =>
 (σ19.ld (.n σ.next) 1).bind fun w22 =>
 (AV.asI .i64 w22).bind fun n23 =>
 (σ19.ld (.n σ.next) 2).bind fun w24 =>
 (AV.asI .i64 w24).bind fun n25 =>
 (σ19.ld (.n σ.next) 3).bind fun w26 =>
 (AV.asI .i64 w26).bind fun n27 =>
 (σ19.ld (.n σ.next) 4).bind fun w28 =>
 (AV.asB w28).bind fun b29 =>
 let σ30 := σ19.put σ18.next (.cells true 22 [(.i .u64 2)])
 let σ31 := σ30.put (σ18.next + 1) (.cells true 74 [(.i .i64 n21), (.i .i64 n23), (.i .i64 n25), (.i .i64 n27), (.b b29), (.sl .nil 0), (.sl (.loc (.n σ18.next) 0 1) 1)])
 let σ32 := σ31.put ((σ18.next + 1) + 1) (.cells true 3 [(.i .i64 1)])
 let σ33 := σ32.put (((σ18.next + 1) + 1) + 1) (.cells true 39 [(.sl .nil 0), (.sl .nil 0), (.sl .nil 0)])
 (σ33.st (.n (((σ18.next + 1) + 1) + 1)) 0 [(.sl (.loc (.n (σ18.next + 1)) 0 7) 1), (.sl (.loc (.n ((σ18.next + 1) + 1)) 0 1) 1), (.sl .nil 0)]).bind fun σ34 =>
 (σ34.ld (.n (((σ2.next + 1) + 1) + 1)) 0).bind fun w35 =>
 (AV.asSl w35).bind fun l36 =>
 (σ34.ld (.n (((σ2.next + 1) + 1) + 1)) 1).bind fun w37 =>
 (AV.asSl w37).bind fun l38 =>
 (σ34.ld (.n (((σ2.next + 1) + 1) + 1)) 2).bind fun w39 =>
 (AV.asSl w39).bind fun l40 =>
 (σ34.ld (.n (((σ18.next + 1) + 1) + 1)) 0).bind fun w41 =>
 (AV.asSl w41).bind fun l42 =>
 (σ34.ld (.n (((σ18.next + 1) + 1) + 1)) 1).bind fun w43 =>
 (AV.asSl w43).bind fun l44 =>
 (σ34.ld (.n (((σ18.next + 1) + 1) + 1)) 2).bind fun w45 =>
 (AV.asSl w45).bind fun l46 =>
 (k27 [(.agg [(.sl l36.1 l36.2), (.sl l38.1 l38.2), (.sl l40.1 l40.2)]), (.agg [(.sl l42.1 l42.2), (.sl l44.1 l44.2), (.sl l46.1 l46.2)])] σ34).bind fun r47 =>
 (AV.asSl r47.1).bind fun l48 =>
 ((bif ((((l48.2 : Int) : Int) == 1) == true) then
 (bif (decide ((0 : Int) < (l48.2 : Int))) then
 (SA.ref l48.1).bind fun q49 =>
 (r47.2.ld q49.1 q49.2).bind fun w50 =>
 (AV.asI .i64 w50).bind fun n51 =>
 some ([(.b ((n51 : Int) == 3))], r47.2)
 else none)
 else some ([(.b false)], r47.2)) : Option (List AV × AH O)).bind fun r52 =>
 (AV.asB (r52.1.getD 0 .u)).bind fun b53 =>
 ((bif (b53 == true) then
 (bif (decide ((0 : Int) < (l48.2 : Int))) then
 (SA.ref l48.1).bind fun q54 =>
 (r52.2.ld q54.1 (q54.2 + 1)).bind fun w55 =>
 (AV.asI .i64 w55).bind fun n56 =>
 some ([(.b ((n56 : Int) == 1))], r52.2)
 else none)
 else some ([(.b false)], r52.2)) : Option (List AV × AH O)).bind fun r57 =>
 (AV.asB (r57.1.getD 0 .u)).bind fun b58 =>
 ((bif (b58 == true) then
 (bif (decide ((0 : Int) < (l48.2 : Int))) then
 (SA.ref l48.1).bind fun q59 =>
 (r57.2.ld q59.1 (q59.2 + 4)).bind fun w60 =>
 (AV.asI .u64 w60).bind fun n61 =>
 some ([(.b ((n61 : Int) == 2))], r57.2)
 else none)
 else some ([(.b false)], r57.2)) : Option (List AV × AH O)).bind fun r62 =>
 (AV.asB (r62.1.getD 0 .u)).bind fun b63 =>
 ((bif (b63 == true) then
 (r62.2.ld (.n (((σ2.next + 1) + 1) + 1)) 0).bind fun w64 =>
 (AV.asSl w64).bind fun l65 =>
 (r62.2.ld (.n (((σ2.next + 1) + 1) + 1)) 1).bind fun w66 =>
 (AV.asSl w66).bind fun l67 =>
 (r62.2.ld (.n (((σ2.next + 1) + 1) + 1)) 2).bind fun w68 =>
 (AV.asSl w68).bind fun l69 =>
 (r62.2.ld (.n (((σ2.next + 1) + 1) + 1)) 0).bind fun w70 =>
 (AV.asSl w70).bind fun l71 =>
 (r62.2.ld (.n (((σ2.next + 1) + 1) + 1)) 1).bind fun w72 =>
 (AV.asSl w72).bind fun l73 =>
 (r62.2.ld (.n (((σ2.next + 1) + 1) + 1)) 2).bind fun w74 =>
 (AV.asSl w74).bind fun l75 =>
 (k27 [(.agg [(.sl l65.1 l65.2), (.sl l67.1 l67.2), (.sl l69.1 l69.2)]), (.agg [(.sl l71.1 l71.2), (.sl l73.1 l73.2), (.sl l75.1 l75.2)])] r62.2).bind fun r76 =>
 (AV.asSl r76.1).bind fun l77 =>
 some ([(.b (((l77.2 : Int) : Int) == 0))], r76.2)
 else some ([(.b false)], r62.2)) : Option (List AV × AH O)).bind fun r78 =>
 (AV.asB (r78.1.getD 0 .u)).bind fun b79 =>
 some ((.b b79), r78.2)
 else none
noncomputable def law47_awake {O : Type} : Sm O := law47_awake_c (fza diff_Of)
theorem law47_awake_ent : Entered Try.prog 24 := Try.call24
theorem law47_awake_run {O : Type} (k27 : Sm O) : run (O := O) Try.prog [(27, k27)] Try.f24 (.n .z (.n .z (.n .z (.n .z (.n .z (.n (.g [(3, 5, [(31, .one .b)]), (10, 5, [(38, .one .b)]), (17, 5, [(45, .one .b)]), (24, 5, [(52, .one .b)])]) .z)))))) = law47_awake_c k27 := by kernel_rfl
theorem law47_awake_sound {O : Type} {RO : O → Loc → (Nat → Option Obj) → Prop} : FSound RO Try.prog 24 (law47_awake) :=
   have h : FSound RO Try.prog 24 (law47_awake_c (fza diff_Of)) := (law47_awake_run (fza diff_Of)) ▸ run_sound (gcons diff_Of_ent (diff_Of_sound).fza <| gnil) mixed Try.func24 (by kernel_rfl) _
   h

/-- haymow/haymowlaw47.few -/
noncomputable def law47_few_L1 {O : Type} (σ : AH O) : List AV × AH O → Option ((List AV × AH O) ⊕ ((List AV × AH O) ⊕ (AV × AH O))) := (fun r6 =>
 (AV.asI .i64 (r6.1.getD 0 .u)).bind fun n7 =>
 (r6.2.ld (.n σ.next) 0).bind fun w8 =>
 (AV.asSl w8).bind fun l9 =>
 ((bif ((decide (n7 < (l9.2 : Int))) == true) then
 some ([(.b (decide (n7 < 20)))], r6.2)
 else some ([(.b false)], r6.2)) : Option (List AV × AH O)).bind fun r10 =>
 (AV.asB (r10.1.getD 0 .u)).bind fun b11 =>
 (bif b11 then
 (r10.2.ld (.n σ.next) 0).bind fun w12 =>
 (AV.asSl w12).bind fun l13 =>
 (bif ((decide ((0 : Int) ≤ n7)) && (decide (n7 < (l13.2 : Int)))) then
 (SA.ref l13.1).bind fun q14 =>
 (r10.2.ld q14.1 ((q14.2 + (n7.toNat * 7)) + 5)).bind fun w15 =>
 (AV.asSl w15).bind fun l16 =>
 ((bif ((decide ((l16.2 : Int) > 20)) == false) then
 (r10.2.ld (.n σ.next) 0).bind fun w17 =>
 (AV.asSl w17).bind fun l18 =>
 (bif ((decide ((0 : Int) ≤ n7)) && (decide (n7 < (l18.2 : Int)))) then
 (SA.ref l18.1).bind fun q19 =>
 (r10.2.ld q19.1 ((q19.2 + (n7.toNat * 7)) + 6)).bind fun w20 =>
 (AV.asSl w20).bind fun l21 =>
 some ([(.b (decide ((l21.2 : Int) > 20)))], r10.2)
 else none)
 else some ([(.b true)], r10.2)) : Option (List AV × AH O)).bind fun r22 =>
 (AV.asB (r22.1.getD 0 .u)).bind fun b23 =>
 (bif b23 then
 ((some ((.b false), r22.2) : Option (AV × AH O)).map fun r => Sum.inr (Sum.inr r))
 else some (Sum.inl ([(.i .i64 (IntKind.i64.wrap (n7 + 1)))], r22.2)))
 else none)
 else some (Sum.inr (Sum.inl ([], r10.2)))))
noncomputable def law47_few_c {O : Type} : Sm O := fun xs σ =>
 bif Nat.beq xs.length 1 then
 (AV.asAgg 3 (xs.getD 0 .u)).bind fun c0 =>
 (AV.asSl (c0.getD 0 .u)).bind fun l1 =>
 (AV.asSl (c0.getD 1 .u)).bind fun l2 =>
 (AV.asSl (c0.getD 2 .u)).bind fun l3 =>
 let σ4 := σ.bump 1
 let σ5 := σ4.put σ.next (.cells true 39 [(.sl l1.1 l1.2), (.sl l2.1 l2.2), (.sl l3.1 l3.2)])
 bindS (S := List AV × AH O) (R := (AV × AH O)) (loopF (S := List AV × AH O) (T := (List AV × AH O) ⊕ (AV × AH O)) (law47_few_L1 σ) ([(.i .i64 0)], σ5)) fun r24 =>
 (r24.2.ld (.n σ.next) 0).bind fun w25 =>
 (AV.asSl w25).bind fun l26 =>
 ((bif ((decide ((l26.2 : Int) ≤ 20)) == true) then
 (r24.2.ld (.n σ.next) 1).bind fun w27 =>
 (AV.asSl w27).bind fun l28 =>
 some ([(.b (decide ((l28.2 : Int) ≤ 20)))], r24.2)
 else some ([(.b false)], r24.2)) : Option (List AV × AH O)).bind fun r29 =>
 (AV.asB (r29.1.getD 0 .u)).bind fun b30 =>
 ((bif (b30 == true) then
 (r29.2.ld (.n σ.next) 2).bind fun w31 =>
 (AV.asSl w31).bind fun l32 =>
 some ([(.b (decide ((l32.2 : Int) ≤ 20)))], r29.2)
 else some ([(.b false)], r29.2)) : Option (List AV × AH O)).bind fun r33 =>
 (AV.asB (r33.1.getD 0 .u)).bind fun b34 =>
 some ((.b b34), r33.2)
 else none
noncomputable def law47_few {O : Type} : Sm O := law47_few_c
theorem law47_few_ent : Entered Try.prog 25 := Try.call25
theorem law47_few_run {O : Type} : run (O := O) Try.prog [] Try.f25 (.n .z (.n (.n .z (.n (.lp true 0 [(3, .one (.i .i64))] [] (.n (.n (.g [(5, 2, [(12, .one .b)])]) .z) (.n (.n (.n (.g [(8, 8, [(32, .one .b)])]) (.n .z .z)) .z) .z))) .z)) (.n (.g [(4, 4, [(42, .one .b)]), (10, 4, [(48, .one .b)])]) .z))) = law47_few_c  := by kernel_rfl
theorem law47_few_sound {O : Type} {RO : O → Loc → (Nat → Option Obj) → Prop} : FSound RO Try.prog 25 (law47_few) :=
   have h : FSound RO Try.prog 25 (law47_few_c) := (law47_few_run) ▸ run_sound (gnil) mixed Try.func25 (by kernel_rfl) _
   h

/-- haymow/diff.copied -/
noncomputable def diff_copied_L1 {O : Type} (l19 : SA × Nat) (σ6 : AH O) (k85 : Sm O) : List AV × AH O → Option ((List AV × AH O) ⊕ (List AV × AH O)) := (fun r20 =>
 (AV.asI .i64 (r20.1.getD 0 .u)).bind fun n21 =>
 (bif (decide (n21 < (l19.2 : Int))) then
 let σ22 := r20.2.bump 1
 (bif ((decide ((0 : Int) ≤ n21)) && (decide (n21 < (l19.2 : Int)))) then
 (SA.ref l19.1).bind fun q23 =>
 (σ22.ld q23.1 (q23.2 + (n21.toNat * 7))).bind fun w24 =>
 (AV.asI .i64 w24).bind fun n25 =>
 (σ22.ld q23.1 ((q23.2 + (n21.toNat * 7)) + 1)).bind fun w26 =>
 (AV.asI .i64 w26).bind fun n27 =>
 (σ22.ld q23.1 (((q23.2 + (n21.toNat * 7)) + 1) + 1)).bind fun w28 =>
 (AV.asI .i64 w28).bind fun n29 =>
 (σ22.ld q23.1 ((((q23.2 + (n21.toNat * 7)) + 1) + 1) + 1)).bind fun w30 =>
 (AV.asI .i64 w30).bind fun n31 =>
 (σ22.ld q23.1 (((((q23.2 + (n21.toNat * 7)) + 1) + 1) + 1) + 1)).bind fun w32 =>
 (AV.asB w32).bind fun b33 =>
 (σ22.ld q23.1 ((((((q23.2 + (n21.toNat * 7)) + 1) + 1) + 1) + 1) + 1)).bind fun w34 =>
 (AV.asSl w34).bind fun l35 =>
 (σ22.ld q23.1 (((((((q23.2 + (n21.toNat * 7)) + 1) + 1) + 1) + 1) + 1) + 1)).bind fun w36 =>
 (AV.asSl w36).bind fun l37 =>
 let σ38 := σ22.put r20.2.next (.cells true 74 [(.i .i64 0), (.i .i64 0), (.i .i64 0), (.i .i64 0), (.b false), (.sl .nil 0), (.sl .nil 0)])
 (σ38.st (.n r20.2.next) 0 [(.i .i64 n25), (.i .i64 n27), (.i .i64 n29), (.i .i64 n31), (.b b33), (.sl l35.1 l35.2), (.sl l37.1 l37.2)]).bind fun σ39 =>
 let σ40 := σ39.bump 2
 (σ40.ld (.n σ6.next) 0).bind fun w41 =>
 (AV.asSl w41).bind fun l42 =>
 (σ40.ld (.n r20.2.next) 0).bind fun w43 =>
 (AV.asI .i64 w43).bind fun n44 =>
 (σ40.ld (.n r20.2.next) 1).bind fun w45 =>
 (AV.asI .i64 w45).bind fun n46 =>
 (σ40.ld (.n r20.2.next) 2).bind fun w47 =>
 (AV.asI .i64 w47).bind fun n48 =>
 (σ40.ld (.n r20.2.next) 3).bind fun w49 =>
 (AV.asI .i64 w49).bind fun n50 =>
 (σ40.ld (.n r20.2.next) 4).bind fun w51 =>
 (AV.asB w51).bind fun b52 =>
 (σ40.ld (.n r20.2.next) 5).bind fun w53 =>
 (AV.asSl w53).bind fun l54 =>
 (σ40.ld (.n r20.2.next) 6).bind fun w55 =>
 (AV.asSl w55).bind fun l56 =>
 (k85 [(.agg [(.i .i64 n44), (.i .i64 n46), (.i .i64 n48), (.i .i64 n50), (.b b52), (.sl l54.1 l54.2), (.sl l56.1 l56.2)])] σ40).bind fun r57 =>
 (AV.asAgg 7 r57.1).bind fun c58 =>
 (AV.asI .i64 (c58.getD 0 .u)).bind fun n59 =>
 (AV.asI .i64 (c58.getD 1 .u)).bind fun n60 =>
 (AV.asI .i64 (c58.getD 2 .u)).bind fun n61 =>
 (AV.asI .i64 (c58.getD 3 .u)).bind fun n62 =>
 (AV.asB (c58.getD 4 .u)).bind fun b63 =>
 (AV.asSl (c58.getD 5 .u)).bind fun l64 =>
 (AV.asSl (c58.getD 6 .u)).bind fun l65 =>
 (chk (r57.2.ld (.n σ6.next) 0 = some (.sl l42.1 l42.2))).bind fun _ =>
 let σ66 := r57.2.put σ39.next (.cells true 74 [(.i .i64 n59), (.i .i64 n60), (.i .i64 n61), (.i .i64 n62), (.b b63), (.sl l64.1 l64.2), (.sl l65.1 l65.2)])
 (σ66.rdSl (.loc (.n σ39.next) 0 7) 1 7).bind fun new67 =>
 (bif (Nat.ble ((l42.2 + 1) * 89) 35184372088832) then
 (σ66.appSl (σ39.next + 1) 74 7 l42.1 l42.2 1 new67).bind fun r68 =>
 (AV.asSl r68.1).bind fun l69 =>
 (r68.2.st (.n σ6.next) 0 [(.sl l69.1 l69.2)]).bind fun σ70 =>
 some (Sum.inl ([(.i .i64 (IntKind.i64.wrap (n21 + 1)))], σ70))
 else none)
 else none)
 else some (Sum.inr ([], r20.2))))
noncomputable def diff_copied_c {O : Type} (k57 k85 : Sm O) : Sm O := fun xs σ =>
 bif Nat.beq xs.length 1 then
 (AV.asAgg 3 (xs.getD 0 .u)).bind fun c0 =>
 (AV.asSl (c0.getD 0 .u)).bind fun l1 =>
 (AV.asSl (c0.getD 1 .u)).bind fun l2 =>
 (AV.asSl (c0.getD 2 .u)).bind fun l3 =>
 let σ4 := σ.bump 2
 let σ5 := σ4.put σ.next (.cells true 39 [(.sl l1.1 l1.2), (.sl l2.1 l2.2), (.sl l3.1 l3.2)])
 let σ6 := σ5.put (σ.next + 1) (.cells true 39 [(.sl .nil 0), (.sl .nil 0), (.sl .nil 0)])
 let σ7 := σ6.bump 1
 (σ7.ld (.n σ.next) 1).bind fun w8 =>
 (AV.asSl w8).bind fun l9 =>
 (σ7.ld (.n σ.next) 2).bind fun w10 =>
 (AV.asSl w10).bind fun l11 =>
 (k57 [(.sl l9.1 l9.2)] σ7).bind fun r12 =>
 (AV.asSl r12.1).bind fun l13 =>
 (chk (r12.2.ld (.n σ.next) 2 = some (.sl l11.1 l11.2))).bind fun _ =>
 (k57 [(.sl l11.1 l11.2)] r12.2).bind fun r14 =>
 (AV.asSl r14.1).bind fun l15 =>
 let σ16 := r14.2.put σ6.next (.cells true 39 [(.sl .nil 0), (.sl .nil 0), (.sl .nil 0)])
 (σ16.st (.n σ6.next) 0 [(.sl .nil 0), (.sl l13.1 l13.2), (.sl l15.1 l15.2)]).bind fun σ17 =>
 (σ17.ld (.n σ.next) 0).bind fun w18 =>
 (AV.asSl w18).bind fun l19 =>
 (loopF (S := List AV × AH O) (T := List AV × AH O) (diff_copied_L1 l19 σ6 k85) ([(.i .i64 0)], σ17)).bind fun r71 =>
 (r71.2.ld (.n σ6.next) 0).bind fun w72 =>
 (AV.asSl w72).bind fun l73 =>
 (r71.2.ld (.n σ6.next) 1).bind fun w74 =>
 (AV.asSl w74).bind fun l75 =>
 (r71.2.ld (.n σ6.next) 2).bind fun w76 =>
 (AV.asSl w76).bind fun l77 =>
 (r71.2.st (.n (σ.next + 1)) 0 [(.sl l73.1 l73.2), (.sl l75.1 l75.2), (.sl l77.1 l77.2)]).bind fun σ78 =>
 (σ78.ld (.n (σ.next + 1)) 0).bind fun w79 =>
 (AV.asSl w79).bind fun l80 =>
 (σ78.ld (.n (σ.next + 1)) 1).bind fun w81 =>
 (AV.asSl w81).bind fun l82 =>
 (σ78.ld (.n (σ.next + 1)) 2).bind fun w83 =>
 (AV.asSl w83).bind fun l84 =>
 some ((.agg [(.sl l80.1 l80.2), (.sl l82.1 l82.2), (.sl l84.1 l84.2)]), σ78)
 else none
noncomputable def diff_copied {O : Type} : Sm O := diff_copied_c slices_Clone___int_int_ diff_clone
theorem diff_copied_ent : Entered Try.prog 53 := Try.call53
theorem diff_copied_run {O : Type} (k57 k85 : Sm O) : run (O := O) Try.prog [(57, k57), (85, k85)] Try.f53 (.n .z (.n (.d [] [0, 1, 3, 4, 2, 5, 6, 7, 8] [0, 1, 3, 0, 8, 31, 63, 0, 255]) (.n (.n .z (.n (.lp false 0 [(16, .one (.i .i64))] [] (.n .z (.n .z (.n (.n (.n .z (.d [] [0, 1, 2, 3, 4, 5, 6, 7] [0, 1, 0, 4, 12, 31, 63, 127])) .z) .z)))) .z)) .z))) = diff_copied_c k57 k85 := by kernel_rfl
theorem diff_copied_sound {O : Type} {RO : O → Loc → (Nat → Option Obj) → Prop} : FSound RO Try.prog 53 (diff_copied) :=
   have h : FSound RO Try.prog 53 (diff_copied_c slices_Clone___int_int_ diff_clone) := (diff_copied_run slices_Clone___int_int_ diff_clone) ▸ run_sound (gcons slices_Clone___int_int__ent (slices_Clone___int_int__sound) <| gcons diff_clone_ent (diff_clone_sound) <| gnil) mixed Try.func53 (by kernel_rfl) _
   h

/-- haymow/diff.size -/
noncomputable def diff_size_L1 {O : Type} (p0 : Option (Bid × Nat)) (n1 : Int) : List AV × AH O → Option ((List AV × AH O) ⊕ (List AV × AH O)) := (fun r4 =>
 Option.bind p0 fun q5 =>
 (r4.2.ld q5.1 q5.2).bind fun w6 =>
 (AV.asSl w6).bind fun l7 =>
 (bif (decide ((l7.2 : Int) < n1)) then
 let σ8 := r4.2.bump 2
 Option.bind p0 fun q9 =>
 (σ8.ld q9.1 q9.2).bind fun w10 =>
 (AV.asSl w10).bind fun l11 =>
 let σ12 := σ8.put r4.2.next (.cells true 74 [(.i .i64 0), (.i .i64 0), (.i .i64 0), (.i .i64 0), (.b false), (.sl .nil 0), (.sl .nil 0)])
 (σ12.rdSl (.loc (.n r4.2.next) 0 7) 1 7).bind fun new13 =>
 (bif (Nat.ble ((l11.2 + 1) * 89) 35184372088832) then
 (σ12.appSl (r4.2.next + 1) 74 7 l11.1 l11.2 1 new13).bind fun r14 =>
 (AV.asSl r14.1).bind fun l15 =>
 Option.bind p0 fun q16 =>
 (r14.2.st q16.1 q16.2 [(.sl l15.1 l15.2)]).bind fun σ17 =>
 some (Sum.inl ([], σ17))
 else none)
 else some (Sum.inr ([], r4.2))))
noncomputable def diff_size_c {O : Type} : Sm O := fun xs σ =>
 bif Nat.beq xs.length 2 then
 (AV.asP (xs.getD 0 .u)).bind fun p0 =>
 (AV.asI .i64 (xs.getD 1 .u)).bind fun n1 =>
 ((bif ((decide (n1 < 0)) == false) then
 some ([(.b (decide (n1 > 1048576)))], σ)
 else some ([(.b true)], σ)) : Option (List AV × AH O)).bind fun r2 =>
 (AV.asB (r2.1.getD 0 .u)).bind fun b3 =>
 (bif b3 then
 some ((.i .i64 2), r2.2)
 else (loopF (S := List AV × AH O) (T := List AV × AH O) (diff_size_L1 p0 n1) ([], r2.2)).bind fun r18 =>
 Option.bind p0 fun q19 =>
 (r18.2.ld q19.1 q19.2).bind fun w20 =>
 (AV.asSl w20).bind fun l21 =>
 (bif ((decide ((0 : Int) ≤ n1)) && (decide (n1 ≤ (l21.2 : Int)))) then
 (SA.adv l21.1 0 7).bind fun a22 =>
 Option.bind p0 fun q23 =>
 (r18.2.st q23.1 q23.2 [(.sl a22 (n1.toNat - 0))]).bind fun σ24 =>
 some ((.i .i64 0), σ24)
 else none))
 else none
noncomputable def diff_size {O : Type} : Sm O := diff_size_c
theorem diff_size_ent : Entered Try.prog 86 := Try.call86
theorem diff_size_run {O : Type} : run (O := O) Try.prog [] Try.f86 (.n .z (.n (.n (.g [(2, 2, [(10, .one .b)])]) (.n .z .z)) (.n (.n (.lp false 0 [] [] (.n (.n .z .z) .z)) .z) (.n .z .z)))) = diff_size_c  := by kernel_rfl
theorem diff_size_sound {O : Type} {RO : O → Loc → (Nat → Option Obj) → Prop} : FSound RO Try.prog 86 (diff_size) :=
   have h : FSound RO Try.prog 86 (diff_size_c) := (diff_size_run) ▸ run_sound (gnil) mixed Try.func86 (by kernel_rfl) _
   h

/-- haymow/diff.one -/
noncomputable def diff_one_c {O : Type} (k86 k57 k85 : Sm O) : Sm O := fun xs σ =>
 bif Nat.beq xs.length 2 then
 (AV.asP (xs.getD 0 .u)).bind fun p0 =>
 (AV.asAgg 13 (xs.getD 1 .u)).bind fun c1 =>
 (AV.asI .i64 (c1.getD 0 .u)).bind fun n2 =>
 (AV.asI .i64 (c1.getD 1 .u)).bind fun n3 =>
 (AV.asI .i64 (c1.getD 2 .u)).bind fun n4 =>
 (AV.asI .i64 (c1.getD 3 .u)).bind fun n5 =>
 (AV.asI .u64 (c1.getD 4 .u)).bind fun n6 =>
 (AV.asI .i64 (c1.getD 5 .u)).bind fun n7 =>
 (AV.asI .i64 (c1.getD 6 .u)).bind fun n8 =>
 (AV.asI .i64 (c1.getD 7 .u)).bind fun n9 =>
 (AV.asI .i64 (c1.getD 8 .u)).bind fun n10 =>
 (AV.asB (c1.getD 9 .u)).bind fun b11 =>
 (AV.asSl (c1.getD 10 .u)).bind fun l12 =>
 (AV.asSl (c1.getD 11 .u)).bind fun l13 =>
 (AV.asSl (c1.getD 12 .u)).bind fun l14 =>
 let σ15 := σ.bump 1
 let σ16 := σ15.put σ.next (.cells true 76 [(.i .i64 n2), (.i .i64 n3), (.i .i64 n4), (.i .i64 n5), (.i .u64 n6), (.i .i64 n7), (.i .i64 n8), (.i .i64 n9), (.i .i64 n10), (.b b11), (.sl l12.1 l12.2), (.sl l13.1 l13.2), (.sl l14.1 l14.2)])
 (σ16.ld (.n σ.next) 0).bind fun w17 =>
 (AV.asI .i64 w17).bind fun n18 =>
 (bif ((n18 : Int) == 0) then
 (σ16.ld (.n σ.next) 3).bind fun w19 =>
 (AV.asI .i64 w19).bind fun n20 =>
 (k86 [(.p p0), (.i .i64 n20)] σ16).bind fun r21 =>
 (AV.asI .i64 r21.1).bind fun n22 =>
 some ((.i .i64 n22), r21.2)
 else (bif ((n18 : Int) == 4) then
 (σ16.ld (.n σ.next) 12).bind fun w23 =>
 (AV.asSl w23).bind fun l24 =>
 (k57 [(.sl l24.1 l24.2)] σ16).bind fun r25 =>
 (AV.asSl r25.1).bind fun l26 =>
 Option.bind p0 fun q27 =>
 (r25.2.st q27.1 (q27.2 + 1) [(.sl l26.1 l26.2)]).bind fun σ28 =>
 some ((.i .i64 0), σ28)
 else (bif ((n18 : Int) == 5) then
 (σ16.ld (.n σ.next) 12).bind fun w29 =>
 (AV.asSl w29).bind fun l30 =>
 (k57 [(.sl l30.1 l30.2)] σ16).bind fun r31 =>
 (AV.asSl r31.1).bind fun l32 =>
 Option.bind p0 fun q33 =>
 (r31.2.st q33.1 (q33.2 + 2) [(.sl l32.1 l32.2)]).bind fun σ34 =>
 some ((.i .i64 0), σ34)
 else ((bif ((n18 : Int) == 1) then
 some ([(.b ((n18 : Int) == 1))], σ16)
 else ((bif ((n18 : Int) == 2) then
 some ([(.b ((n18 : Int) == 2))], σ16)
 else some ([(.b ((n18 : Int) == 3))], σ16)) : Option (List AV × AH O)).bind fun r35 =>
 (AV.asB (r35.1.getD 0 .u)).bind fun b36 =>
 some ([(.b b36)], r35.2)) : Option (List AV × AH O)).bind fun r37 =>
 (AV.asB (r37.1.getD 0 .u)).bind fun b38 =>
 (bif b38 then
 (r37.2.ld (.n σ.next) 1).bind fun w39 =>
 (AV.asI .i64 w39).bind fun n40 =>
 ((bif ((decide (n40 < 1)) == false) then
 (r37.2.ld (.n σ.next) 1).bind fun w41 =>
 (AV.asI .i64 w41).bind fun n42 =>
 Option.bind p0 fun q43 =>
 (r37.2.ld q43.1 q43.2).bind fun w44 =>
 (AV.asSl w44).bind fun l45 =>
 some ([(.b (decide (n42 > (l45.2 : Int))))], r37.2)
 else some ([(.b true)], r37.2)) : Option (List AV × AH O)).bind fun r46 =>
 (AV.asB (r46.1.getD 0 .u)).bind fun b47 =>
 (bif b47 then
 some ((.i .i64 2), r46.2)
 else Option.bind p0 fun q48 =>
 (r46.2.ld q48.1 q48.2).bind fun w49 =>
 (AV.asSl w49).bind fun l50 =>
 (r46.2.ld (.n σ.next) 1).bind fun w51 =>
 (AV.asI .i64 w51).bind fun n52 =>
 (bif ((decide ((0 : Int) ≤ (IntKind.i64.wrap (n52 - 1)))) && (decide ((IntKind.i64.wrap (n52 - 1)) < (l50.2 : Int)))) then
 (SA.ref l50.1).bind fun q53 =>
 (r46.2.ld (.n σ.next) 0).bind fun w54 =>
 (AV.asI .i64 w54).bind fun n55 =>
 bindS (S := List AV × AH O) (R := (AV × AH O)) ((bif ((n55 : Int) == 1) then
 (r46.2.ld (.n σ.next) 5).bind fun w56 =>
 (AV.asI .i64 w56).bind fun n57 =>
 (r46.2.ld (.n σ.next) 6).bind fun w58 =>
 (AV.asI .i64 w58).bind fun n59 =>
 (r46.2.ld (.n σ.next) 7).bind fun w60 =>
 (AV.asI .i64 w60).bind fun n61 =>
 (r46.2.ld (.n σ.next) 8).bind fun w62 =>
 (AV.asI .i64 w62).bind fun n63 =>
 (r46.2.ld (.n σ.next) 9).bind fun w64 =>
 (AV.asB w64).bind fun b65 =>
 (r46.2.ld (.n σ.next) 10).bind fun w66 =>
 (AV.asSl w66).bind fun l67 =>
 (r46.2.ld (.n σ.next) 11).bind fun w68 =>
 (AV.asSl w68).bind fun l69 =>
 (k85 [(.agg [(.i .i64 n57), (.i .i64 n59), (.i .i64 n61), (.i .i64 n63), (.b b65), (.sl l67.1 l67.2), (.sl l69.1 l69.2)])] r46.2).bind fun r70 =>
 (AV.asAgg 7 r70.1).bind fun c71 =>
 (AV.asI .i64 (c71.getD 0 .u)).bind fun n72 =>
 (AV.asI .i64 (c71.getD 1 .u)).bind fun n73 =>
 (AV.asI .i64 (c71.getD 2 .u)).bind fun n74 =>
 (AV.asI .i64 (c71.getD 3 .u)).bind fun n75 =>
 (AV.asB (c71.getD 4 .u)).bind fun b76 =>
 (AV.asSl (c71.getD 5 .u)).bind fun l77 =>
 (AV.asSl (c71.getD 6 .u)).bind fun l78 =>
 (r70.2.st q53.1 (q53.2 + ((IntKind.i64.wrap (n52 - 1)).toNat * 7)) [(.i .i64 n72), (.i .i64 n73), (.i .i64 n74), (.i .i64 n75), (.b b76), (.sl l77.1 l77.2), (.sl l78.1 l78.2)]).bind fun σ79 =>
 some (Sum.inl ([], σ79))
 else (r46.2.ld (.n σ.next) 2).bind fun w80 =>
 (AV.asI .i64 w80).bind fun n81 =>
 ((bif ((decide (n81 < 0)) == false) then
 (r46.2.ld (.n σ.next) 0).bind fun w82 =>
 (AV.asI .i64 w82).bind fun n83 =>
 ((bif (((n83 : Int) == 2) == true) then
 (r46.2.ld (.n σ.next) 2).bind fun w84 =>
 (AV.asI .i64 w84).bind fun n85 =>
 (r46.2.ld q53.1 ((q53.2 + ((IntKind.i64.wrap (n52 - 1)).toNat * 7)) + 5)).bind fun w86 =>
 (AV.asSl w86).bind fun l87 =>
 some ([(.b (decide (n85 ≥ (l87.2 : Int))))], r46.2)
 else some ([(.b false)], r46.2)) : Option (List AV × AH O)).bind fun r88 =>
 (AV.asB (r88.1.getD 0 .u)).bind fun b89 =>
 some ([(.b b89)], r88.2)
 else some ([(.b true)], r46.2)) : Option (List AV × AH O)).bind fun r90 =>
 (AV.asB (r90.1.getD 0 .u)).bind fun b91 =>
 ((bif (b91 == false) then
 (r90.2.ld (.n σ.next) 0).bind fun w92 =>
 (AV.asI .i64 w92).bind fun n93 =>
 ((bif (((n93 : Int) == 3) == true) then
 (r90.2.ld (.n σ.next) 2).bind fun w94 =>
 (AV.asI .i64 w94).bind fun n95 =>
 (r90.2.ld q53.1 ((q53.2 + ((IntKind.i64.wrap (n52 - 1)).toNat * 7)) + 6)).bind fun w96 =>
 (AV.asSl w96).bind fun l97 =>
 some ([(.b (decide (n95 ≥ (l97.2 : Int))))], r90.2)
 else some ([(.b false)], r90.2)) : Option (List AV × AH O)).bind fun r98 =>
 (AV.asB (r98.1.getD 0 .u)).bind fun b99 =>
 some ([(.b b99)], r98.2)
 else some ([(.b true)], r90.2)) : Option (List AV × AH O)).bind fun r100 =>
 (AV.asB (r100.1.getD 0 .u)).bind fun b101 =>
 (bif b101 then
 ((some ((.i .i64 2), r100.2) : Option (AV × AH O)).map Sum.inr)
 else (r100.2.ld (.n σ.next) 0).bind fun w102 =>
 (AV.asI .i64 w102).bind fun n103 =>
 ((bif ((n103 : Int) == 2) then
 (r100.2.ld q53.1 ((q53.2 + ((IntKind.i64.wrap (n52 - 1)).toNat * 7)) + 5)).bind fun w104 =>
 (AV.asSl w104).bind fun l105 =>
 (r100.2.ld (.n σ.next) 2).bind fun w106 =>
 (AV.asI .i64 w106).bind fun n107 =>
 (r100.2.ld (.n σ.next) 3).bind fun w108 =>
 (AV.asI .i64 w108).bind fun n109 =>
 (bif ((decide ((0 : Int) ≤ n107)) && (decide (n107 < (l105.2 : Int)))) then
 (SA.ref l105.1).bind fun q110 =>
 (r100.2.st q110.1 (q110.2 + (n107.toNat * 1)) [(.i .i64 n109)]).bind fun σ111 =>
 some ([], σ111)
 else none)
 else (r100.2.ld q53.1 ((q53.2 + ((IntKind.i64.wrap (n52 - 1)).toNat * 7)) + 6)).bind fun w112 =>
 (AV.asSl w112).bind fun l113 =>
 (r100.2.ld (.n σ.next) 2).bind fun w114 =>
 (AV.asI .i64 w114).bind fun n115 =>
 (r100.2.ld (.n σ.next) 4).bind fun w116 =>
 (AV.asI .u64 w116).bind fun n117 =>
 (bif ((decide ((0 : Int) ≤ n115)) && (decide (n115 < (l113.2 : Int)))) then
 (SA.ref l113.1).bind fun q118 =>
 (r100.2.st q118.1 (q118.2 + (n115.toNat * 1)) [(.i .u64 n117)]).bind fun σ119 =>
 some ([], σ119)
 else none)) : Option (List AV × AH O)).bind fun r120 =>
 some (Sum.inl ([], r120.2))))) fun r121 =>
 some ((.i .i64 0), r121.2)
 else none))
 else some ((.i .i64 1), r37.2)))))
 else none
noncomputable def diff_one {O : Type} : Sm O := diff_one_c diff_size slices_Clone___int_int_ diff_clone
theorem diff_one_ent : Entered Try.prog 54 := Try.call54
theorem diff_one_run {O : Type} (k86 k57 k85 : Sm O) : run (O := O) Try.prog [(86, k86), (57, k57), (85, k85)] Try.f54 (.n .z (.n (.n .z (.n (.n .z (.n .z (.n .z (.n (.n .z .z) (.n .z (.n (.n .z .z) (.n (.n .z (.j false [(30, .one .b)] .z (.n .z (.j false [(30, .one .b)] .z .z)))) (.n (.n (.d [(3, 8, [(46, .one .b)])] [0, 1, 2, 3, 4, 5, 6, 7, 8, 9, 10, 11, 12] [0, 1, 3, 7, 15, 31, 15, 79, 207, 463, 975, 2047, 4095]) (.n .z .z)) .z)))))))) .z)) (.n (.d [] [0, 1, 2, 3, 4, 5, 6, 7, 8] [0, 1, 3, 7, 0, 16, 48, 127, 255]) (.n (.n (.n .z (.j true [] .z (.n (.d [(3, 13, [(91, .one .b)]), (7, 8, [(90, .one .b)]), (18, 13, [(106, .one .b)]), (22, 8, [(105, .one .b)])] [0, 1, 2, 3, 4, 5, 6, 7, 8, 9, 10, 11, 12, 13, 14, 15, 16, 17, 18, 19, 20, 21, 22, 23, 24, 25, 26, 27, 28, 29, 30, 31, 32, 33] [0, 1, 3, 7, 15, 31, 63, 127, 255, 511, 255, 1279, 3327, 7423, 15615, 32767, 65535, 131071, 262143, 524287, 1048575, 2097151, 4194303, 8388607, 16777215, 8388607, 41943039, 109051903, 243269631, 511705087, 1073741823, 2147483647, 4294967295, 8589934591]) (.n .z (.n .z (.j false [] (.d [] [0, 1, 2, 3, 4, 5, 6, 7, 8, 9] [0, 1, 3, 7, 0, 16, 0, 64, 255, 511]) (.d [] [0, 1, 2, 3, 4, 5, 6, 7, 8, 9] [0, 1, 3, 7, 0, 16, 0, 64, 255, 511]))))))) .z) .z)))) = diff_one_c k86 k57 k85 := by kernel_rfl
theorem diff_one_sound {O : Type} {RO : O → Loc → (Nat → Option Obj) → Prop} : FSound RO Try.prog 54 (diff_one) :=
   have h : FSound RO Try.prog 54 (diff_one_c diff_size slices_Clone___int_int_ diff_clone) := (diff_one_run diff_size slices_Clone___int_int_ diff_clone) ▸ run_sound (gcons diff_size_ent (diff_size_sound) <| gcons slices_Clone___int_int__ent (slices_Clone___int_int__sound) <| gcons diff_clone_ent (diff_clone_sound) <| gnil) mixed Try.func54 (by kernel_rfl) _
   h

/-- haymow/diff.Apply -/
noncomputable def diff_Apply_L1 {O : Type} (l4 : SA × Nat) (k54 : Sm O) (σ7 : AH O) (σ : AH O) : List AV × AH O → Option ((List AV × AH O) ⊕ ((List AV × AH O) ⊕ (AV × AH O))) := (fun r22 =>
 (AV.asI .i64 (r22.1.getD 0 .u)).bind fun n23 =>
 (bif (decide (n23 < (l4.2 : Int))) then
 let σ24 := r22.2.bump 1
 (bif ((decide ((0 : Int) ≤ n23)) && (decide (n23 < (l4.2 : Int)))) then
 (SA.ref l4.1).bind fun q25 =>
 (σ24.ld q25.1 (q25.2 + (n23.toNat * 13))).bind fun w26 =>
 (AV.asI .i64 w26).bind fun n27 =>
 (σ24.ld q25.1 ((q25.2 + (n23.toNat * 13)) + 1)).bind fun w28 =>
 (AV.asI .i64 w28).bind fun n29 =>
 (σ24.ld q25.1 (((q25.2 + (n23.toNat * 13)) + 1) + 1)).bind fun w30 =>
 (AV.asI .i64 w30).bind fun n31 =>
 (σ24.ld q25.1 ((((q25.2 + (n23.toNat * 13)) + 1) + 1) + 1)).bind fun w32 =>
 (AV.asI .i64 w32).bind fun n33 =>
 (σ24.ld q25.1 (((((q25.2 + (n23.toNat * 13)) + 1) + 1) + 1) + 1)).bind fun w34 =>
 (AV.asI .u64 w34).bind fun n35 =>
 (σ24.ld q25.1 ((((((q25.2 + (n23.toNat * 13)) + 1) + 1) + 1) + 1) + 1)).bind fun w36 =>
 (AV.asI .i64 w36).bind fun n37 =>
 (σ24.ld q25.1 (((((((q25.2 + (n23.toNat * 13)) + 1) + 1) + 1) + 1) + 1) + 1)).bind fun w38 =>
 (AV.asI .i64 w38).bind fun n39 =>
 (σ24.ld q25.1 ((((((((q25.2 + (n23.toNat * 13)) + 1) + 1) + 1) + 1) + 1) + 1) + 1)).bind fun w40 =>
 (AV.asI .i64 w40).bind fun n41 =>
 (σ24.ld q25.1 (((((((((q25.2 + (n23.toNat * 13)) + 1) + 1) + 1) + 1) + 1) + 1) + 1) + 1)).bind fun w42 =>
 (AV.asI .i64 w42).bind fun n43 =>
 (σ24.ld q25.1 ((((((((((q25.2 + (n23.toNat * 13)) + 1) + 1) + 1) + 1) + 1) + 1) + 1) + 1) + 1)).bind fun w44 =>
 (AV.asB w44).bind fun b45 =>
 (σ24.ld q25.1 (((((((((((q25.2 + (n23.toNat * 13)) + 1) + 1) + 1) + 1) + 1) + 1) + 1) + 1) + 1) + 1)).bind fun w46 =>
 (AV.asSl w46).bind fun l47 =>
 (σ24.ld q25.1 ((((((((((((q25.2 + (n23.toNat * 13)) + 1) + 1) + 1) + 1) + 1) + 1) + 1) + 1) + 1) + 1) + 1)).bind fun w48 =>
 (AV.asSl w48).bind fun l49 =>
 (σ24.ld q25.1 (((((((((((((q25.2 + (n23.toNat * 13)) + 1) + 1) + 1) + 1) + 1) + 1) + 1) + 1) + 1) + 1) + 1) + 1)).bind fun w50 =>
 (AV.asSl w50).bind fun l51 =>
 let σ52 := σ24.put r22.2.next (.cells true 76 [(.i .i64 0), (.i .i64 0), (.i .i64 0), (.i .i64 0), (.i .u64 0), (.i .i64 0), (.i .i64 0), (.i .i64 0), (.i .i64 0), (.b false), (.sl .nil 0), (.sl .nil 0), (.sl .nil 0)])
 (σ52.st (.n r22.2.next) 0 [(.i .i64 n27), (.i .i64 n29), (.i .i64 n31), (.i .i64 n33), (.i .u64 n35), (.i .i64 n37), (.i .i64 n39), (.i .i64 n41), (.i .i64 n43), (.b b45), (.sl l47.1 l47.2), (.sl l49.1 l49.2), (.sl l51.1 l51.2)]).bind fun σ53 =>
 (σ53.ld (.n r22.2.next) 0).bind fun w54 =>
 (AV.asI .i64 w54).bind fun n55 =>
 (σ53.ld (.n r22.2.next) 1).bind fun w56 =>
 (AV.asI .i64 w56).bind fun n57 =>
 (σ53.ld (.n r22.2.next) 2).bind fun w58 =>
 (AV.asI .i64 w58).bind fun n59 =>
 (σ53.ld (.n r22.2.next) 3).bind fun w60 =>
 (AV.asI .i64 w60).bind fun n61 =>
 (σ53.ld (.n r22.2.next) 4).bind fun w62 =>
 (AV.asI .u64 w62).bind fun n63 =>
 (σ53.ld (.n r22.2.next) 5).bind fun w64 =>
 (AV.asI .i64 w64).bind fun n65 =>
 (σ53.ld (.n r22.2.next) 6).bind fun w66 =>
 (AV.asI .i64 w66).bind fun n67 =>
 (σ53.ld (.n r22.2.next) 7).bind fun w68 =>
 (AV.asI .i64 w68).bind fun n69 =>
 (σ53.ld (.n r22.2.next) 8).bind fun w70 =>
 (AV.asI .i64 w70).bind fun n71 =>
 (σ53.ld (.n r22.2.next) 9).bind fun w72 =>
 (AV.asB w72).bind fun b73 =>
 (σ53.ld (.n r22.2.next) 10).bind fun w74 =>
 (AV.asSl w74).bind fun l75 =>
 (σ53.ld (.n r22.2.next) 11).bind fun w76 =>
 (AV.asSl w76).bind fun l77 =>
 (σ53.ld (.n r22.2.next) 12).bind fun w78 =>
 (AV.asSl w78).bind fun l79 =>
 (k54 [(.p (some ((.n σ7.next), 0))), (.agg [(.i .i64 n55), (.i .i64 n57), (.i .i64 n59), (.i .i64 n61), (.i .u64 n63), (.i .i64 n65), (.i .i64 n67), (.i .i64 n69), (.i .i64 n71), (.b b73), (.sl l75.1 l75.2), (.sl l77.1 l77.2), (.sl l79.1 l79.2)])] σ53).bind fun r80 =>
 (AV.asI .i64 r80.1).bind fun n81 =>
 (bif ((n81 : Int) != 0) then
 (r80.2.st (.n (σ.next + 1)) 0 [(.sl .nil 0), (.sl .nil 0), (.sl .nil 0)]).bind fun σ82 =>
 (((σ82.ld (.n (σ.next + 1)) 0).bind fun w83 =>
 (AV.asSl w83).bind fun l84 =>
 (σ82.ld (.n (σ.next + 1)) 1).bind fun w85 =>
 (AV.asSl w85).bind fun l86 =>
 (σ82.ld (.n (σ.next + 1)) 2).bind fun w87 =>
 (AV.asSl w87).bind fun l88 =>
 some ((.tup [(.agg [(.sl l84.1 l84.2), (.sl l86.1 l86.2), (.sl l88.1 l88.2)]), (.i .i64 n23), (.i .i64 n81)]), σ82) : Option (AV × AH O)).map fun r => Sum.inr (Sum.inr r))
 else some (Sum.inl ([(.i .i64 (IntKind.i64.wrap (n23 + 1)))], r80.2)))
 else none)
 else some (Sum.inr (Sum.inl ([], r22.2)))))
noncomputable def diff_Apply_c {O : Type} (k53 k54 : Sm O) : Sm O := fun xs σ =>
 bif Nat.beq xs.length 2 then
 (AV.asAgg 3 (xs.getD 0 .u)).bind fun c0 =>
 (AV.asSl (c0.getD 0 .u)).bind fun l1 =>
 (AV.asSl (c0.getD 1 .u)).bind fun l2 =>
 (AV.asSl (c0.getD 2 .u)).bind fun l3 =>
 (AV.asSl (xs.getD 1 .u)).bind fun l4 =>
 let σ5 := σ.bump 2
 let σ6 := σ5.put σ.next (.cells true 39 [(.sl l1.1 l1.2), (.sl l2.1 l2.2), (.sl l3.1 l3.2)])
 let σ7 := σ6.put (σ.next + 1) (.cells true 39 [(.sl .nil 0), (.sl .nil 0), (.sl .nil 0)])
 let σ8 := σ7.bump 1
 (σ8.ld (.n σ.next) 0).bind fun w9 =>
 (AV.asSl w9).bind fun l10 =>
 (σ8.ld (.n σ.next) 1).bind fun w11 =>
 (AV.asSl w11).bind fun l12 =>
 (σ8.ld (.n σ.next) 2).bind fun w13 =>
 (AV.asSl w13).bind fun l14 =>
 (k53 [(.agg [(.sl l10.1 l10.2), (.sl l12.1 l12.2), (.sl l14.1 l14.2)])] σ8).bind fun r15 =>
 (AV.asAgg 3 r15.1).bind fun c16 =>
 (AV.asSl (c16.getD 0 .u)).bind fun l17 =>
 (AV.asSl (c16.getD 1 .u)).bind fun l18 =>
 (AV.asSl (c16.getD 2 .u)).bind fun l19 =>
 let σ20 := r15.2.put σ7.next (.cells true 39 [(.sl .nil 0), (.sl .nil 0), (.sl .nil 0)])
 (σ20.st (.n σ7.next) 0 [(.sl l17.1 l17.2), (.sl l18.1 l18.2), (.sl l19.1 l19.2)]).bind fun σ21 =>
 bindS (S := List AV × AH O) (R := (AV × AH O)) (loopF (S := List AV × AH O) (T := (List AV × AH O) ⊕ (AV × AH O)) (diff_Apply_L1 l4 k54 σ7 σ) ([(.i .i64 0)], σ21)) fun r89 =>
 (r89.2.ld (.n σ7.next) 0).bind fun w90 =>
 (AV.asSl w90).bind fun l91 =>
 (r89.2.ld (.n σ7.next) 1).bind fun w92 =>
 (AV.asSl w92).bind fun l93 =>
 (r89.2.ld (.n σ7.next) 2).bind fun w94 =>
 (AV.asSl w94).bind fun l95 =>
 (r89.2.st (.n (σ.next + 1)) 0 [(.sl l91.1 l91.2), (.sl l93.1 l93.2), (.sl l95.1 l95.2)]).bind fun σ96 =>
 (σ96.ld (.n (σ.next + 1)) 0).bind fun w97 =>
 (AV.asSl w97).bind fun l98 =>
 (σ96.ld (.n (σ.next + 1)) 1).bind fun w99 =>
 (AV.asSl w99).bind fun l100 =>
 (σ96.ld (.n (σ.next + 1)) 2).bind fun w101 =>
 (AV.asSl w101).bind fun l102 =>
 some ((.tup [(.agg [(.sl l98.1 l98.2), (.sl l100.1 l100.2), (.sl l102.1 l102.2)]), (.i .i64 0), (.i .i64 0)]), σ96)
 else none
noncomputable def diff_Apply {O : Type} : Sm O := frz (diff_Apply_c diff_copied diff_one)
theorem diff_Apply_ent : Entered Try.prog 26 := Try.call26
theorem diff_Apply_run {O : Type} (k53 k54 : Sm O) : run (O := O) Try.prog [(53, k53), (54, k54)] Try.f26 (.n .z (.n .z (.n (.n .z (.n (.lp true 0 [(15, .one (.i .i64))] [] (.n .z (.n .z (.n (.n (.n .z (.n .z (.n .z (.n .z .z)))) .z) .z)))) .z)) .z))) = diff_Apply_c k53 k54 := by kernel_rfl
theorem diff_Apply_sound {O : Type} {RO : O → Loc → (Nat → Option Obj) → Prop} : FSound RO Try.prog 26 (diff_Apply) :=
   have h : FSound RO Try.prog 26 (diff_Apply_c diff_copied diff_one) := (diff_Apply_run diff_copied diff_one) ▸ run_sound (gcons diff_copied_ent (diff_copied_sound) <| gcons diff_one_ent (diff_one_sound) <| gnil) mixed Try.func26 (by kernel_rfl) _
   h.frz

/-- slices.Equal[[]uint64,uint64] -/
noncomputable def slices_Equal___uint64_uint64__L1 {O : Type} (l0 : SA × Nat) (l1 : SA × Nat) : List AV × AH O → Option ((List AV × AH O) ⊕ ((List AV × AH O) ⊕ (AV × AH O))) := (fun r2 =>
 (AV.asI .i64 (r2.1.getD 0 .u)).bind fun n3 =>
 (bif (decide (n3 < (l0.2 : Int))) then
 (bif ((decide ((0 : Int) ≤ n3)) && (decide (n3 < (l0.2 : Int)))) then
 (SA.ref l0.1).bind fun q4 =>
 (r2.2.ld q4.1 (q4.2 + (n3.toNat * 1))).bind fun w5 =>
 (AV.asI .u64 w5).bind fun n6 =>
 (bif ((decide ((0 : Int) ≤ n3)) && (decide (n3 < (l1.2 : Int)))) then
 (SA.ref l1.1).bind fun q7 =>
 (r2.2.ld q7.1 (q7.2 + (n3.toNat * 1))).bind fun w8 =>
 (AV.asI .u64 w8).bind fun n9 =>
 (bif ((n6 : Int) != n9) then
 ((some ((.b false), r2.2) : Option (AV × AH O)).map fun r => Sum.inr (Sum.inr r))
 else some (Sum.inl ([(.i .i64 (IntKind.i64.wrap (n3 + 1)))], r2.2)))
 else none)
 else none)
 else some (Sum.inr (Sum.inl ([], r2.2)))))
noncomputable def slices_Equal___uint64_uint64__c {O : Type} : Sm O := fun xs σ =>
 bif Nat.beq xs.length 2 then
 (AV.asSl (xs.getD 0 .u)).bind fun l0 =>
 (AV.asSl (xs.getD 1 .u)).bind fun l1 =>
 (bif (((l0.2 : Int) : Int) != (l1.2 : Int)) then
 some ((.b false), σ)
 else bindS (S := List AV × AH O) (R := (AV × AH O)) (loopF (S := List AV × AH O) (T := (List AV × AH O) ⊕ (AV × AH O)) (slices_Equal___uint64_uint64__L1 l0 l1) ([(.i .i64 0)], σ)) fun r10 =>
 some ((.b true), r10.2))
 else none
noncomputable def slices_Equal___uint64_uint64_ {O : Type} : Sm O := slices_Equal___uint64_uint64__c
theorem slices_Equal___uint64_uint64__ent : Entered Try.prog 87 := Try.call87
theorem slices_Equal___uint64_uint64__run {O : Type} : run (O := O) Try.prog [] Try.f87 (.n .z (.n (.n .z (.n .z .z)) (.n (.n .z (.n (.lp true 0 [(13, .one (.i .i64))] [] (.n .z (.n .z (.n (.n (.n .z (.n (.d [] [0, 1, 2, 3, 4, 5, 6, 7, 8] [0, 0, 3, 7, 0, 0, 48, 112, 255]) (.n .z .z))) .z) .z)))) .z)) .z))) = slices_Equal___uint64_uint64__c  := by kernel_rfl
theorem slices_Equal___uint64_uint64__sound {O : Type} {RO : O → Loc → (Nat → Option Obj) → Prop} : FSound RO Try.prog 87 (slices_Equal___uint64_uint64_) :=
   have h : FSound RO Try.prog 87 (slices_Equal___uint64_uint64__c) := (slices_Equal___uint64_uint64__run) ▸ run_sound (gnil) mixed Try.func87 (by kernel_rfl) _
   h

/-- (haymow/canon.Node).same -/
noncomputable def canon_Node__same_c {O : Type} (k56 k87 : Sm O) : Sm O := fun xs σ =>
 bif Nat.beq xs.length 2 then
 (AV.asAgg 7 (xs.getD 0 .u)).bind fun c0 =>
 (AV.asI .i64 (c0.getD 0 .u)).bind fun n1 =>
 (AV.asI .i64 (c0.getD 1 .u)).bind fun n2 =>
 (AV.asI .i64 (c0.getD 2 .u)).bind fun n3 =>
 (AV.asI .i64 (c0.getD 3 .u)).bind fun n4 =>
 (AV.asB (c0.getD 4 .u)).bind fun b5 =>
 (AV.asSl (c0.getD 5 .u)).bind fun l6 =>
 (AV.asSl (c0.getD 6 .u)).bind fun l7 =>
 (AV.asAgg 7 (xs.getD 1 .u)).bind fun c8 =>
 (AV.asI .i64 (c8.getD 0 .u)).bind fun n9 =>
 (AV.asI .i64 (c8.getD 1 .u)).bind fun n10 =>
 (AV.asI .i64 (c8.getD 2 .u)).bind fun n11 =>
 (AV.asI .i64 (c8.getD 3 .u)).bind fun n12 =>
 (AV.asB (c8.getD 4 .u)).bind fun b13 =>
 (AV.asSl (c8.getD 5 .u)).bind fun l14 =>
 (AV.asSl (c8.getD 6 .u)).bind fun l15 =>
 let σ16 := σ.bump 2
 let σ17 := σ16.put σ.next (.cells true 74 [(.i .i64 n1), (.i .i64 n2), (.i .i64 n3), (.i .i64 n4), (.b b5), (.sl l6.1 l6.2), (.sl l7.1 l7.2)])
 let σ18 := σ17.put (σ.next + 1) (.cells true 74 [(.i .i64 n9), (.i .i64 n10), (.i .i64 n11), (.i .i64 n12), (.b b13), (.sl l14.1 l14.2), (.sl l15.1 l15.2)])
 (σ18.ld (.n σ.next) 0).bind fun w19 =>
 (AV.asI .i64 w19).bind fun n20 =>
 (σ18.ld (.n σ.next) 1).bind fun w21 =>
 (AV.asI .i64 w21).bind fun n22 =>
 (σ18.ld (.n σ.next) 2).bind fun w23 =>
 (AV.asI .i64 w23).bind fun n24 =>
 (σ18.ld (.n σ.next) 3).bind fun w25 =>
 (AV.asI .i64 w25).bind fun n26 =>
 (σ18.ld (.n σ.next) 4).bind fun w27 =>
 (AV.asB w27).bind fun b28 =>
 (σ18.ld (.n (σ.next + 1)) 0).bind fun w29 =>
 (AV.asI .i64 w29).bind fun n30 =>
 (σ18.ld (.n (σ.next + 1)) 1).bind fun w31 =>
 (AV.asI .i64 w31).bind fun n32 =>
 (σ18.ld (.n (σ.next + 1)) 2).bind fun w33 =>
 (AV.asI .i64 w33).bind fun n34 =>
 (σ18.ld (.n (σ.next + 1)) 3).bind fun w35 =>
 (AV.asI .i64 w35).bind fun n36 =>
 (σ18.ld (.n (σ.next + 1)) 4).bind fun w37 =>
 (AV.asB w37).bind fun b38 =>
 ((bif (((((n20 : Int) == n30) && (((n22 : Int) == n32) && true)) && (((n24 : Int) == n34) && (((n26 : Int) == n36) && ((b28 == b38) && true)))) == true) then
 (σ18.ld (.n σ.next) 5).bind fun w39 =>
 (AV.asSl w39).bind fun l40 =>
 (σ18.ld (.n (σ.next + 1)) 5).bind fun w41 =>
 (AV.asSl w41).bind fun l42 =>
 (k56 [(.sl l40.1 l40.2), (.sl l42.1 l42.2)] σ18).bind fun r43 =>
 (AV.asB r43.1).bind fun b44 =>
 some ([(.b b44)], r43.2)
 else some ([(.b false)], σ18)) : Option (List AV × AH O)).bind fun r45 =>
 (AV.asB (r45.1.getD 0 .u)).bind fun b46 =>
 ((bif (b46 == true) then
 (r45.2.ld (.n σ.next) 6).bind fun w47 =>
 (AV.asSl w47).bind fun l48 =>
 (r45.2.ld (.n (σ.next + 1)) 6).bind fun w49 =>
 (AV.asSl w49).bind fun l50 =>
 (k87 [(.sl l48.1 l48.2), (.sl l50.1 l50.2)] r45.2).bind fun r51 =>
 (AV.asB r51.1).bind fun b52 =>
 some ([(.b b52)], r51.2)
 else some ([(.b false)], r45.2)) : Option (List AV × AH O)).bind fun r53 =>
 (AV.asB (r53.1.getD 0 .u)).bind fun b54 =>
 some ((.b b54), r53.2)
 else none
noncomputable def canon_Node__same {O : Type} : Sm O := canon_Node__same_c slices_Equal___int_int_ slices_Equal___uint64_uint64_
theorem canon_Node__same_ent : Entered Try.prog 59 := Try.call59
theorem canon_Node__same_run {O : Type} (k56 k87 : Sm O) : run (O := O) Try.prog [(56, k56), (87, k87)] Try.f59 (.n .z (.n (.g [(5, 5, [(16, .one .b)]), (12, 5, [(23, .one .b)])]) .z)) = canon_Node__same_c k56 k87 := by kernel_rfl
theorem canon_Node__same_sound {O : Type} {RO : O → Loc → (Nat → Option Obj) → Prop} : FSound RO Try.prog 59 (canon_Node__same) :=
   have h : FSound RO Try.prog 59 (canon_Node__same_c slices_Equal___int_int_ slices_Equal___uint64_uint64_) := (canon_Node__same_run slices_Equal___int_int_ slices_Equal___uint64_uint64_) ▸ run_sound (gcons slices_Equal___int_int__ent (slices_Equal___int_int__sound) <| gcons slices_Equal___uint64_uint64__ent (slices_Equal___uint64_uint64__sound) <| gnil) mixed Try.func59 (by kernel_rfl) _
   h

/-- slices.EqualFunc[[]haymow/canon.Node,[]haymow/canon.Node,haymow/canon.Node,haymow/canon.Node] -/
noncomputable def slices_EqualFunc_canon_Node__L1 {O : Type} (l0 : SA × Nat) (l1 : SA × Nat) (k59 : Sm O) (f2 : Option (Fn × List AV × List AV)) : List AV × AH O → Option ((List AV × AH O) ⊕ ((List AV × AH O) ⊕ (AV × AH O))) := (fun r3 =>
 (AV.asI .i64 (r3.1.getD 0 .u)).bind fun n4 =>
 (bif (decide (n4 < (l0.2 : Int))) then
 let σ5 := r3.2.bump 1
 (bif ((decide ((0 : Int) ≤ n4)) && (decide (n4 < (l0.2 : Int)))) then
 (SA.ref l0.1).bind fun q6 =>
 (σ5.ld q6.1 (q6.2 + (n4.toNat * 7))).bind fun w7 =>
 (AV.asI .i64 w7).bind fun n8 =>
 (σ5.ld q6.1 ((q6.2 + (n4.toNat * 7)) + 1)).bind fun w9 =>
 (AV.asI .i64 w9).bind fun n10 =>
 (σ5.ld q6.1 (((q6.2 + (n4.toNat * 7)) + 1) + 1)).bind fun w11 =>
 (AV.asI .i64 w11).bind fun n12 =>
 (σ5.ld q6.1 ((((q6.2 + (n4.toNat * 7)) + 1) + 1) + 1)).bind fun w13 =>
 (AV.asI .i64 w13).bind fun n14 =>
 (σ5.ld q6.1 (((((q6.2 + (n4.toNat * 7)) + 1) + 1) + 1) + 1)).bind fun w15 =>
 (AV.asB w15).bind fun b16 =>
 (σ5.ld q6.1 ((((((q6.2 + (n4.toNat * 7)) + 1) + 1) + 1) + 1) + 1)).bind fun w17 =>
 (AV.asSl w17).bind fun l18 =>
 (σ5.ld q6.1 (((((((q6.2 + (n4.toNat * 7)) + 1) + 1) + 1) + 1) + 1) + 1)).bind fun w19 =>
 (AV.asSl w19).bind fun l20 =>
 let σ21 := σ5.put r3.2.next (.cells true 74 [(.i .i64 0), (.i .i64 0), (.i .i64 0), (.i .i64 0), (.b false), (.sl .nil 0), (.sl .nil 0)])
 (σ21.st (.n r3.2.next) 0 [(.i .i64 n8), (.i .i64 n10), (.i .i64 n12), (.i .i64 n14), (.b b16), (.sl l18.1 l18.2), (.sl l20.1 l20.2)]).bind fun σ22 =>
 let σ23 := σ22.bump 1
 (bif ((decide ((0 : Int) ≤ n4)) && (decide (n4 < (l1.2 : Int)))) then
 (SA.ref l1.1).bind fun q24 =>
 (σ23.ld q24.1 (q24.2 + (n4.toNat * 7))).bind fun w25 =>
 (AV.asI .i64 w25).bind fun n26 =>
 (σ23.ld q24.1 ((q24.2 + (n4.toNat * 7)) + 1)).bind fun w27 =>
 (AV.asI .i64 w27).bind fun n28 =>
 (σ23.ld q24.1 (((q24.2 + (n4.toNat * 7)) + 1) + 1)).bind fun w29 =>
 (AV.asI .i64 w29).bind fun n30 =>
 (σ23.ld q24.1 ((((q24.2 + (n4.toNat * 7)) + 1) + 1) + 1)).bind fun w31 =>
 (AV.asI .i64 w31).bind fun n32 =>
 (σ23.ld q24.1 (((((q24.2 + (n4.toNat * 7)) + 1) + 1) + 1) + 1)).bind fun w33 =>
 (AV.asB w33).bind fun b34 =>
 (σ23.ld q24.1 ((((((q24.2 + (n4.toNat * 7)) + 1) + 1) + 1) + 1) + 1)).bind fun w35 =>
 (AV.asSl w35).bind fun l36 =>
 (σ23.ld q24.1 (((((((q24.2 + (n4.toNat * 7)) + 1) + 1) + 1) + 1) + 1) + 1)).bind fun w37 =>
 (AV.asSl w37).bind fun l38 =>
 let σ39 := σ23.put σ22.next (.cells true 74 [(.i .i64 0), (.i .i64 0), (.i .i64 0), (.i .i64 0), (.b false), (.sl .nil 0), (.sl .nil 0)])
 (σ39.st (.n σ22.next) 0 [(.i .i64 n26), (.i .i64 n28), (.i .i64 n30), (.i .i64 n32), (.b b34), (.sl l36.1 l36.2), (.sl l38.1 l38.2)]).bind fun σ40 =>
 (σ40.ld (.n r3.2.next) 0).bind fun w41 =>
 (AV.asI .i64 w41).bind fun n42 =>
 (σ40.ld (.n r3.2.next) 1).bind fun w43 =>
 (AV.asI .i64 w43).bind fun n44 =>
 (σ40.ld (.n r3.2.next) 2).bind fun w45 =>
 (AV.asI .i64 w45).bind fun n46 =>
 (σ40.ld (.n r3.2.next) 3).bind fun w47 =>
 (AV.asI .i64 w47).bind fun n48 =>
 (σ40.ld (.n r3.2.next) 4).bind fun w49 =>
 (AV.asB w49).bind fun b50 =>
 (σ40.ld (.n r3.2.next) 5).bind fun w51 =>
 (AV.asSl w51).bind fun l52 =>
 (σ40.ld (.n r3.2.next) 6).bind fun w53 =>
 (AV.asSl w53).bind fun l54 =>
 (σ40.ld (.n σ22.next) 0).bind fun w55 =>
 (AV.asI .i64 w55).bind fun n56 =>
 (σ40.ld (.n σ22.next) 1).bind fun w57 =>
 (AV.asI .i64 w57).bind fun n58 =>
 (σ40.ld (.n σ22.next) 2).bind fun w59 =>
 (AV.asI .i64 w59).bind fun n60 =>
 (σ40.ld (.n σ22.next) 3).bind fun w61 =>
 (AV.asI .i64 w61).bind fun n62 =>
 (σ40.ld (.n σ22.next) 4).bind fun w63 =>
 (AV.asB w63).bind fun b64 =>
 (σ40.ld (.n σ22.next) 5).bind fun w65 =>
 (AV.asSl w65).bind fun l66 =>
 (σ40.ld (.n σ22.next) 6).bind fun w67 =>
 (AV.asSl w67).bind fun l68 =>
 (callV [(59, k59)] f2 [(.agg [(.i .i64 n42), (.i .i64 n44), (.i .i64 n46), (.i .i64 n48), (.b b50), (.sl l52.1 l52.2), (.sl l54.1 l54.2)]), (.agg [(.i .i64 n56), (.i .i64 n58), (.i .i64 n60), (.i .i64 n62), (.b b64), (.sl l66.1 l66.2), (.sl l68.1 l68.2)])] σ40).bind fun r69 =>
 (AV.asB r69.1).bind fun b70 =>
 (bif (!b70) then
 ((some ((.b false), r69.2) : Option (AV × AH O)).map fun r => Sum.inr (Sum.inr r))
 else some (Sum.inl ([(.i .i64 (IntKind.i64.wrap (n4 + 1)))], r69.2)))
 else none)
 else none)
 else some (Sum.inr (Sum.inl ([], r3.2)))))
noncomputable def slices_EqualFunc_canon_Node__c {O : Type} (k59 : Sm O) : Sm O := fun xs σ =>
 bif Nat.beq xs.length 3 then
 (AV.asSl (xs.getD 0 .u)).bind fun l0 =>
 (AV.asSl (xs.getD 1 .u)).bind fun l1 =>
 (AV.asF (xs.getD 2 .u)).bind fun f2 =>
 (bif (((l0.2 : Int) : Int) != (l1.2 : Int)) then
 some ((.b false), σ)
 else bindS (S := List AV × AH O) (R := (AV × AH O)) (loopF (S := List AV × AH O) (T := (List AV × AH O) ⊕ (AV × AH O)) (slices_EqualFunc_canon_Node__L1 l0 l1 k59 f2) ([(.i .i64 0)], σ)) fun r71 =>
 some ((.b true), r71.2))
 else none
noncomputable def slices_EqualFunc_canon_Node_ {O : Type} : Sm O := slices_EqualFunc_canon_Node__c canon_Node__same
theorem slices_EqualFunc_canon_Node__ent : Entered Try.prog 58 := Try.call58
theorem slices_EqualFunc_canon_Node__run {O : Type} (k59 : Sm O) : run (O := O) Try.prog [(59, k59)] Try.f58 (.n .z (.n (.n .z (.n .z .z)) (.n (.n .z (.n (.lp true 0 [(17, .one (.i .i64))] [] (.n .z (.n .z (.n (.n (.n .z (.n .z (.n .z (.n .z .z)))) .z) .z)))) .z)) .z))) = slices_EqualFunc_canon_Node__c k59 := by kernel_rfl
theorem slices_EqualFunc_canon_Node__sound {O : Type} {RO : O → Loc → (Nat → Option Obj) → Prop} : FSound RO Try.prog 58 (slices_EqualFunc_canon_Node_) :=
   have h : FSound RO Try.prog 58 (slices_EqualFunc_canon_Node__c canon_Node__same) := (slices_EqualFunc_canon_Node__run canon_Node__same) ▸ run_sound (gcons canon_Node__same_ent (canon_Node__same_sound) <| gnil) mixed Try.func58 (by kernel_rfl) _
   h

/-- haymow/canon.Same -/
noncomputable def canon_Same_c {O : Type} (k58 k59 k56 : Sm O) : Sm O := fun xs σ =>
 bif Nat.beq xs.length 2 then
 (AV.asAgg 3 (xs.getD 0 .u)).bind fun c0 =>
 (AV.asSl (c0.getD 0 .u)).bind fun l1 =>
 (AV.asSl (c0.getD 1 .u)).bind fun l2 =>
 (AV.asSl (c0.getD 2 .u)).bind fun l3 =>
 (AV.asAgg 3 (xs.getD 1 .u)).bind fun c4 =>
 (AV.asSl (c4.getD 0 .u)).bind fun l5 =>
 (AV.asSl (c4.getD 1 .u)).bind fun l6 =>
 (AV.asSl (c4.getD 2 .u)).bind fun l7 =>
 let σ8 := σ.bump 2
 let σ9 := σ8.put σ.next (.cells true 39 [(.sl l1.1 l1.2), (.sl l2.1 l2.2), (.sl l3.1 l3.2)])
 let σ10 := σ9.put (σ.next + 1) (.cells true 39 [(.sl l5.1 l5.2), (.sl l6.1 l6.2), (.sl l7.1 l7.2)])
 (σ10.ld (.n σ.next) 0).bind fun w11 =>
 (AV.asSl w11).bind fun l12 =>
 (σ10.ld (.n (σ.next + 1)) 0).bind fun w13 =>
 (AV.asSl w13).bind fun l14 =>
 (k58 [(.sl l12.1 l12.2), (.sl l14.1 l14.2), (.fn (some (.func 59, [], [])))] σ10).bind fun r15 =>
 (AV.asB r15.1).bind fun b16 =>
 ((bif (b16 == true) then
 (r15.2.ld (.n σ.next) 1).bind fun w17 =>
 (AV.asSl w17).bind fun l18 =>
 (r15.2.ld (.n (σ.next + 1)) 1).bind fun w19 =>
 (AV.asSl w19).bind fun l20 =>
 (k56 [(.sl l18.1 l18.2), (.sl l20.1 l20.2)] r15.2).bind fun r21 =>
 (AV.asB r21.1).bind fun b22 =>
 some ([(.b b22)], r21.2)
 else some ([(.b false)], r15.2)) : Option (List AV × AH O)).bind fun r23 =>
 (AV.asB (r23.1.getD 0 .u)).bind fun b24 =>
 ((bif (b24 == true) then
 (r23.2.ld (.n σ.next) 2).bind fun w25 =>
 (AV.asSl w25).bind fun l26 =>
 (r23.2.ld (.n (σ.next + 1)) 2).bind fun w27 =>
 (AV.asSl w27).bind fun l28 =>
 (k56 [(.sl l26.1 l26.2), (.sl l28.1 l28.2)] r23.2).bind fun r29 =>
 (AV.asB r29.1).bind fun b30 =>
 some ([(.b b30)], r29.2)
 else some ([(.b false)], r23.2)) : Option (List AV × AH O)).bind fun r31 =>
 (AV.asB (r31.1.getD 0 .u)).bind fun b32 =>
 some ((.b b32), r31.2)
 else none
noncomputable def canon_Same {O : Type} : Sm O := canon_Same_c slices_EqualFunc_canon_Node_ canon_Node__same slices_Equal___int_int_
theorem canon_Same_ent : Entered Try.prog 28 := Try.call28
theorem canon_Same_run {O : Type} (k58 k59 k56 : Sm O) : run (O := O) Try.prog [(58, k58), (59, k59), (56, k56)] Try.f28 (.n .z (.n (.g [(5, 5, [(16, .one .b)]), (12, 5, [(23, .one .b)])]) .z)) = canon_Same_c k58 k59 k56 := by kernel_rfl
theorem canon_Same_sound {O : Type} {RO : O → Loc → (Nat → Option Obj) → Prop} : FSound RO Try.prog 28 (canon_Same) :=
   have h : FSound RO Try.prog 28 (canon_Same_c slices_EqualFunc_canon_Node_ canon_Node__same slices_Equal___int_int_) := (canon_Same_run slices_EqualFunc_canon_Node_ canon_Node__same slices_Equal___int_int_) ▸ run_sound (gcons slices_EqualFunc_canon_Node__ent (slices_EqualFunc_canon_Node__sound) <| gcons canon_Node__same_ent (canon_Node__same_sound) <| gcons slices_Equal___int_int__ent (slices_Equal___int_int__sound) <| gnil) mixed Try.func28 (by kernel_rfl) _
   h

/-- haymow/haymowlaw47.DiffBack -/
noncomputable def law47_DiffBack_c {O : Type} (k24 k25 k27 k26 k28 : Sm O) : Sm O := fun xs σ =>
 bif Nat.beq xs.length 2 then
 (AV.asAgg 3 (xs.getD 0 .u)).bind fun c0 =>
 (AV.asSl (c0.getD 0 .u)).bind fun l1 =>
 (AV.asSl (c0.getD 1 .u)).bind fun l2 =>
 (AV.asSl (c0.getD 2 .u)).bind fun l3 =>
 (AV.asAgg 3 (xs.getD 1 .u)).bind fun c4 =>
 (AV.asSl (c4.getD 0 .u)).bind fun l5 =>
 (AV.asSl (c4.getD 1 .u)).bind fun l6 =>
 (AV.asSl (c4.getD 2 .u)).bind fun l7 =>
 let σ8 := σ.bump 2
 let σ9 := σ8.put σ.next (.cells true 39 [(.sl l1.1 l1.2), (.sl l2.1 l2.2), (.sl l3.1 l3.2)])
 let σ10 := σ9.put (σ.next + 1) (.cells true 39 [(.sl l5.1 l5.2), (.sl l6.1 l6.2), (.sl l7.1 l7.2)])
 (k24 [] σ10).bind fun r11 =>
 (AV.asB r11.1).bind fun b12 =>
 (bif (!b12) then
 some ((.b false), r11.2)
 else (r11.2.ld (.n σ.next) 0).bind fun w13 =>
 (AV.asSl w13).bind fun l14 =>
 (r11.2.ld (.n σ.next) 1).bind fun w15 =>
 (AV.asSl w15).bind fun l16 =>
 (r11.2.ld (.n σ.next) 2).bind fun w17 =>
 (AV.asSl w17).bind fun l18 =>
 (k25 [(.agg [(.sl l14.1 l14.2), (.sl l16.1 l16.2), (.sl l18.1 l18.2)])] r11.2).bind fun r19 =>
 (AV.asB r19.1).bind fun b20 =>
 ((bif ((!b20) == false) then
 (r19.2.ld (.n (σ.next + 1)) 0).bind fun w21 =>
 (AV.asSl w21).bind fun l22 =>
 (r19.2.ld (.n (σ.next + 1)) 1).bind fun w23 =>
 (AV.asSl w23).bind fun l24 =>
 (r19.2.ld (.n (σ.next + 1)) 2).bind fun w25 =>
 (AV.asSl w25).bind fun l26 =>
 (k25 [(.agg [(.sl l22.1 l22.2), (.sl l24.1 l24.2), (.sl l26.1 l26.2)])] r19.2).bind fun r27 =>
 (AV.asB r27.1).bind fun b28 =>
 some ([(.b (!b28))], r27.2)
 else some ([(.b true)], r19.2)) : Option (List AV × AH O)).bind fun r29 =>
 (AV.asB (r29.1.getD 0 .u)).bind fun b30 =>
 (bif b30 then
 some ((.b true), r29.2)
 else let σ31 := r29.2.bump 1
 (σ31.ld (.n σ.next) 0).bind fun w32 =>
 (AV.asSl w32).bind fun l33 =>
 (σ31.ld (.n σ.next) 1).bind fun w34 =>
 (AV.asSl w34).bind fun l35 =>
 (σ31.ld (.n σ.next) 2).bind fun w36 =>
 (AV.asSl w36).bind fun l37 =>
 (σ31.ld (.n σ.next) 0).bind fun w38 =>
 (AV.asSl w38).bind fun l39 =>
 (σ31.ld (.n σ.next) 1).bind fun w40 =>
 (AV.asSl w40).bind fun l41 =>
 (σ31.ld (.n σ.next) 2).bind fun w42 =>
 (AV.asSl w42).bind fun l43 =>
 (σ31.ld (.n (σ.next + 1)) 0).bind fun w44 =>
 (AV.asSl w44).bind fun l45 =>
 (σ31.ld (.n (σ.next + 1)) 1).bind fun w46 =>
 (AV.asSl w46).bind fun l47 =>
 (σ31.ld (.n (σ.next + 1)) 2).bind fun w48 =>
 (AV.asSl w48).bind fun l49 =>
 (k27 [(.agg [(.sl l39.1 l39.2), (.sl l41.1 l41.2), (.sl l43.1 l43.2)]), (.agg [(.sl l45.1 l45.2), (.sl l47.1 l47.2), (.sl l49.1 l49.2)])] σ31).bind fun r50 =>
 (AV.asSl r50.1).bind fun l51 =>
 (chk (r50.2.ld (.n σ.next) 0 = some (.sl l33.1 l33.2))).bind fun _ =>
 (chk (r50.2.ld (.n σ.next) 1 = some (.sl l35.1 l35.2))).bind fun _ =>
 (chk (r50.2.ld (.n σ.next) 2 = some (.sl l37.1 l37.2))).bind fun _ =>
 (k26 [(.agg [(.sl l33.1 l33.2), (.sl l35.1 l35.2), (.sl l37.1 l37.2)]), (.sl l51.1 l51.2)] r50.2).bind fun r52 =>
 (AV.asTup 3 r52.1).bind fun c53 =>
 (AV.asAgg 3 (c53.getD 0 .u)).bind fun c54 =>
 (AV.asSl (c54.getD 0 .u)).bind fun l55 =>
 (AV.asSl (c54.getD 1 .u)).bind fun l56 =>
 (AV.asSl (c54.getD 2 .u)).bind fun l57 =>
 (AV.asI .i64 (c53.getD 1 .u)).bind fun n58 =>
 (AV.asI .i64 (c53.getD 2 .u)).bind fun n59 =>
 let σ60 := r52.2.put r29.2.next (.cells true 39 [(.sl .nil 0), (.sl .nil 0), (.sl .nil 0)])
 (σ60.st (.n r29.2.next) 0 [(.sl l55.1 l55.2), (.sl l56.1 l56.2), (.sl l57.1 l57.2)]).bind fun σ61 =>
 let σ62 := σ61.bump 1
 (σ62.ld (.n (σ.next + 1)) 0).bind fun w63 =>
 (AV.asSl w63).bind fun l64 =>
 (σ62.ld (.n (σ.next + 1)) 1).bind fun w65 =>
 (AV.asSl w65).bind fun l66 =>
 (σ62.ld (.n (σ.next + 1)) 2).bind fun w67 =>
 (AV.asSl w67).bind fun l68 =>
 (σ62.ld (.n (σ.next + 1)) 0).bind fun w69 =>
 (AV.asSl w69).bind fun l70 =>
 (σ62.ld (.n (σ.next + 1)) 1).bind fun w71 =>
 (AV.asSl w71).bind fun l72 =>
 (σ62.ld (.n (σ.next + 1)) 2).bind fun w73 =>
 (AV.asSl w73).bind fun l74 =>
 (σ62.ld (.n σ.next) 0).bind fun w75 =>
 (AV.asSl w75).bind fun l76 =>
 (σ62.ld (.n σ.next) 1).bind fun w77 =>
 (AV.asSl w77).bind fun l78 =>
 (σ62.ld (.n σ.next) 2).bind fun w79 =>
 (AV.asSl w79).bind fun l80 =>
 (k27 [(.agg [(.sl l70.1 l70.2), (.sl l72.1 l72.2), (.sl l74.1 l74.2)]), (.agg [(.sl l76.1 l76.2), (.sl l78.1 l78.2), (.sl l80.1 l80.2)])] σ62).bind fun r81 =>
 (AV.asSl r81.1).bind fun l82 =>
 (chk (r81.2.ld (.n (σ.next + 1)) 0 = some (.sl l64.1 l64.2))).bind fun _ =>
 (chk (r81.2.ld (.n (σ.next + 1)) 1 = some (.sl l66.1 l66.2))).bind fun _ =>
 (chk (r81.2.ld (.n (σ.next + 1)) 2 = some (.sl l68.1 l68.2))).bind fun _ =>
 (k26 [(.agg [(.sl l64.1 l64.2), (.sl l66.1 l66.2), (.sl l68.1 l68.2)]), (.sl l82.1 l82.2)] r81.2).bind fun r83 =>
 (AV.asTup 3 r83.1).bind fun c84 =>
 (AV.asAgg 3 (c84.getD 0 .u)).bind fun c85 =>
 (AV.asSl (c85.getD 0 .u)).bind fun l86 =>
 (AV.asSl (c85.getD 1 .u)).bind fun l87 =>
 (AV.asSl (c85.getD 2 .u)).bind fun l88 =>
 (AV.asI .i64 (c84.getD 1 .u)).bind fun n89 =>
 (AV.asI .i64 (c84.getD 2 .u)).bind fun n90 =>
 let σ91 := r83.2.put σ61.next (.cells true 39 [(.sl .nil 0), (.sl .nil 0), (.sl .nil 0)])
 (σ91.st (.n σ61.next) 0 [(.sl l86.1 l86.2), (.sl l87.1 l87.2), (.sl l88.1 l88.2)]).bind fun σ92 =>
 ((bif (((n58 : Int) == 0) == true) then
 some ([(.b ((n89 : Int) == 0))], σ92)
 else some ([(.b false)], σ92)) : Option (List AV × AH O)).bind fun r93 =>
 (AV.asB (r93.1.getD 0 .u)).bind fun b94 =>
 ((bif (b94 == true) then
 some ([(.b ((n59 : Int) == 0))], r93.2)
 else some ([(.b false)], r93.2)) : Option (List AV × AH O)).bind fun r95 =>
 (AV.asB (r95.1.getD 0 .u)).bind fun b96 =>
 ((bif (b96 == true) then
 some ([(.b ((n90 : Int) == 0))], r95.2)
 else some ([(.b false)], r95.2)) : Option (List AV × AH O)).bind fun r97 =>
 (AV.asB (r97.1.getD 0 .u)).bind fun b98 =>
 ((bif (b98 == true) then
 (r97.2.ld (.n r29.2.next) 0).bind fun w99 =>
 (AV.asSl w99).bind fun l100 =>
 (r97.2.ld (.n r29.2.next) 1).bind fun w101 =>
 (AV.asSl w101).bind fun l102 =>
 (r97.2.ld (.n r29.2.next) 2).bind fun w103 =>
 (AV.asSl w103).bind fun l104 =>
 (r97.2.ld (.n (σ.next + 1)) 0).bind fun w105 =>
 (AV.asSl w105).bind fun l106 =>
 (r97.2.ld (.n (σ.next + 1)) 1).bind fun w107 =>
 (AV.asSl w107).bind fun l108 =>
 (r97.2.ld (.n (σ.next + 1)) 2).bind fun w109 =>
 (AV.asSl w109).bind fun l110 =>
 (k28 [(.agg [(.sl l100.1 l100.2), (.sl l102.1 l102.2), (.sl l104.1 l104.2)]), (.agg [(.sl l106.1 l106.2), (.sl l108.1 l108.2), (.sl l110.1 l110.2)])] r97.2).bind fun r111 =>
 (AV.asB r111.1).bind fun b112 =>
 some ([(.b b112)], r111.2)
 else some ([(.b false)], r97.2)) : Option (List AV × AH O)).bind fun r113 =>
 (AV.asB (r113.1.getD 0 .u)).bind fun b114 =>
 ((bif (b114 == true) then
 (r113.2.ld (.n σ61.next) 0).bind fun w115 =>
 (AV.asSl w115).bind fun l116 =>
 (r113.2.ld (.n σ61.next) 1).bind fun w117 =>
 (AV.asSl w117).bind fun l118 =>
 (r113.2.ld (.n σ61.next) 2).bind fun w119 =>
 (AV.asSl w119).bind fun l120 =>
 (r113.2.ld (.n σ.next) 0).bind fun w121 =>
 (AV.asSl w121).bind fun l122 =>
 (r113.2.ld (.n σ.next) 1).bind fun w123 =>
 (AV.asSl w123).bind fun l124 =>
 (r113.2.ld (.n σ.next) 2).bind fun w125 =>
 (AV.asSl w125).bind fun l126 =>
 (k28 [(.agg [(.sl l116.1 l116.2), (.sl l118.1 l118.2), (.sl l120.1 l120.2)]), (.agg [(.sl l122.1 l122.2), (.sl l124.1 l124.2), (.sl l126.1 l126.2)])] r113.2).bind fun r127 =>
 (AV.asB r127.1).bind fun b128 =>
 some ([(.b b128)], r127.2)
 else some ([(.b false)], r113.2)) : Option (List AV × AH O)).bind fun r129 =>
 (AV.asB (r129.1.getD 0 .u)).bind fun b130 =>
 ((bif (b130 == true) then
 (r129.2.ld (.n r29.2.next) 0).bind fun w131 =>
 (AV.asSl w131).bind fun l132 =>
 (r129.2.ld (.n r29.2.next) 1).bind fun w133 =>
 (AV.asSl w133).bind fun l134 =>
 (r129.2.ld (.n r29.2.next) 2).bind fun w135 =>
 (AV.asSl w135).bind fun l136 =>
 (r129.2.ld (.n (σ.next + 1)) 0).bind fun w137 =>
 (AV.asSl w137).bind fun l138 =>
 (r129.2.ld (.n (σ.next + 1)) 1).bind fun w139 =>
 (AV.asSl w139).bind fun l140 =>
 (r129.2.ld (.n (σ.next + 1)) 2).bind fun w141 =>
 (AV.asSl w141).bind fun l142 =>
 (k27 [(.agg [(.sl l132.1 l132.2), (.sl l134.1 l134.2), (.sl l136.1 l136.2)]), (.agg [(.sl l138.1 l138.2), (.sl l140.1 l140.2), (.sl l142.1 l142.2)])] r129.2).bind fun r143 =>
 (AV.asSl r143.1).bind fun l144 =>
 some ([(.b (((l144.2 : Int) : Int) == 0))], r143.2)
 else some ([(.b false)], r129.2)) : Option (List AV × AH O)).bind fun r145 =>
 (AV.asB (r145.1.getD 0 .u)).bind fun b146 =>
 ((bif (b146 == true) then
 (r145.2.ld (.n σ.next) 0).bind fun w147 =>
 (AV.asSl w147).bind fun l148 =>
 (r145.2.ld (.n σ.next) 1).bind fun w149 =>
 (AV.asSl w149).bind fun l150 =>
 (r145.2.ld (.n σ.next) 2).bind fun w151 =>
 (AV.asSl w151).bind fun l152 =>
 (r145.2.ld (.n σ.next) 0).bind fun w153 =>
 (AV.asSl w153).bind fun l154 =>
 (r145.2.ld (.n σ.next) 1).bind fun w155 =>
 (AV.asSl w155).bind fun l156 =>
 (r145.2.ld (.n σ.next) 2).bind fun w157 =>
 (AV.asSl w157).bind fun l158 =>
 (k27 [(.agg [(.sl l148.1 l148.2), (.sl l150.1 l150.2), (.sl l152.1 l152.2)]), (.agg [(.sl l154.1 l154.2), (.sl l156.1 l156.2), (.sl l158.1 l158.2)])] r145.2).bind fun r159 =>
 (AV.asSl r159.1).bind fun l160 =>
 some ([(.b (((l160.2 : Int) : Int) == 0))], r159.2)
 else some ([(.b false)], r145.2)) : Option (List AV × AH O)).bind fun r161 =>
 (AV.asB (r161.1.getD 0 .u)).bind fun b162 =>
 ((bif (b162 == true) then
 (r161.2.ld (.n σ.next) 0).bind fun w163 =>
 (AV.asSl w163).bind fun l164 =>
 (r161.2.ld (.n σ.next) 1).bind fun w165 =>
 (AV.asSl w165).bind fun l166 =>
 (r161.2.ld (.n σ.next) 2).bind fun w167 =>
 (AV.asSl w167).bind fun l168 =>
 (r161.2.ld (.n (σ.next + 1)) 0).bind fun w169 =>
 (AV.asSl w169).bind fun l170 =>
 (r161.2.ld (.n (σ.next + 1)) 1).bind fun w171 =>
 (AV.asSl w171).bind fun l172 =>
 (r161.2.ld (.n (σ.next + 1)) 2).bind fun w173 =>
 (AV.asSl w173).bind fun l174 =>
 (r161.2.ld (.n σ.next) 0).bind fun w175 =>
 (AV.asSl w175).bind fun l176 =>
 (r161.2.ld (.n σ.next) 1).bind fun w177 =>
 (AV.asSl w177).bind fun l178 =>
 (r161.2.ld (.n σ.next) 2).bind fun w179 =>
 (AV.asSl w179).bind fun l180 =>
 (r161.2.ld (.n (σ.next + 1)) 0).bind fun w181 =>
 (AV.asSl w181).bind fun l182 =>
 (r161.2.ld (.n (σ.next + 1)) 1).bind fun w183 =>
 (AV.asSl w183).bind fun l184 =>
 (r161.2.ld (.n (σ.next + 1)) 2).bind fun w185 =>
 (AV.asSl w185).bind fun l186 =>
 (k27 [(.agg [(.sl l164.1 l164.2), (.sl l166.1 l166.2), (.sl l168.1 l168.2)]), (.agg [(.sl l170.1 l170.2), (.sl l172.1 l172.2), (.sl l174.1 l174.2)])] r161.2).bind fun r187 =>
 (AV.asSl r187.1).bind fun l188 =>
 (chk (r187.2.ld (.n σ.next) 0 = some (.sl l176.1 l176.2))).bind fun _ =>
 (chk (r187.2.ld (.n σ.next) 1 = some (.sl l178.1 l178.2))).bind fun _ =>
 (chk (r187.2.ld (.n σ.next) 2 = some (.sl l180.1 l180.2))).bind fun _ =>
 (chk (r187.2.ld (.n (σ.next + 1)) 0 = some (.sl l182.1 l182.2))).bind fun _ =>
 (chk (r187.2.ld (.n (σ.next + 1)) 1 = some (.sl l184.1 l184.2))).bind fun _ =>
 (chk (r187.2.ld (.n (σ.next + 1)) 2 = some (.sl l186.1 l186.2))).bind fun _ =>
 (k28 [(.agg [(.sl l176.1 l176.2), (.sl l178.1 l178.2), (.sl l180.1 l180.2)]), (.agg [(.sl l182.1 l182.2), (.sl l184.1 l184.2), (.sl l186.1 l186.2)])] r187.2).bind fun r189 =>
 (AV.asB r189.1).bind fun b190 =>
 some ([(.b ((((l188.2 : Int) : Int) == 0) == b190))], r189.2)
 else some ([(.b false)], r161.2)) : Option (List AV × AH O)).bind fun r191 =>
 (AV.asB (r191.1.getD 0 .u)).bind fun b192 =>
 some ((.b b192), r191.2)))
 else none
noncomputable def law47_DiffBack {O : Type} : Sm O := law47_DiffBack_c law47_awake law47_few diff_Of diff_Apply canon_Same
theorem law47_DiffBack_ent : Entered Try.prog 5 := Try.call5
theorem law47_DiffBack_run {O : Type} (k24 k25 k27 k26 k28 : Sm O) : run (O := O) Try.prog [(24, k24), (25, k25), (27, k27), (26, k26), (28, k28)] Try.f5 (.n .z (.n (.n .z (.n .z .z)) (.n (.n (.g [(3, 3, [(20, .one .b)])]) (.n .z .z)) (.n (.d [] [0, 1, 2, 3, 4, 5, 6, 7, 8, 9, 10, 11, 12] [0, 0, 0, 6, 15, 31, 63, 63, 63, 0, 639, 1791, 4095]) (.n (.d [] [0, 1, 2, 3, 4, 5, 6, 7, 8, 9, 10, 11, 12] [0, 0, 0, 6, 15, 31, 63, 63, 63, 0, 639, 1791, 4095]) (.n (.d [(2, 2, [(44, .one .b)]), (6, 2, [(48, .one .b)]), (10, 2, [(52, .one .b)]), (14, 3, [(57, .one .b)]), (19, 3, [(62, .one .b)]), (24, 5, [(69, .one .b)]), (31, 5, [(76, .one .b)]), (38, 9, [(87, .one .b)])] [0, 1, 2, 3, 4, 5, 6, 7, 8, 9, 10, 11, 12, 13, 14, 15, 16, 17, 18, 19, 20, 21, 22, 23, 24, 25, 26, 27, 28, 29, 30, 31, 32, 33, 34, 35, 36, 37, 38, 39, 40, 44, 45, 41, 42, 43, 46, 47, 48, 49] [0, 1, 3, 7, 15, 31, 63, 127, 255, 511, 1023, 2047, 4095, 8191, 16383, 32767, 32767, 131071, 262143, 524287, 1048575, 1048575, 4194303, 8388607, 16777215, 33554431, 33554431, 134217727, 268435455, 536870911, 1073741823, 2147483647, 4294967295, 4294967295, 17179869183, 34359738367, 68719476735, 137438953471, 274877906943, 549755813887, 549755813887, 2199023255551, 4398046511103, 8796093022207, 549755813887, 549755813887, 57174604644351, 140737488355327, 281474976710655, 562949953421311]) .z)))))) = law47_DiffBack_c k24 k25 k27 k26 k28 := by kernel_rfl
theorem law47_DiffBack_sound {O : Type} {RO : O → Loc → (Nat → Option Obj) → Prop} : FSound RO Try.prog 5 (law47_DiffBack) :=
   have h : FSound RO Try.prog 5 (law47_DiffBack_c law47_awake law47_few diff_Of diff_Apply canon_Same) := (law47_DiffBack_run law47_awake law47_few diff_Of diff_Apply canon_Same) ▸ run_sound (gcons law47_awake_ent (law47_awake_sound) <| gcons law47_few_ent (law47_few_sound) <| gcons diff_Of_ent (diff_Of_sound) <| gcons diff_Apply_ent (diff_Apply_sound) <| gcons canon_Same_ent (canon_Same_sound) <| gnil) mixed Try.func5 (by kernel_rfl) _
   h

end Go.Abs.Try
