/-
  What the functions of the program do, each as a function of Lean, and that it does so. No conditions.
-/
import Derived.Test.YteklninbijohcaaAbsExtern
import Derived.Test.YteklninbijohcaaProg
import Derived.KernelRfl
set_option linter.unusedVariables false
set_option linter.unusedSimpArgs false
set_option linter.constructorNameAsVariable false
set_option maxRecDepth 100000
namespace Go.Abs.Try
open Go Go.Abs Go.Proofs

theorem mixed : Try.prog.follows .mixedOrders = true := by kernel_rfl
abbrev T_int64 : Nat := 2
abbrev T_int : Nat := 3
abbrev T_bool : Nat := 4
abbrev T_uint8 : Nat := 5
abbrev T_abi_BoundsErrorCode : Nat := 6
abbrev T_runtime_boundsError : Nat := 8
abbrev T_string : Nat := 9
abbrev T_runtime_errorString : Nat := 10
abbrev T_runtime_plainError : Nat := 11
abbrev T_uintptr : Nat := 12
abbrev T_runtime_errorAddressString : Nat := 14
abbrev T_maps_unhashableTypeError : Nat := 19
abbrev T_int32 : Nat := 21
abbrev T_uint64 : Nat := 22
abbrev T_canon_Form : Nat := 39
abbrev T_api_Errno : Nat := 41
abbrev T_haymowref40_Form : Nat := 52
abbrev T_diff_Kind : Nat := 67
abbrev T_api_Shape : Nat := 69
abbrev T_api_Header : Nat := 71
abbrev T_canon_Node : Nat := 74
abbrev T_diff_Change : Nat := 76
abbrev T_haymowref40_Node : Nat := 78
abbrev T_haymowref47_Change : Nat := 80
abbrev T_load_Dice : Nat := 89
abbrev T_uint : Nat := 90
abbrev T_load_maker : Nat := 95
abbrev T_record_Kind : Nat := 97
abbrev T_image_reader : Nat := 114
abbrev T_field_Field : Nat := 168
abbrev T_slices_sortedHint : Nat := 179
abbrev T_uint32 : Nat := 186
abbrev T_slices_xorshift : Nat := 196
abbrev T_runtime_TypeAssertionError : Nat := 206
abbrev T_runtime_PanicNilError : Nat := 209
abbrev T_abi_TFlag : Nat := 210
abbrev T_abi_Kind : Nat := 211
abbrev T_abi_NameOff : Nat := 214
abbrev T_abi_TypeOff : Nat := 215
abbrev T_abi_Type : Nat := 217
/-- (*haymow/load.maker).add -/
noncomputable def load_maker__add_c {O : Type} : Sm O := fun xs σ =>
 bif Nat.beq xs.length 3 then
 (AV.asP (xs.getD 0 .u)).bind fun p0 =>
 (AV.asI .i64 (xs.getD 1 .u)).bind fun n1 =>
 (AV.asSl (xs.getD 2 .u)).bind fun l2 =>
 let σ3 := σ.bump 4
 Option.bind p0 fun q4 =>
 (σ3.ld q4.1 q4.2).bind fun w5 =>
 (AV.asSl w5).bind fun l6 =>
 let σ7 := σ3.put σ.next (.cells true 3 [(.i .i64 n1)])
 (σ7.rdSl l2.1 l2.2 1).bind fun new8 =>
 (bif (Nat.ble ((1 + l2.2) * 9) 35184372088832) then
 (σ7.appSl (σ.next + 1) 3 1 (.loc (.n σ.next) 0 1) 1 l2.2 new8).bind fun r9 =>
 (AV.asSl r9.1).bind fun l10 =>
 (chk (r9.2.ld q4.1 q4.2 = some (.sl l6.1 l6.2))).bind fun _ =>
 let σ11 := r9.2.put ((σ.next + 1) + 1) (.cells true 24 [(.sl l10.1 l10.2)])
 (σ11.rdSl (.loc (.n ((σ.next + 1) + 1)) 0 1) 1 1).bind fun new12 =>
 (bif (Nat.ble ((l6.2 + 1) * 25) 35184372088832) then
 (σ11.appSl (((σ.next + 1) + 1) + 1) 24 1 l6.1 l6.2 1 new12).bind fun r13 =>
 (AV.asSl r13.1).bind fun l14 =>
 Option.bind p0 fun q15 =>
 (r13.2.st q15.1 q15.2 [(.sl l14.1 l14.2)]).bind fun σ16 =>
 some ((.tup []), σ16)
 else none)
 else none)
 else none
noncomputable def load_maker__add {O : Type} : Sm O := load_maker__add_c
theorem load_maker__add_ent : Entered Try.prog 48 := Try.call48
theorem load_maker__add_run {O : Type} : run (O := O) Try.prog [] Try.f48 (.d [] [0, 1, 2, 3, 4, 5, 7, 6, 8, 9, 10, 11, 12, 13] [0, 0, 2, 6, 14, 0, 32, 0, 224, 480, 1022, 2047, 4095, 8191]) = load_maker__add_c  := by kernel_rfl
theorem load_maker__add_sound {O : Type} {RO : O → Loc → (Nat → Option Obj) → Prop} : FSound RO Try.prog 48 (load_maker__add) :=
   have h : FSound RO Try.prog 48 (load_maker__add_c) := (load_maker__add_run) ▸ run_sound (gnil) mixed Try.func48 (by kernel_rfl) _
   h

/-- haymow/load.List -/
noncomputable def load_List_L1 {O : Type} (n0 : Int) (n1 : Int) (k48 : Sm O) (r2 : List AV × AH O) : List AV × AH O → Option ((List AV × AH O) ⊕ (List AV × AH O)) := (fun r10 =>
 (AV.asI .i64 (r10.1.getD 0 .u)).bind fun n11 =>
 (bif (decide (n11 < n0)) then
 let σ12 := r10.2.bump 1
 let σ13 := σ12.put r10.2.next (.cells true 3 [(.i .i64 1), (.i .i64 1), (.i .i64 1), (.i .i64 n1)])
 (k48 [(.p (some ((.n r2.2.next), 0))), (.i .i64 0), (.sl (.loc (.n r10.2.next) 0 1) 4)] σ13).bind fun r14 =>
 (AV.asTup 0 r14.1).bind fun c15 =>
 let σ16 := r14.2.bump 1
 let σ17 := σ16.put r14.2.next (.cells true 3 [(.i .i64 1), (.i .i64 0), (.i .i64 n11)])
 (k48 [(.p (some ((.n r2.2.next), 0))), (.i .i64 13), (.sl (.loc (.n r14.2.next) 0 1) 3)] σ17).bind fun r18 =>
 (AV.asTup 0 r18.1).bind fun c19 =>
 let σ20 := r18.2.bump 1
 let σ21 := σ20.put r18.2.next (.cells true 3 [(.i .i64 1), (.i .i64 0), (.i .i64 0)])
 (k48 [(.p (some ((.n r2.2.next), 0))), (.i .i64 11), (.sl (.loc (.n r18.2.next) 0 1) 3)] σ21).bind fun r22 =>
 (AV.asTup 0 r22.1).bind fun c23 =>
 let σ24 := r22.2.bump 1
 let σ25 := σ24.put r22.2.next (.cells true 3 [(.i .i64 0), (.i .i64 1)])
 (k48 [(.p (some ((.n r2.2.next), 0))), (.i .i64 8), (.sl (.loc (.n r22.2.next) 0 1) 2)] σ25).bind fun r26 =>
 (AV.asTup 0 r26.1).bind fun c27 =>
 some (Sum.inl ([(.i .i64 (IntKind.i64.wrap (n11 + 1)))], r26.2))
 else some (Sum.inr ([], r10.2))))
noncomputable def load_List_c {O : Type} (k48 : Sm O) : Sm O := fun xs σ =>
 bif Nat.beq xs.length 2 then
 (AV.asI .i64 (xs.getD 0 .u)).bind fun n0 =>
 (AV.asI .i64 (xs.getD 1 .u)).bind fun n1 =>
 ((bif ((decide (n0 < 0)) == false) then
 some ([(.b (decide (n0 > 200)))], σ)
 else some ([(.b true)], σ)) : Option (List AV × AH O)).bind fun r2 =>
 (AV.asB (r2.1.getD 0 .u)).bind fun b3 =>
 (bif b3 then
 some ((.sl .nil 0), r2.2)
 else let σ4 := r2.2.bump 1
 let σ5 := σ4.put r2.2.next (.cells true 95 [(.sl .nil 0)])
 (k48 [(.p (some ((.n r2.2.next), 0))), (.i .i64 1), (.sl .nil 0)] σ5).bind fun r6 =>
 (AV.asTup 0 r6.1).bind fun c7 =>
 (k48 [(.p (some ((.n r2.2.next), 0))), (.i .i64 1), (.sl .nil 0)] r6.2).bind fun r8 =>
 (AV.asTup 0 r8.1).bind fun c9 =>
 (loopF (S := List AV × AH O) (T := List AV × AH O) (load_List_L1 n0 n1 k48 r2) ([(.i .i64 0)], r8.2)).bind fun r28 =>
 let σ29 := r28.2.bump 1
 let σ30 := σ29.put r28.2.next (.cells true 3 [(.i .i64 1)])
 (k48 [(.p (some ((.n r2.2.next), 0))), (.i .i64 2), (.sl (.loc (.n r28.2.next) 0 1) 1)] σ30).bind fun r31 =>
 (AV.asTup 0 r31.1).bind fun c32 =>
 (r31.2.ld (.n r2.2.next) 0).bind fun w33 =>
 (AV.asSl w33).bind fun l34 =>
 some ((.sl l34.1 l34.2), r31.2))
 else none
noncomputable def load_List {O : Type} : Sm O := frz (load_List_c load_maker__add)
theorem load_List_ent : Entered Try.prog 18 := Try.call18
theorem load_List_run {O : Type} (k48 : Sm O) : run (O := O) Try.prog [(48, k48)] Try.f18 (.n .z (.n (.n (.g [(2, 2, [(12, .one .b)])]) (.n .z .z)) (.n .z (.n .z (.n .z (.n (.n .z (.n (.lp false 0 [(20, .one (.i .i64))] [] (.n .z (.n .z (.n (.n (.n .z (.n .z (.n .z .z))) .z) .z)))) .z)) (.n .z .z))))))) = load_List_c k48 := by kernel_rfl
theorem load_List_sound {O : Type} {RO : O → Loc → (Nat → Option Obj) → Prop} : FSound RO Try.prog 18 (load_List) :=
   have h : FSound RO Try.prog 18 (load_List_c load_maker__add) := (load_List_run load_maker__add) ▸ run_sound (gcons load_maker__add_ent (load_maker__add_sound) <| gnil) mixed Try.func18 (by kernel_rfl) _
   h.frz

/-- haymow/haymowref02.Same -/
noncomputable def haymowref02_Same_L1 {O : Type} (l0 : SA × Nat) (l1 : SA × Nat) : List AV × AH O → Option ((List AV × AH O) ⊕ ((List AV × AH O) ⊕ (AV × AH O))) := (fun r2 =>
 (AV.asI .i64 (r2.1.getD 0 .u)).bind fun n3 =>
 (bif (decide (n3 < (l0.2 : Int))) then
 (bif ((decide ((0 : Int) ≤ n3)) && (decide (n3 < (l0.2 : Int)))) then
 (SA.ref l0.1).bind fun q4 =>
 (r2.2.ld q4.1 (q4.2 + (n3.toNat * 1))).bind fun w5 =>
 (AV.asI .i64 w5).bind fun n6 =>
 (bif ((decide ((0 : Int) ≤ n3)) && (decide (n3 < (l1.2 : Int)))) then
 (SA.ref l1.1).bind fun q7 =>
 (r2.2.ld q7.1 (q7.2 + (n3.toNat * 1))).bind fun w8 =>
 (AV.asI .i64 w8).bind fun n9 =>
 (bif ((n6 : Int) != n9) then
 ((some ((.b false), r2.2) : Option (AV × AH O)).map fun r => Sum.inr (Sum.inr r))
 else some (Sum.inl ([(.i .i64 (IntKind.i64.wrap (n3 + 1)))], r2.2)))
 else none)
 else none)
 else some (Sum.inr (Sum.inl ([], r2.2)))))
noncomputable def haymowref02_Same_c {O : Type} : Sm O := fun xs σ =>
 bif Nat.beq xs.length 2 then
 (AV.asSl (xs.getD 0 .u)).bind fun l0 =>
 (AV.asSl (xs.getD 1 .u)).bind fun l1 =>
 (bif (((l0.2 : Int) : Int) != (l1.2 : Int)) then
 some ((.b false), σ)
 else bindS (S := List AV × AH O) (R := (AV × AH O)) (loopF (S := List AV × AH O) (T := (List AV × AH O) ⊕ (AV × AH O)) (haymowref02_Same_L1 l0 l1) ([(.i .i64 0)], σ)) fun r10 =>
 some ((.b true), r10.2))
 else none
noncomputable def haymowref02_Same {O : Type} : Sm O := haymowref02_Same_c
theorem haymowref02_Same_ent : Entered Try.prog 42 := Try.call42
theorem haymowref02_Same_run {O : Type} : run (O := O) Try.prog [] Try.f42 (.n .z (.n (.n .z (.n .z .z)) (.n (.n .z (.n (.lp true 0 [(5, .one (.i .i64))] [] (.n (.n .z .z) (.n (.n (.n (.d [] [0, 1, 2, 3, 4, 5, 6, 7, 8] [0, 0, 3, 7, 0, 0, 48, 112, 255]) (.n .z .z)) .z) .z))) .z)) .z))) = haymowref02_Same_c  := by kernel_rfl
theorem haymowref02_Same_sound {O : Type} {RO : O → Loc → (Nat → Option Obj) → Prop} : FSound RO Try.prog 42 (haymowref02_Same) :=
   have h : FSound RO Try.prog 42 (haymowref02_Same_c) := (haymowref02_Same_run) ▸ run_sound (gnil) mixed Try.func42 (by kernel_rfl) _
   h

/-- haymow/haymowlaw44.same -/
noncomputable def law44_same_L1 {O : Type} (l0 : SA × Nat) (l1 : SA × Nat) (k42 : Sm O) : List AV × AH O → Option ((List AV × AH O) ⊕ ((List AV × AH O) ⊕ (AV × AH O))) := (fun r2 =>
 (AV.asI .i64 (r2.1.getD 0 .u)).bind fun n3 =>
 (bif (decide (n3 < (l0.2 : Int))) then
 (bif ((decide ((0 : Int) ≤ n3)) && (decide (n3 < (l0.2 : Int)))) then
 (SA.ref l0.1).bind fun q4 =>
 (r2.2.ld q4.1 (q4.2 + (n3.toNat * 1))).bind fun w5 =>
 (AV.asSl w5).bind fun l6 =>
 (bif ((decide ((0 : Int) ≤ n3)) && (decide (n3 < (l1.2 : Int)))) then
 (SA.ref l1.1).bind fun q7 =>
 (r2.2.ld q7.1 (q7.2 + (n3.toNat * 1))).bind fun w8 =>
 (AV.asSl w8).bind fun l9 =>
 (k42 [(.sl l6.1 l6.2), (.sl l9.1 l9.2)] r2.2).bind fun r10 =>
 (AV.asB r10.1).bind fun b11 =>
 (bif (!b11) then
 ((some ((.b false), r10.2) : Option (AV × AH O)).map fun r => Sum.inr (Sum.inr r))
 else some (Sum.inl ([(.i .i64 (IntKind.i64.wrap (n3 + 1)))], r10.2)))
 else none)
 else none)
 else some (Sum.inr (Sum.inl ([], r2.2)))))
noncomputable def law44_same_c {O : Type} (k42 : Sm O) : Sm O := fun xs σ =>
 bif Nat.beq xs.length 2 then
 (AV.asSl (xs.getD 0 .u)).bind fun l0 =>
 (AV.asSl (xs.getD 1 .u)).bind fun l1 =>
 (bif (((l0.2 : Int) : Int) != (l1.2 : Int)) then
 some ((.b false), σ)
 else bindS (S := List AV × AH O) (R := (AV × AH O)) (loopF (S := List AV × AH O) (T := (List AV × AH O) ⊕ (AV × AH O)) (law44_same_L1 l0 l1 k42) ([(.i .i64 0)], σ)) fun r12 =>
 some ((.b true), r12.2))
 else none
noncomputable def law44_same {O : Type} : Sm O := law44_same_c haymowref02_Same
theorem law44_same_ent : Entered Try.prog 16 := Try.call16
theorem law44_same_run {O : Type} (k42 : Sm O) : run (O := O) Try.prog [(42, k42)] Try.f16 (.n .z (.n (.n .z (.n .z .z)) (.n (.n .z (.n (.lp true 0 [(5, .one (.i .i64))] [] (.n (.n .z .z) (.n (.n (.n (.d [] [0, 1, 2, 3, 4, 5, 6, 7, 8, 9] [0, 0, 3, 7, 0, 0, 48, 112, 255, 511]) (.n .z .z)) .z) .z))) .z)) .z))) = law44_same_c k42 := by kernel_rfl
theorem law44_same_sound {O : Type} {RO : O → Loc → (Nat → Option Obj) → Prop} : FSound RO Try.prog 16 (law44_same) :=
   have h : FSound RO Try.prog 16 (law44_same_c haymowref02_Same) := (law44_same_run haymowref02_Same) ▸ run_sound (gcons haymowref02_Same_ent (haymowref02_Same_sound) <| gnil) mixed Try.func16 (by kernel_rfl) _
   h

/-- haymow/haymowlaw44.awake -/
noncomputable def law44_awake_c {O : Type} (k18 k16 : Sm O) : Sm O := fun xs σ =>
 bif Nat.beq xs.length 0 then
 let σ0 := σ.bump 4
 (k18 [(.i .i64 0), (.i .i64 3)] σ0).bind fun r1 =>
 (AV.asSl r1.1).bind fun l2 =>
 let σ3 := r1.2.put σ.next (.cells true 3 [(.i .i64 1)])
 let σ4 := σ3.put (σ.next + 1) (.cells true 3 [(.i .i64 1)])
 let σ5 := σ4.put ((σ.next + 1) + 1) (.cells true 3 [(.i .i64 2), (.i .i64 1)])
 let σ6 := σ5.put (((σ.next + 1) + 1) + 1) (.cells true 24 [(.sl (.loc (.n σ.next) 0 1) 1), (.sl (.loc (.n (σ.next + 1)) 0 1) 1), (.sl (.loc (.n ((σ.next + 1) + 1)) 0 1) 2)])
 (k16 [(.sl l2.1 l2.2), (.sl (.loc (.n (((σ.next + 1) + 1) + 1)) 0 1) 3)] σ6).bind fun r7 =>
 (AV.asB r7.1).bind fun b8 =>
 let c9 : Bool := (bif (bif b8 then true else false) then true else false)
 some ((.b c9), r7.2)
 else none
noncomputable def law44_awake {O : Type} : Sm O := law44_awake_c load_List law44_same
theorem law44_awake_ent : Entered Try.prog 10 := Try.call10
theorem law44_awake_run {O : Type} (k18 k16 : Sm O) : run (O := O) Try.prog [(18, k18), (16, k16)] Try.f10 (.n .z .z) = law44_awake_c k18 k16 := by kernel_rfl
theorem law44_awake_sound {O : Type} {RO : O → Loc → (Nat → Option Obj) → Prop} : FSound RO Try.prog 10 (law44_awake) :=
   have h : FSound RO Try.prog 10 (law44_awake_c load_List law44_same) := (law44_awake_run load_List law44_same) ▸ run_sound (gcons load_List_ent (load_List_sound) <| gcons law44_same_ent (law44_same_sound) <| gnil) mixed Try.func10 (by kernel_rfl) _
   h

/-- haymow/load.New -/
noncomputable def load_New_c {O : Type} : Sm O := fun xs σ =>
 bif Nat.beq xs.length 1 then
 (AV.asI .u64 (xs.getD 0 .u)).bind fun n0 =>
 let σ1 := σ.bump 1
 let σ2 := σ1.put σ.next (.cells true 89 [(.i .u64 n0)])
 some ((.p (some ((.n σ.next), 0))), σ2)
 else none
noncomputable def load_New {O : Type} : Sm O := load_New_c
theorem load_New_ent : Entered Try.prog 11 := Try.call11
theorem load_New_run {O : Type} : run (O := O) Try.prog [] Try.f11 (.n .z .z) = load_New_c  := by kernel_rfl
theorem load_New_sound {O : Type} {RO : O → Loc → (Nat → Option Obj) → Prop} : FSound RO Try.prog 11 (load_New) :=
   have h : FSound RO Try.prog 11 (load_New_c) := (load_New_run) ▸ run_sound (gnil) mixed Try.func11 (by kernel_rfl) _
   h

/-- haymow/haymowref44.Next -/
noncomputable def haymowref44_Next_c {O : Type} : Sm O := fun xs σ =>
 bif Nat.beq xs.length 1 then
 (AV.asI .u64 (xs.getD 0 .u)).bind fun n0 =>
 let v1 : Int := (IntKind.u64.wrap ((IntKind.u64.wrap (n0 * 6364136223846793005)) + 1442695040888963407))
 some ((.i .u64 v1), σ)
 else none
noncomputable def haymowref44_Next {O : Type} : Sm O := haymowref44_Next_c
theorem haymowref44_Next_ent : Entered Try.prog 12 := Try.call12
theorem haymowref44_Next_run {O : Type} : run (O := O) Try.prog [] Try.f12 (.n .z .z) = haymowref44_Next_c  := by kernel_rfl
theorem haymowref44_Next_sound {O : Type} {RO : O → Loc → (Nat → Option Obj) → Prop} : FSound RO Try.prog 12 (haymowref44_Next) :=
   have h : FSound RO Try.prog 12 (haymowref44_Next_c) := (haymowref44_Next_run) ▸ run_sound (gnil) mixed Try.func12 (by kernel_rfl) _
   h

/-- (*haymow/load.Dice).Below -/
noncomputable def load_Dice__Below_c {O : Type} : Sm O := fun xs σ =>
 bif Nat.beq xs.length 2 then
 (AV.asP (xs.getD 0 .u)).bind fun p0 =>
 (AV.asI .i64 (xs.getD 1 .u)).bind fun n1 =>
 Option.bind p0 fun q2 =>
 (σ.ld q2.1 q2.2).bind fun w3 =>
 (AV.asI .u64 w3).bind fun n4 =>
 let v5 : Int := (IntKind.u64.wrap ((IntKind.u64.wrap (n4 * 6364136223846793005)) + 1442695040888963407))
 Option.bind p0 fun q6 =>
 (σ.st q6.1 q6.2 [(.i .u64 v5)]).bind fun σ7 =>
 (bif (decide (n1 < 1)) then
 some ((.i .i64 0), σ7)
 else Option.bind p0 fun q8 =>
 (σ7.ld q8.1 q8.2).bind fun w9 =>
 (AV.asI .u64 w9).bind fun n10 =>
 (bif ((IntKind.u64.wrap n1) == 0) then
 none
 else let v11 : Int := (Int.tmod (Int.fdiv n10 (2 ^ 32)) (IntKind.u64.wrap n1))
 some ((.i .i64 (IntKind.i64.wrap v11)), σ7)))
 else none
noncomputable def load_Dice__Below {O : Type} : Sm O := load_Dice__Below_c
theorem load_Dice__Below_ent : Entered Try.prog 13 := Try.call13
theorem load_Dice__Below_run {O : Type} : run (O := O) Try.prog [] Try.f13 (.n .z (.n .z (.n (.n .z (.n .z .z)) .z))) = load_Dice__Below_c  := by kernel_rfl
theorem load_Dice__Below_sound {O : Type} {RO : O → Loc → (Nat → Option Obj) → Prop} : FSound RO Try.prog 13 (load_Dice__Below) :=
   have h : FSound RO Try.prog 13 (load_Dice__Below_c) := (load_Dice__Below_run) ▸ run_sound (gnil) mixed Try.func13 (by kernel_rfl) _
   h

/-- haymow/haymowref44.Below -/
noncomputable def haymowref44_Below_c {O : Type} : Sm O := fun xs σ =>
 bif Nat.beq xs.length 2 then
 (AV.asI .u64 (xs.getD 0 .u)).bind fun n0 =>
 (AV.asI .i64 (xs.getD 1 .u)).bind fun n1 =>
 (bif (decide (n1 < 1)) then
 some ((.i .i64 0), σ)
 else (bif ((IntKind.u64.wrap n1) == 0) then
 none
 else let v2 : Int := (Int.tmod (IntKind.u64.wrap (Int.tdiv n0 4294967296)) (IntKind.u64.wrap n1))
 some ((.i .i64 (IntKind.i64.wrap v2)), σ)))
 else none
noncomputable def haymowref44_Below {O : Type} : Sm O := haymowref44_Below_c
theorem haymowref44_Below_ent : Entered Try.prog 14 := Try.call14
theorem haymowref44_Below_run {O : Type} : run (O := O) Try.prog [] Try.f14 (.n .z (.n (.n .z (.n .z .z)) .z)) = haymowref44_Below_c  := by kernel_rfl
theorem haymowref44_Below_sound {O : Type} {RO : O → Loc → (Nat → Option Obj) → Prop} : FSound RO Try.prog 14 (haymowref44_Below) :=
   have h : FSound RO Try.prog 14 (haymowref44_Below_c) := (haymowref44_Below_run) ▸ run_sound (gnil) mixed Try.func14 (by kernel_rfl) _
   h

/-- haymow/haymowref44.numbers -/
noncomputable def haymowref44_numbers_L1 {O : Type} (l1 : SA × Nat) (k12 : Sm O) (k14 : Sm O) : List AV × AH O → Option ((List AV × AH O) ⊕ (List AV × AH O)) := (fun r2 =>
 (AV.asI .u64 (r2.1.getD 0 .u)).bind fun n3 =>
 (AV.asSl (r2.1.getD 1 .u)).bind fun l4 =>
 (AV.asI .i64 (r2.1.getD 2 .u)).bind fun n5 =>
 (bif (decide (n5 < (l1.2 : Int))) then
 (k12 [(.i .u64 n3)] r2.2).bind fun r6 =>
 (AV.asI .u64 r6.1).bind fun n7 =>
 let σ8 := r6.2.bump 2
 (bif ((decide ((0 : Int) ≤ n5)) && (decide (n5 < (l1.2 : Int)))) then
 (SA.ref l1.1).bind fun q9 =>
 (σ8.ld q9.1 (q9.2 + (n5.toNat * 1))).bind fun w10 =>
 (AV.asI .i64 w10).bind fun n11 =>
 (k14 [(.i .u64 n7), (.i .i64 n11)] σ8).bind fun r12 =>
 (AV.asI .i64 r12.1).bind fun n13 =>
 let σ14 := r12.2.put r6.2.next (.cells true 3 [(.i .i64 n13)])
 (σ14.rdSl (.loc (.n r6.2.next) 0 1) 1 1).bind fun new15 =>
 (bif (Nat.ble ((l4.2 + 1) * 9) 35184372088832) then
 (σ14.appSl (r6.2.next + 1) 3 1 l4.1 l4.2 1 new15).bind fun r16 =>
 (AV.asSl r16.1).bind fun l17 =>
 some (Sum.inl ([(.i .u64 n7), (.sl l17.1 l17.2), (.i .i64 (IntKind.i64.wrap (n5 + 1)))], r16.2))
 else none)
 else none)
 else some (Sum.inr ([(.i .u64 n3), (.sl l4.1 l4.2)], r2.2))))
noncomputable def haymowref44_numbers_c {O : Type} (k12 k14 : Sm O) : Sm O := fun xs σ =>
 bif Nat.beq xs.length 2 then
 (AV.asI .u64 (xs.getD 0 .u)).bind fun n0 =>
 (AV.asSl (xs.getD 1 .u)).bind fun l1 =>
 (loopF (S := List AV × AH O) (T := List AV × AH O) (haymowref44_numbers_L1 l1 k12 k14) ([(.i .u64 n0), (.sl .nil 0), (.i .i64 0)], σ)).bind fun r18 =>
 (AV.asI .u64 (r18.1.getD 0 .u)).bind fun n19 =>
 (AV.asSl (r18.1.getD 1 .u)).bind fun l20 =>
 some ((.tup [(.sl l20.1 l20.2), (.i .u64 n19)]), r18.2)
 else none
noncomputable def haymowref44_numbers {O : Type} : Sm O := frz (haymowref44_numbers_c haymowref44_Next haymowref44_Below)
theorem haymowref44_numbers_ent : Entered Try.prog 47 := Try.call47
theorem haymowref44_numbers_run {O : Type} (k12 k14 : Sm O) : run (O := O) Try.prog [(12, k12), (14, k14)] Try.f47 (.n .z (.n .z (.n (.n .z (.n (.lp false 0 [(0, .one (.i .u64)), (6, .one .sl), (7, .one (.i .i64))] [(0, .one (.i .u64)), (6, .one .sl)] (.n (.n .z .z) (.n (.n .z .z) .z))) .z)) .z))) = haymowref44_numbers_c k12 k14 := by kernel_rfl
theorem haymowref44_numbers_sound {O : Type} {RO : O → Loc → (Nat → Option Obj) → Prop} : FSound RO Try.prog 47 (haymowref44_numbers) :=
   have h : FSound RO Try.prog 47 (haymowref44_numbers_c haymowref44_Next haymowref44_Below) := (haymowref44_numbers_run haymowref44_Next haymowref44_Below) ▸ run_sound (gcons haymowref44_Next_ent (haymowref44_Next_sound) <| gcons haymowref44_Below_ent (haymowref44_Below_sound) <| gnil) mixed Try.func47 (by kernel_rfl) _
   h.frz

/-- haymow/haymowref44.Churn -/
noncomputable def haymowref44_Churn_L2 {O : Type} (n2 : Int) (n1 : Int) (k47 : Sm O) : List AV × AH O → Option ((List AV × AH O) ⊕ (List AV × AH O)) := (fun r20 =>
 (AV.asI .u64 (r20.1.getD 0 .u)).bind fun n21 =>
 (AV.asSl (r20.1.getD 1 .u)).bind fun l22 =>
 (AV.asI .i64 (r20.1.getD 2 .u)).bind fun n23 =>
 (bif (decide (n23 < n2)) then
 let σ24 := r20.2.bump 1
 let σ25 := σ24.put r20.2.next (.cells true 3 [(.i .i64 n1), (.i .i64 n1), (.i .i64 8)])
 (k47 [(.i .u64 n21), (.sl (.loc (.n r20.2.next) 0 1) 3)] σ25).bind fun r26 =>
 (AV.asTup 2 r26.1).bind fun c27 =>
 (AV.asSl (c27.getD 0 .u)).bind fun l28 =>
 (AV.asI .u64 (c27.getD 1 .u)).bind fun n29 =>
 (bif (decide ((2 : Int) < (l28.2 : Int))) then
 (SA.ref l28.1).bind fun q30 =>
 (r26.2.ld q30.1 (q30.2 + 2)).bind fun w31 =>
 (AV.asI .i64 w31).bind fun n32 =>
 ((bif ((n32 : Int) == 0) then
 some ([(.b ((n32 : Int) == 0))], r26.2)
 else ((bif ((n32 : Int) == 1) then
 some ([(.b ((n32 : Int) == 1))], r26.2)
 else some ([(.b ((n32 : Int) == 2))], r26.2)) : Option (List AV × AH O)).bind fun r33 =>
 (AV.asB (r33.1.getD 0 .u)).bind fun b34 =>
 some ([(.b b34)], r33.2)) : Option (List AV × AH O)).bind fun r35 =>
 (AV.asB (r35.1.getD 0 .u)).bind fun b36 =>
 ((bif b36 then
 let σ37 := r35.2.bump 1
 let σ38 := σ37.put r35.2.next (.cells true 3 [(.i .i64 4), (.i .i64 12), (.i .i64 4)])
 (k47 [(.i .u64 n29), (.sl (.loc (.n r35.2.next) 0 1) 3)] σ38).bind fun r39 =>
 (AV.asTup 2 r39.1).bind fun c40 =>
 (AV.asSl (c40.getD 0 .u)).bind fun l41 =>
 (AV.asI .u64 (c40.getD 1 .u)).bind fun n42 =>
 let σ43 := r39.2.bump 3
 (bif (decide ((0 : Int) < (l28.2 : Int))) then
 (SA.ref l28.1).bind fun q44 =>
 (σ43.ld q44.1 q44.2).bind fun w45 =>
 (AV.asI .i64 w45).bind fun n46 =>
 (bif (decide ((0 : Int) < (l41.2 : Int))) then
 (SA.ref l41.1).bind fun q47 =>
 (σ43.ld q47.1 q47.2).bind fun w48 =>
 (AV.asI .i64 w48).bind fun n49 =>
 (bif (decide ((1 : Int) < (l41.2 : Int))) then
 (SA.ref l41.1).bind fun q50 =>
 (σ43.ld q50.1 (q50.2 + 1)).bind fun w51 =>
 (AV.asI .i64 w51).bind fun n52 =>
 (bif (decide ((2 : Int) < (l41.2 : Int))) then
 (SA.ref l41.1).bind fun q53 =>
 (σ43.ld q53.1 (q53.2 + 2)).bind fun w54 =>
 (AV.asI .i64 w54).bind fun n55 =>
 let σ56 := σ43.put r39.2.next (.cells true 3 [(.i .i64 0), (.i .i64 n46), (.i .i64 n49), (.i .i64 n52), (.i .i64 n55)])
 let σ57 := σ56.put (r39.2.next + 1) (.cells true 24 [(.sl (.loc (.n r39.2.next) 0 1) 5)])
 (σ57.rdSl (.loc (.n (r39.2.next + 1)) 0 1) 1 1).bind fun new58 =>
 (bif (Nat.ble ((l22.2 + 1) * 25) 35184372088832) then
 (σ57.appSl ((r39.2.next + 1) + 1) 24 1 l22.1 l22.2 1 new58).bind fun r59 =>
 (AV.asSl r59.1).bind fun l60 =>
 some ([(.i .u64 n42), (.sl l60.1 l60.2)], r59.2)
 else none)
 else none)
 else none)
 else none)
 else none)
 else ((bif ((n32 : Int) == 3) then
 some ([(.b ((n32 : Int) == 3))], r35.2)
 else some ([(.b ((n32 : Int) == 4))], r35.2)) : Option (List AV × AH O)).bind fun r61 =>
 (AV.asB (r61.1.getD 0 .u)).bind fun b62 =>
 ((bif b62 then
 let σ63 := r61.2.bump 1
 let σ64 := σ63.put r61.2.next (.cells true 3 [(.i .i64 3)])
 (k47 [(.i .u64 n29), (.sl (.loc (.n r61.2.next) 0 1) 1)] σ64).bind fun r65 =>
 (AV.asTup 2 r65.1).bind fun c66 =>
 (AV.asSl (c66.getD 0 .u)).bind fun l67 =>
 (AV.asI .u64 (c66.getD 1 .u)).bind fun n68 =>
 let σ69 := r65.2.bump 3
 (bif (decide ((0 : Int) < (l28.2 : Int))) then
 (SA.ref l28.1).bind fun q70 =>
 (σ69.ld q70.1 q70.2).bind fun w71 =>
 (AV.asI .i64 w71).bind fun n72 =>
 (bif (decide ((0 : Int) < (l67.2 : Int))) then
 (SA.ref l67.1).bind fun q73 =>
 (σ69.ld q73.1 q73.2).bind fun w74 =>
 (AV.asI .i64 w74).bind fun n75 =>
 (bif (decide ((1 : Int) < (l28.2 : Int))) then
 (SA.ref l28.1).bind fun q76 =>
 (σ69.ld q76.1 (q76.2 + 1)).bind fun w77 =>
 (AV.asI .i64 w77).bind fun n78 =>
 let σ79 := σ69.put r65.2.next (.cells true 3 [(.i .i64 11), (.i .i64 n72), (.i .i64 n75), (.i .i64 n78)])
 let σ80 := σ79.put (r65.2.next + 1) (.cells true 24 [(.sl (.loc (.n r65.2.next) 0 1) 4)])
 (σ80.rdSl (.loc (.n (r65.2.next + 1)) 0 1) 1 1).bind fun new81 =>
 (bif (Nat.ble ((l22.2 + 1) * 25) 35184372088832) then
 (σ80.appSl ((r65.2.next + 1) + 1) 24 1 l22.1 l22.2 1 new81).bind fun r82 =>
 (AV.asSl r82.1).bind fun l83 =>
 some ([(.i .u64 n68), (.sl l83.1 l83.2)], r82.2)
 else none)
 else none)
 else none)
 else none)
 else ((bif ((n32 : Int) == 5) then
 let σ84 := r61.2.bump 1
 let σ85 := σ84.put r61.2.next (.cells true 3 [(.i .i64 3)])
 (k47 [(.i .u64 n29), (.sl (.loc (.n r61.2.next) 0 1) 1)] σ85).bind fun r86 =>
 (AV.asTup 2 r86.1).bind fun c87 =>
 (AV.asSl (c87.getD 0 .u)).bind fun l88 =>
 (AV.asI .u64 (c87.getD 1 .u)).bind fun n89 =>
 let σ90 := r86.2.bump 3
 (bif (decide ((0 : Int) < (l28.2 : Int))) then
 (SA.ref l28.1).bind fun q91 =>
 (σ90.ld q91.1 q91.2).bind fun w92 =>
 (AV.asI .i64 w92).bind fun n93 =>
 (bif (decide ((1 : Int) < (l28.2 : Int))) then
 (SA.ref l28.1).bind fun q94 =>
 (σ90.ld q94.1 (q94.2 + 1)).bind fun w95 =>
 (AV.asI .i64 w95).bind fun n96 =>
 (bif (decide ((0 : Int) < (l88.2 : Int))) then
 (SA.ref l88.1).bind fun q97 =>
 (σ90.ld q97.1 q97.2).bind fun w98 =>
 (AV.asI .i64 w98).bind fun n99 =>
 let σ100 := σ90.put r86.2.next (.cells true 3 [(.i .i64 10), (.i .i64 n93), (.i .i64 n96), (.i .i64 n99)])
 let σ101 := σ100.put (r86.2.next + 1) (.cells true 24 [(.sl (.loc (.n r86.2.next) 0 1) 4)])
 (σ101.rdSl (.loc (.n (r86.2.next + 1)) 0 1) 1 1).bind fun new102 =>
 (bif (Nat.ble ((l22.2 + 1) * 25) 35184372088832) then
 (σ101.appSl ((r86.2.next + 1) + 1) 24 1 l22.1 l22.2 1 new102).bind fun r103 =>
 (AV.asSl r103.1).bind fun l104 =>
 some ([(.i .u64 n89), (.sl l104.1 l104.2)], r103.2)
 else none)
 else none)
 else none)
 else none)
 else ((bif ((n32 : Int) == 6) then
 let σ105 := r61.2.bump 3
 (bif (decide ((0 : Int) < (l28.2 : Int))) then
 (SA.ref l28.1).bind fun q106 =>
 (σ105.ld q106.1 q106.2).bind fun w107 =>
 (AV.asI .i64 w107).bind fun n108 =>
 (bif (decide ((1 : Int) < (l28.2 : Int))) then
 (SA.ref l28.1).bind fun q109 =>
 (σ105.ld q109.1 (q109.2 + 1)).bind fun w110 =>
 (AV.asI .i64 w110).bind fun n111 =>
 let σ112 := σ105.put r61.2.next (.cells true 3 [(.i .i64 8), (.i .i64 n108), (.i .i64 n111)])
 let σ113 := σ112.put (r61.2.next + 1) (.cells true 24 [(.sl (.loc (.n r61.2.next) 0 1) 3)])
 (σ113.rdSl (.loc (.n (r61.2.next + 1)) 0 1) 1 1).bind fun new114 =>
 (bif (Nat.ble ((l22.2 + 1) * 25) 35184372088832) then
 (σ113.appSl ((r61.2.next + 1) + 1) 24 1 l22.1 l22.2 1 new114).bind fun r115 =>
 (AV.asSl r115.1).bind fun l116 =>
 some ([(.sl l116.1 l116.2)], r115.2)
 else none)
 else none)
 else none)
 else let σ117 := r61.2.bump 3
 (bif (decide ((0 : Int) < (l28.2 : Int))) then
 (SA.ref l28.1).bind fun q118 =>
 (σ117.ld q118.1 q118.2).bind fun w119 =>
 (AV.asI .i64 w119).bind fun n120 =>
 let σ121 := σ117.put r61.2.next (.cells true 3 [(.i .i64 9), (.i .i64 n120)])
 let σ122 := σ121.put (r61.2.next + 1) (.cells true 24 [(.sl (.loc (.n r61.2.next) 0 1) 2)])
 (σ122.rdSl (.loc (.n (r61.2.next + 1)) 0 1) 1 1).bind fun new123 =>
 (bif (Nat.ble ((l22.2 + 1) * 25) 35184372088832) then
 (σ122.appSl ((r61.2.next + 1) + 1) 24 1 l22.1 l22.2 1 new123).bind fun r124 =>
 (AV.asSl r124.1).bind fun l125 =>
 some ([(.sl l125.1 l125.2)], r124.2)
 else none)
 else none)) : Option (List AV × AH O)).bind fun r126 =>
 (AV.asSl (r126.1.getD 0 .u)).bind fun l127 =>
 some ([(.i .u64 n29), (.sl l127.1 l127.2)], r126.2)) : Option (List AV × AH O)).bind fun r128 =>
 (AV.asI .u64 (r128.1.getD 0 .u)).bind fun n129 =>
 (AV.asSl (r128.1.getD 1 .u)).bind fun l130 =>
 some ([(.i .u64 n129), (.sl l130.1 l130.2)], r128.2)) : Option (List AV × AH O)).bind fun r131 =>
 (AV.asI .u64 (r131.1.getD 0 .u)).bind fun n132 =>
 (AV.asSl (r131.1.getD 1 .u)).bind fun l133 =>
 some ([(.i .u64 n132), (.sl l133.1 l133.2)], r131.2)) : Option (List AV × AH O)).bind fun r134 =>
 (AV.asI .u64 (r134.1.getD 0 .u)).bind fun n135 =>
 (AV.asSl (r134.1.getD 1 .u)).bind fun l136 =>
 some (Sum.inl ([(.i .u64 n135), (.sl l136.1 l136.2), (.i .i64 (IntKind.i64.wrap (n23 + 1)))], r134.2))
 else none)
 else some (Sum.inr ([(.sl l22.1 l22.2)], r20.2))))
noncomputable def haymowref44_Churn_L1 {O : Type} (n1 : Int) : List AV × AH O → Option ((List AV × AH O) ⊕ (List AV × AH O)) := (fun r9 =>
 (AV.asSl (r9.1.getD 0 .u)).bind fun l10 =>
 (AV.asI .i64 (r9.1.getD 1 .u)).bind fun n11 =>
 (bif (decide (n11 < n1)) then
 let σ12 := r9.2.bump 3
 let σ13 := σ12.put r9.2.next (.cells true 3 [(.i .i64 1)])
 let σ14 := σ13.put (r9.2.next + 1) (.cells true 24 [(.sl (.loc (.n r9.2.next) 0 1) 1)])
 (σ14.rdSl (.loc (.n (r9.2.next + 1)) 0 1) 1 1).bind fun new15 =>
 (bif (Nat.ble ((l10.2 + 1) * 25) 35184372088832) then
 (σ14.appSl ((r9.2.next + 1) + 1) 24 1 l10.1 l10.2 1 new15).bind fun r16 =>
 (AV.asSl r16.1).bind fun l17 =>
 some (Sum.inl ([(.sl l17.1 l17.2), (.i .i64 (IntKind.i64.wrap (n11 + 1)))], r16.2))
 else none)
 else some (Sum.inr ([(.sl l10.1 l10.2)], r9.2))))
noncomputable def haymowref44_Churn_c {O : Type} (k47 : Sm O) : Sm O := fun xs σ =>
 bif Nat.beq xs.length 3 then
 (AV.asI .u64 (xs.getD 0 .u)).bind fun n0 =>
 (AV.asI .i64 (xs.getD 1 .u)).bind fun n1 =>
 (AV.asI .i64 (xs.getD 2 .u)).bind fun n2 =>
 ((bif ((decide (n1 < 1)) == false) then
 some ([(.b (decide (n1 > 200)))], σ)
 else some ([(.b true)], σ)) : Option (List AV × AH O)).bind fun r3 =>
 (AV.asB (r3.1.getD 0 .u)).bind fun b4 =>
 ((bif (b4 == false) then
 some ([(.b (decide (n2 < 0)))], r3.2)
 else some ([(.b true)], r3.2)) : Option (List AV × AH O)).bind fun r5 =>
 (AV.asB (r5.1.getD 0 .u)).bind fun b6 =>
 ((bif (b6 == false) then
 some ([(.b (decide (n2 > 200)))], r5.2)
 else some ([(.b true)], r5.2)) : Option (List AV × AH O)).bind fun r7 =>
 (AV.asB (r7.1.getD 0 .u)).bind fun b8 =>
 (bif b8 then
 some ((.sl .nil 0), r7.2)
 else (loopF (S := List AV × AH O) (T := List AV × AH O) (haymowref44_Churn_L1 n1) ([(.sl .nil 0), (.i .i64 0)], r7.2)).bind fun r18 =>
 (AV.asSl (r18.1.getD 0 .u)).bind fun l19 =>
 (loopF (S := List AV × AH O) (T := List AV × AH O) (haymowref44_Churn_L2 n2 n1 k47) ([(.i .u64 n0), (.sl l19.1 l19.2), (.i .i64 0)], r18.2)).bind fun r137 =>
 (AV.asSl (r137.1.getD 0 .u)).bind fun l138 =>
 some ((.sl l138.1 l138.2), r137.2))
 else none
noncomputable def haymowref44_Churn {O : Type} : Sm O := frz (haymowref44_Churn_c haymowref44_numbers)
theorem haymowref44_Churn_ent : Entered Try.prog 15 := Try.call15
theorem haymowref44_Churn_run {O : Type} (k47 : Sm O) : run (O := O) Try.prog [(47, k47)] Try.f15 (.n .z (.n (.n (.g [(2, 2, [(17, .one .b)]), (6, 2, [(21, .one .b)]), (10, 2, [(25, .one .b)])]) (.n .z .z)) (.n .z (.n (.n .z (.n (.lp false 0 [(7, .one .sl), (8, .one (.i .i64))] [(7, .one .sl)] (.n (.n .z .z) (.n .z .z))) .z)) (.n (.n .z (.n (.lp false 2 [(0, .one (.i .u64)), (7, .one .sl), (9, .one (.i .i64))] [(7, .one .sl)] (.n (.n .z .z) (.n (.n (.n .z (.n .z (.n .z (.n (.n (.n .z (.j false [(58, .one .b)] .z (.n .z (.j false [(58, .one .b)] .z .z)))) (.j false [(0, .one (.i .u64)), (7, .one .sl)] (.n .z (.d [] [0, 1, 2, 3, 4, 5, 6, 7, 8, 9, 10, 11, 12, 13, 14, 15, 16] [0, 0, 2, 6, 0, 16, 48, 0, 128, 384, 0, 1024, 3072, 8190, 16382, 32767, 65535])) (.n (.n .z (.j false [(84, .one .b)] .z .z)) (.j false [(0, .one (.i .u64)), (7, .one .sl)] (.n .z (.d [] [0, 1, 2, 3, 4, 5, 6, 7, 8, 9, 10, 11, 12, 13] [0, 0, 2, 6, 0, 16, 48, 0, 128, 384, 1022, 2046, 4095, 8191])) (.n .z (.j false [(0, .one (.i .u64)), (7, .one .sl)] (.n .z (.d [] [0, 1, 2, 3, 4, 5, 6, 7, 8, 9, 10, 11, 12, 13] [0, 0, 2, 6, 0, 16, 48, 0, 128, 384, 1022, 2046, 4095, 8191])) (.n .z (.j false [(7, .one .sl)] (.d [] [0, 1, 2, 3, 4, 5, 6, 7, 8, 9, 10] [0, 0, 2, 6, 0, 16, 48, 126, 254, 511, 1023]) .z)))))))) .z)))) .z) .z))) .z)) .z))))) = haymowref44_Churn_c k47 := by kernel_rfl
theorem haymowref44_Churn_sound {O : Type} {RO : O → Loc → (Nat → Option Obj) → Prop} : FSound RO Try.prog 15 (haymowref44_Churn) :=
   have h : FSound RO Try.prog 15 (haymowref44_Churn_c haymowref44_numbers) := (haymowref44_Churn_run haymowref44_numbers) ▸ run_sound (gcons haymowref44_numbers_ent (haymowref44_numbers_sound) <| gnil) mixed Try.func15 (by kernel_rfl) _
   h.frz

/-- haymow/load.Churn -/
noncomputable def load_Churn_L2 {O : Type} (n2 : Int) (k13 : Sm O) (p12 : Option (Bid × Nat)) (n1 : Int) (k48 : Sm O) (r7 : List AV × AH O) : List AV × AH O → Option ((List AV × AH O) ⊕ (List AV × AH O)) := (fun r18 =>
 (AV.asI .i64 (r18.1.getD 0 .u)).bind fun n19 =>
 (bif (decide (n19 < n2)) then
 (k13 [(.p p12), (.i .i64 n1)] r18.2).bind fun r20 =>
 (AV.asI .i64 r20.1).bind fun n21 =>
 (k13 [(.p p12), (.i .i64 n1)] r20.2).bind fun r22 =>
 (AV.asI .i64 r22.1).bind fun n23 =>
 (k13 [(.p p12), (.i .i64 8)] r22.2).bind fun r24 =>
 (AV.asI .i64 r24.1).bind fun n25 =>
 ((bif ((n25 : Int) == 0) then
 some ([(.b ((n25 : Int) == 0))], r24.2)
 else ((bif ((n25 : Int) == 1) then
 some ([(.b ((n25 : Int) == 1))], r24.2)
 else some ([(.b ((n25 : Int) == 2))], r24.2)) : Option (List AV × AH O)).bind fun r26 =>
 (AV.asB (r26.1.getD 0 .u)).bind fun b27 =>
 some ([(.b b27)], r26.2)) : Option (List AV × AH O)).bind fun r28 =>
 (AV.asB (r28.1.getD 0 .u)).bind fun b29 =>
 ((bif b29 then
 let σ30 := r28.2.bump 1
 (k13 [(.p p12), (.i .i64 4)] σ30).bind fun r31 =>
 (AV.asI .i64 r31.1).bind fun n32 =>
 (k13 [(.p p12), (.i .i64 12)] r31.2).bind fun r33 =>
 (AV.asI .i64 r33.1).bind fun n34 =>
 (k13 [(.p p12), (.i .i64 4)] r33.2).bind fun r35 =>
 (AV.asI .i64 r35.1).bind fun n36 =>
 let σ37 := r35.2.put r28.2.next (.cells true 3 [(.i .i64 n21), (.i .i64 n32), (.i .i64 n34), (.i .i64 n36)])
 (k48 [(.p (some ((.n r7.2.next), 0))), (.i .i64 0), (.sl (.loc (.n r28.2.next) 0 1) 4)] σ37).bind fun r38 =>
 (AV.asTup 0 r38.1).bind fun c39 =>
 some ([], r38.2)
 else ((bif ((n25 : Int) == 3) then
 some ([(.b ((n25 : Int) == 3))], r28.2)
 else some ([(.b ((n25 : Int) == 4))], r28.2)) : Option (List AV × AH O)).bind fun r40 =>
 (AV.asB (r40.1.getD 0 .u)).bind fun b41 =>
 ((bif b41 then
 let σ42 := r40.2.bump 1
 (k13 [(.p p12), (.i .i64 3)] σ42).bind fun r43 =>
 (AV.asI .i64 r43.1).bind fun n44 =>
 let σ45 := r43.2.put r40.2.next (.cells true 3 [(.i .i64 n21), (.i .i64 n44), (.i .i64 n23)])
 (k48 [(.p (some ((.n r7.2.next), 0))), (.i .i64 11), (.sl (.loc (.n r40.2.next) 0 1) 3)] σ45).bind fun r46 =>
 (AV.asTup 0 r46.1).bind fun c47 =>
 some ([], r46.2)
 else ((bif ((n25 : Int) == 5) then
 let σ48 := r40.2.bump 1
 (k13 [(.p p12), (.i .i64 3)] σ48).bind fun r49 =>
 (AV.asI .i64 r49.1).bind fun n50 =>
 let σ51 := r49.2.put r40.2.next (.cells true 3 [(.i .i64 n21), (.i .i64 n23), (.i .i64 n50)])
 (k48 [(.p (some ((.n r7.2.next), 0))), (.i .i64 10), (.sl (.loc (.n r40.2.next) 0 1) 3)] σ51).bind fun r52 =>
 (AV.asTup 0 r52.1).bind fun c53 =>
 some ([], r52.2)
 else ((bif ((n25 : Int) == 6) then
 let σ54 := r40.2.bump 1
 let σ55 := σ54.put r40.2.next (.cells true 3 [(.i .i64 n21), (.i .i64 n23)])
 (k48 [(.p (some ((.n r7.2.next), 0))), (.i .i64 8), (.sl (.loc (.n r40.2.next) 0 1) 2)] σ55).bind fun r56 =>
 (AV.asTup 0 r56.1).bind fun c57 =>
 some ([], r56.2)
 else let σ58 := r40.2.bump 1
 let σ59 := σ58.put r40.2.next (.cells true 3 [(.i .i64 n21)])
 (k48 [(.p (some ((.n r7.2.next), 0))), (.i .i64 9), (.sl (.loc (.n r40.2.next) 0 1) 1)] σ59).bind fun r60 =>
 (AV.asTup 0 r60.1).bind fun c61 =>
 some ([], r60.2)) : Option (List AV × AH O)).bind fun r62 =>
 some ([], r62.2)) : Option (List AV × AH O)).bind fun r63 =>
 some ([], r63.2)) : Option (List AV × AH O)).bind fun r64 =>
 some ([], r64.2)) : Option (List AV × AH O)).bind fun r65 =>
 some (Sum.inl ([(.i .i64 (IntKind.i64.wrap (n19 + 1)))], r65.2))
 else some (Sum.inr ([], r18.2))))
noncomputable def load_Churn_L1 {O : Type} (n1 : Int) (k48 : Sm O) (r7 : List AV × AH O) : List AV × AH O → Option ((List AV × AH O) ⊕ (List AV × AH O)) := (fun r13 =>
 (AV.asI .i64 (r13.1.getD 0 .u)).bind fun n14 =>
 (bif (decide (n14 < n1)) then
 (k48 [(.p (some ((.n r7.2.next), 0))), (.i .i64 1), (.sl .nil 0)] r13.2).bind fun r15 =>
 (AV.asTup 0 r15.1).bind fun c16 =>
 some (Sum.inl ([(.i .i64 (IntKind.i64.wrap (n14 + 1)))], r15.2))
 else some (Sum.inr ([], r13.2))))
noncomputable def load_Churn_c {O : Type} (k11 k48 k13 : Sm O) : Sm O := fun xs σ =>
 bif Nat.beq xs.length 3 then
 (AV.asI .u64 (xs.getD 0 .u)).bind fun n0 =>
 (AV.asI .i64 (xs.getD 1 .u)).bind fun n1 =>
 (AV.asI .i64 (xs.getD 2 .u)).bind fun n2 =>
 ((bif ((decide (n1 < 1)) == false) then
 some ([(.b (decide (n1 > 200)))], σ)
 else some ([(.b true)], σ)) : Option (List AV × AH O)).bind fun r3 =>
 (AV.asB (r3.1.getD 0 .u)).bind fun b4 =>
 ((bif (b4 == false) then
 some ([(.b (decide (n2 < 0)))], r3.2)
 else some ([(.b true)], r3.2)) : Option (List AV × AH O)).bind fun r5 =>
 (AV.asB (r5.1.getD 0 .u)).bind fun b6 =>
 ((bif (b6 == false) then
 some ([(.b (decide (n2 > 200)))], r5.2)
 else some ([(.b true)], r5.2)) : Option (List AV × AH O)).bind fun r7 =>
 (AV.asB (r7.1.getD 0 .u)).bind fun b8 =>
 (bif b8 then
 some ((.sl .nil 0), r7.2)
 else let σ9 := r7.2.bump 1
 let σ10 := σ9.put r7.2.next (.cells true 95 [(.sl .nil 0)])
 (k11 [(.i .u64 n0)] σ10).bind fun r11 =>
 (AV.asP r11.1).bind fun p12 =>
 (loopF (S := List AV × AH O) (T := List AV × AH O) (load_Churn_L1 n1 k48 r7) ([(.i .i64 0)], r11.2)).bind fun r17 =>
 (loopF (S := List AV × AH O) (T := List AV × AH O) (load_Churn_L2 n2 k13 p12 n1 k48 r7) ([(.i .i64 0)], r17.2)).bind fun r66 =>
 (r66.2.ld (.n r7.2.next) 0).bind fun w67 =>
 (AV.asSl w67).bind fun l68 =>
 some ((.sl l68.1 l68.2), r66.2))
 else none
noncomputable def load_Churn {O : Type} : Sm O := frz (load_Churn_c load_New load_maker__add load_Dice__Below)
theorem load_Churn_ent : Entered Try.prog 17 := Try.call17
theorem load_Churn_run {O : Type} (k11 k48 k13 : Sm O) : run (O := O) Try.prog [(11, k11), (48, k48), (13, k13)] Try.f17 (.n .z (.n (.n (.g [(2, 2, [(16, .one .b)]), (6, 2, [(20, .one .b)]), (10, 2, [(24, .one .b)])]) (.n .z .z)) (.n .z (.n .z (.n (.n .z (.n (.lp false 0 [(30, .one (.i .i64))] [] (.n .z (.n .z (.n .z .z)))) .z)) (.n (.n .z (.n (.lp false 2 [(36, .one (.i .i64))] [] (.n .z (.n .z (.n (.n (.n .z (.n .z (.n (.n (.n .z (.j false [(50, .one .b)] .z (.n .z (.j false [(50, .one .b)] .z .z)))) (.j false [] .z (.n (.n .z (.j false [(64, .one .b)] .z .z)) (.j false [] .z (.n .z (.j false [] .z (.n .z (.j false [] .z .z)))))))) .z))) .z) .z)))) .z)) .z)))))) = load_Churn_c k11 k48 k13 := by kernel_rfl
theorem load_Churn_sound {O : Type} {RO : O → Loc → (Nat → Option Obj) → Prop} : FSound RO Try.prog 17 (load_Churn) :=
   have h : FSound RO Try.prog 17 (load_Churn_c load_New load_maker__add load_Dice__Below) := (load_Churn_run load_New load_maker__add load_Dice__Below) ▸ run_sound (gcons load_New_ent (load_New_sound) <| gcons load_maker__add_ent (load_maker__add_sound) <| gcons load_Dice__Below_ent (load_Dice__Below_sound) <| gnil) mixed Try.func17 (by kernel_rfl) _
   h.frz

/-- haymow/haymowlaw44.LoadChurns -/
noncomputable def law44_LoadChurns_L1 {O : Type} (l4 : SA × Nat) (k12 : Sm O) (k13 : Sm O) (p10 : Option (Bid × Nat)) (k14 : Sm O) : List AV × AH O → Option ((List AV × AH O) ⊕ ((List AV × AH O) ⊕ (AV × AH O))) := (fun r11 =>
 (AV.asI .u64 (r11.1.getD 0 .u)).bind fun n12 =>
 (AV.asI .i64 (r11.1.getD 1 .u)).bind fun n13 =>
 (bif (decide (n13 < (l4.2 : Int))) then
 (k12 [(.i .u64 n12)] r11.2).bind fun r14 =>
 (AV.asI .u64 r14.1).bind fun n15 =>
 (bif ((decide ((0 : Int) ≤ n13)) && (decide (n13 < (l4.2 : Int)))) then
 (SA.ref l4.1).bind fun q16 =>
 (r14.2.ld q16.1 (q16.2 + (n13.toNat * 1))).bind fun w17 =>
 (AV.asI .i64 w17).bind fun n18 =>
 (bif ((decide ((0 : Int) ≤ n13)) && (decide (n13 < (l4.2 : Int)))) then
 (SA.ref l4.1).bind fun q19 =>
 (r14.2.ld q19.1 (q19.2 + (n13.toNat * 1))).bind fun w20 =>
 (AV.asI .i64 w20).bind fun n21 =>
 (k13 [(.p p10), (.i .i64 n18)] r14.2).bind fun r22 =>
 (AV.asI .i64 r22.1).bind fun n23 =>
 (chk (r22.2.ld q19.1 (q19.2 + (n13.toNat * 1)) = some (.i .i64 n21))).bind fun _ =>
 (k14 [(.i .u64 n15), (.i .i64 n21)] r22.2).bind fun r24 =>
 (AV.asI .i64 r24.1).bind fun n25 =>
 (bif ((n23 : Int) != n25) then
 ((some ((.b false), r24.2) : Option (AV × AH O)).map fun r => Sum.inr (Sum.inr r))
 else some (Sum.inl ([(.i .u64 n15), (.i .i64 (IntKind.i64.wrap (n13 + 1)))], r24.2)))
 else none)
 else none)
 else some (Sum.inr (Sum.inl ([], r11.2)))))
noncomputable def law44_LoadChurns_c {O : Type} (k10 k11 k12 k13 k14 k15 k17 k16 : Sm O) : Sm O := fun xs σ =>
 bif Nat.beq xs.length 3 then
 (AV.asI .u64 (xs.getD 0 .u)).bind fun n0 =>
 (AV.asAgg 2 (xs.getD 1 .u)).bind fun c1 =>
 (AV.asI .i64 (c1.getD 0 .u)).bind fun n2 =>
 (AV.asI .i64 (c1.getD 1 .u)).bind fun n3 =>
 (AV.asSl (xs.getD 2 .u)).bind fun l4 =>
 let σ5 := σ.bump 1
 let σ6 := σ5.put σ.next (.cells true 23 [(.i .i64 n2), (.i .i64 n3)])
 (k10 [] σ6).bind fun r7 =>
 (AV.asB r7.1).bind fun b8 =>
 (bif (!b8) then
 some ((.b false), r7.2)
 else (bif (decide ((l4.2 : Int) > 60)) then
 some ((.b true), r7.2)
 else (k11 [(.i .u64 n0)] r7.2).bind fun r9 =>
 (AV.asP r9.1).bind fun p10 =>
 (bif (Option.isNone p10) then
 some ((.b false), r9.2)
 else bindS (S := List AV × AH O) (R := (AV × AH O)) (loopF (S := List AV × AH O) (T := (List AV × AH O) ⊕ (AV × AH O)) (law44_LoadChurns_L1 l4 k12 k13 p10 k14) ([(.i .u64 n0), (.i .i64 0)], r9.2)) fun r26 =>
 (r26.2.ld (.n σ.next) 0).bind fun w27 =>
 (AV.asI .i64 w27).bind fun n28 =>
 (r26.2.ld (.n σ.next) 1).bind fun w29 =>
 (AV.asI .i64 w29).bind fun n30 =>
 (k15 [(.i .u64 n0), (.i .i64 n28), (.i .i64 n30)] r26.2).bind fun r31 =>
 (AV.asSl r31.1).bind fun l32 =>
 (r31.2.ld (.n σ.next) 0).bind fun w33 =>
 (AV.asI .i64 w33).bind fun n34 =>
 (r31.2.ld (.n σ.next) 1).bind fun w35 =>
 (AV.asI .i64 w35).bind fun n36 =>
 (k17 [(.i .u64 n0), (.i .i64 n34), (.i .i64 n36)] r31.2).bind fun r37 =>
 (AV.asSl r37.1).bind fun l38 =>
 (k16 [(.sl l38.1 l38.2), (.sl l32.1 l32.2)] r37.2).bind fun r39 =>
 (AV.asB r39.1).bind fun b40 =>
 ((bif (b40 == true) then
 (r39.2.ld (.n σ.next) 0).bind fun w41 =>
 (AV.asI .i64 w41).bind fun n42 =>
 (r39.2.ld (.n σ.next) 1).bind fun w43 =>
 (AV.asI .i64 w43).bind fun n44 =>
 (k17 [(.i .u64 n0), (.i .i64 n42), (.i .i64 n44)] r39.2).bind fun r45 =>
 (AV.asSl r45.1).bind fun l46 =>
 (k16 [(.sl l46.1 l46.2), (.sl l32.1 l32.2)] r45.2).bind fun r47 =>
 (AV.asB r47.1).bind fun b48 =>
 some ([(.b b48)], r47.2)
 else some ([(.b false)], r39.2)) : Option (List AV × AH O)).bind fun r49 =>
 (AV.asB (r49.1.getD 0 .u)).bind fun b50 =>
 some ((.b b50), r49.2))))
 else none
noncomputable def law44_LoadChurns {O : Type} : Sm O := law44_LoadChurns_c law44_awake load_New haymowref44_Next load_Dice__Below haymowref44_Below haymowref44_Churn load_Churn law44_same
theorem law44_LoadChurns_ent : Entered Try.prog 3 := Try.call3
theorem law44_LoadChurns_run {O : Type} (k10 k11 k12 k13 k14 k15 k17 k16 : Sm O) : run (O := O) Try.prog [(10, k10), (11, k11), (12, k12), (13, k13), (14, k14), (15, k15), (17, k17), (16, k16)] Try.f3 (.n .z (.n (.n .z (.n .z .z)) (.n (.n .z (.n .z .z)) (.n .z (.n (.n .z (.n .z .z)) (.n .z (.n (.n .z (.n (.lp true 0 [(8, .one (.i .u64)), (9, .one (.i .i64))] [] (.n (.n .z .z) (.n (.n (.n .z (.n (.d [] [0, 1, 2, 3, 4, 6, 7, 8, 9, 10, 5, 11, 12] [0, 0, 0, 6, 14, 31, 0, 0, 0, 384, 896, 2047, 4095]) (.n .z .z))) .z) .z))) .z)) (.n .z (.n (.g [(8, 8, [(65, .one .b)])]) .z))))))))) = law44_LoadChurns_c k10 k11 k12 k13 k14 k15 k17 k16 := by kernel_rfl
theorem law44_LoadChurns_sound {O : Type} {RO : O → Loc → (Nat → Option Obj) → Prop} : FSound RO Try.prog 3 (law44_LoadChurns) :=
   have h : FSound RO Try.prog 3 (law44_LoadChurns_c law44_awake load_New haymowref44_Next load_Dice__Below haymowref44_Below haymowref44_Churn load_Churn law44_same) := (law44_LoadChurns_run law44_awake load_New haymowref44_Next load_Dice__Below haymowref44_Below haymowref44_Churn load_Churn law44_same) ▸ run_sound (gcons law44_awake_ent (law44_awake_sound) <| gcons load_New_ent (load_New_sound) <| gcons haymowref44_Next_ent (haymowref44_Next_sound) <| gcons load_Dice__Below_ent (load_Dice__Below_sound) <| gcons haymowref44_Below_ent (haymowref44_Below_sound) <| gcons haymowref44_Churn_ent (haymowref44_Churn_sound) <| gcons load_Churn_ent (load_Churn_sound) <| gcons law44_same_ent (law44_same_sound) <| gnil) mixed Try.func3 (by kernel_rfl) _
   h

/-- haymow/haymowref44.one -/
noncomputable def haymowref44_one_c {O : Type} : Sm O := fun xs σ =>
 bif Nat.beq xs.length 2 then
 (AV.asI .i64 (xs.getD 0 .u)).bind fun n0 =>
 (AV.asI .i64 (xs.getD 1 .u)).bind fun n1 =>
 let σ2 := σ.bump 5
 let σ3 := σ2.put σ.next (.cells true 3 [(.i .i64 0), (.i .i64 1), (.i .i64 1), (.i .i64 1), (.i .i64 n1)])
 let σ4 := σ3.put (σ.next + 1) (.cells true 3 [(.i .i64 13), (.i .i64 1), (.i .i64 0), (.i .i64 n0)])
 let σ5 := σ4.put ((σ.next + 1) + 1) (.cells true 3 [(.i .i64 11), (.i .i64 1), (.i .i64 0), (.i .i64 0)])
 let σ6 := σ5.put (((σ.next + 1) + 1) + 1) (.cells true 3 [(.i .i64 8), (.i .i64 0), (.i .i64 1)])
 let σ7 := σ6.put ((((σ.next + 1) + 1) + 1) + 1) (.cells true 24 [(.sl (.loc (.n σ.next) 0 1) 5), (.sl (.loc (.n (σ.next + 1)) 0 1) 4), (.sl (.loc (.n ((σ.next + 1) + 1)) 0 1) 4), (.sl (.loc (.n (((σ.next + 1) + 1) + 1)) 0 1) 3)])
 some ((.sl (.loc (.n ((((σ.next + 1) + 1) + 1) + 1)) 0 1) 4), σ7)
 else none
noncomputable def haymowref44_one {O : Type} : Sm O := frz (haymowref44_one_c)
theorem haymowref44_one_ent : Entered Try.prog 49 := Try.call49
theorem haymowref44_one_run {O : Type} : run (O := O) Try.prog [] Try.f49 (.n .z .z) = haymowref44_one_c  := by kernel_rfl
theorem haymowref44_one_sound {O : Type} {RO : O → Loc → (Nat → Option Obj) → Prop} : FSound RO Try.prog 49 (haymowref44_one) :=
   have h : FSound RO Try.prog 49 (haymowref44_one_c) := (haymowref44_one_run) ▸ run_sound (gnil) mixed Try.func49 (by kernel_rfl) _
   h.frz

/-- haymow/haymowref44.List -/
noncomputable def haymowref44_List_L1 {O : Type} (n0 : Int) (k49 : Sm O) (n1 : Int) : List AV × AH O → Option ((List AV × AH O) ⊕ (List AV × AH O)) := (fun r8 =>
 (AV.asSl (r8.1.getD 0 .u)).bind fun l9 =>
 (AV.asI .i64 (r8.1.getD 1 .u)).bind fun n10 =>
 (bif (decide (n10 < n0)) then
 let σ11 := r8.2.bump 1
 (k49 [(.i .i64 n10), (.i .i64 n1)] σ11).bind fun r12 =>
 (AV.asSl r12.1).bind fun l13 =>
 (r12.2.rdSl l13.1 l13.2 1).bind fun new14 =>
 (bif (Nat.ble ((l9.2 + l13.2) * 25) 35184372088832) then
 (r12.2.appSl r8.2.next 24 1 l9.1 l9.2 l13.2 new14).bind fun r15 =>
 (AV.asSl r15.1).bind fun l16 =>
 some (Sum.inl ([(.sl l16.1 l16.2), (.i .i64 (IntKind.i64.wrap (n10 + 1)))], r15.2))
 else none)
 else some (Sum.inr ([(.sl l9.1 l9.2)], r8.2))))
noncomputable def haymowref44_List_c {O : Type} (k49 : Sm O) : Sm O := fun xs σ =>
 bif Nat.beq xs.length 2 then
 (AV.asI .i64 (xs.getD 0 .u)).bind fun n0 =>
 (AV.asI .i64 (xs.getD 1 .u)).bind fun n1 =>
 ((bif ((decide (n0 < 0)) == false) then
 some ([(.b (decide (n0 > 200)))], σ)
 else some ([(.b true)], σ)) : Option (List AV × AH O)).bind fun r2 =>
 (AV.asB (r2.1.getD 0 .u)).bind fun b3 =>
 (bif b3 then
 some ((.sl .nil 0), r2.2)
 else let σ4 := r2.2.bump 3
 let σ5 := σ4.put r2.2.next (.cells true 3 [(.i .i64 1)])
 let σ6 := σ5.put (r2.2.next + 1) (.cells true 3 [(.i .i64 1)])
 let σ7 := σ6.put ((r2.2.next + 1) + 1) (.cells true 24 [(.sl (.loc (.n r2.2.next) 0 1) 1), (.sl (.loc (.n (r2.2.next + 1)) 0 1) 1)])
 (loopF (S := List AV × AH O) (T := List AV × AH O) (haymowref44_List_L1 n0 k49 n1) ([(.sl (.loc (.n ((r2.2.next + 1) + 1)) 0 1) 2), (.i .i64 0)], σ7)).bind fun r17 =>
 (AV.asSl (r17.1.getD 0 .u)).bind fun l18 =>
 let σ19 := r17.2.bump 3
 let σ20 := σ19.put r17.2.next (.cells true 3 [(.i .i64 2), (.i .i64 1)])
 let σ21 := σ20.put (r17.2.next + 1) (.cells true 24 [(.sl (.loc (.n r17.2.next) 0 1) 2)])
 (σ21.rdSl (.loc (.n (r17.2.next + 1)) 0 1) 1 1).bind fun new22 =>
 (bif (Nat.ble ((l18.2 + 1) * 25) 35184372088832) then
 (σ21.appSl ((r17.2.next + 1) + 1) 24 1 l18.1 l18.2 1 new22).bind fun r23 =>
 (AV.asSl r23.1).bind fun l24 =>
 some ((.sl l24.1 l24.2), r23.2)
 else none))
 else none
noncomputable def haymowref44_List {O : Type} : Sm O := frz (haymowref44_List_c haymowref44_one)
theorem haymowref44_List_ent : Entered Try.prog 19 := Try.call19
theorem haymowref44_List_run {O : Type} (k49 : Sm O) : run (O := O) Try.prog [(49, k49)] Try.f19 (.n .z (.n (.n (.g [(2, 2, [(12, .one .b)])]) (.n .z .z)) (.n .z (.n (.n .z (.n (.lp false 0 [(5, .one .sl), (6, .one (.i .i64))] [(5, .one .sl)] (.n (.n .z .z) (.n .z .z))) .z)) .z)))) = haymowref44_List_c k49 := by kernel_rfl
theorem haymowref44_List_sound {O : Type} {RO : O → Loc → (Nat → Option Obj) → Prop} : FSound RO Try.prog 19 (haymowref44_List) :=
   have h : FSound RO Try.prog 19 (haymowref44_List_c haymowref44_one) := (haymowref44_List_run haymowref44_one) ▸ run_sound (gcons haymowref44_one_ent (haymowref44_one_sound) <| gnil) mixed Try.func19 (by kernel_rfl) _
   h.frz

/-- haymow/load.Ring -/
noncomputable def load_Ring_c {O : Type} (k18 k48 : Sm O) : Sm O := fun xs σ =>
 bif Nat.beq xs.length 2 then
 (AV.asI .i64 (xs.getD 0 .u)).bind fun n0 =>
 (AV.asI .i64 (xs.getD 1 .u)).bind fun n1 =>
 (k18 [(.i .i64 n0), (.i .i64 n1)] σ).bind fun r2 =>
 (AV.asSl r2.1).bind fun l3 =>
 ((bif ((decide (n0 < 1)) == false) then
 some ([(.b (SA.isNil l3.1))], r2.2)
 else some ([(.b true)], r2.2)) : Option (List AV × AH O)).bind fun r4 =>
 (AV.asB (r4.1.getD 0 .u)).bind fun b5 =>
 (bif b5 then
 some ((.sl l3.1 l3.2), r4.2)
 else let σ6 := r4.2.bump 1
 let σ7 := σ6.put r4.2.next (.cells true 95 [(.sl .nil 0)])
 (k48 [(.p (some ((.n r4.2.next), 0))), (.i .i64 1), (.sl .nil 0)] σ7).bind fun r8 =>
 (AV.asTup 0 r8.1).bind fun c9 =>
 (k48 [(.p (some ((.n r4.2.next), 0))), (.i .i64 1), (.sl .nil 0)] r8.2).bind fun r10 =>
 (AV.asTup 0 r10.1).bind fun c11 =>
 (k48 [(.p (some ((.n r4.2.next), 0))), (.i .i64 1), (.sl .nil 0)] r10.2).bind fun r12 =>
 (AV.asTup 0 r12.1).bind fun c13 =>
 let σ14 := r12.2.bump 1
 (σ14.ld (.n r4.2.next) 0).bind fun w15 =>
 (AV.asSl w15).bind fun l16 =>
 (bif (decide ((6 : Int) ≤ (l3.2 : Int))) then
 (SA.adv l3.1 2 1).bind fun a17 =>
 (σ14.rdSl a17 (6 - 2) 1).bind fun new18 =>
 (bif (Nat.ble ((l16.2 + (6 - 2)) * 25) 35184372088832) then
 (σ14.appSl r12.2.next 24 1 l16.1 l16.2 (6 - 2) new18).bind fun r19 =>
 (AV.asSl r19.1).bind fun l20 =>
 (r19.2.st (.n r4.2.next) 0 [(.sl l20.1 l20.2)]).bind fun σ21 =>
 let σ22 := σ21.bump 1
 let σ23 := σ22.put σ21.next (.cells true 3 [(.i .i64 2), (.i .i64 0)])
 (k48 [(.p (some ((.n r4.2.next), 0))), (.i .i64 8), (.sl (.loc (.n σ21.next) 0 1) 2)] σ23).bind fun r24 =>
 (AV.asTup 0 r24.1).bind fun c25 =>
 let σ26 := r24.2.bump 1
 (σ26.ld (.n r4.2.next) 0).bind fun w27 =>
 (AV.asSl w27).bind fun l28 =>
 (bif ((decide ((6 : Int) ≤ (IntKind.i64.wrap ((l3.2 : Int) - 1)))) && (decide ((IntKind.i64.wrap ((l3.2 : Int) - 1)) ≤ (l3.2 : Int)))) then
 (SA.adv l3.1 6 1).bind fun a29 =>
 (σ26.rdSl a29 ((IntKind.i64.wrap ((l3.2 : Int) - 1)).toNat - 6) 1).bind fun new30 =>
 (bif (Nat.ble ((l28.2 + ((IntKind.i64.wrap ((l3.2 : Int) - 1)).toNat - 6)) * 25) 35184372088832) then
 (σ26.appSl r24.2.next 24 1 l28.1 l28.2 ((IntKind.i64.wrap ((l3.2 : Int) - 1)).toNat - 6) new30).bind fun r31 =>
 (AV.asSl r31.1).bind fun l32 =>
 (r31.2.st (.n r4.2.next) 0 [(.sl l32.1 l32.2)]).bind fun σ33 =>
 let σ34 := σ33.bump 1
 let σ35 := σ34.put σ33.next (.cells true 3 [(.i .i64 2), (.i .i64 0), (.i .i64 0)])
 (k48 [(.p (some ((.n r4.2.next), 0))), (.i .i64 11), (.sl (.loc (.n σ33.next) 0 1) 3)] σ35).bind fun r36 =>
 (AV.asTup 0 r36.1).bind fun c37 =>
 let σ38 := r36.2.bump 1
 let σ39 := σ38.put r36.2.next (.cells true 3 [(.i .i64 2)])
 (k48 [(.p (some ((.n r4.2.next), 0))), (.i .i64 2), (.sl (.loc (.n r36.2.next) 0 1) 1)] σ39).bind fun r40 =>
 (AV.asTup 0 r40.1).bind fun c41 =>
 let σ42 := r40.2.bump 1
 let σ43 := σ42.put r40.2.next (.cells true 3 [(.i .i64 1)])
 (k48 [(.p (some ((.n r4.2.next), 0))), (.i .i64 2), (.sl (.loc (.n r40.2.next) 0 1) 1)] σ43).bind fun r44 =>
 (AV.asTup 0 r44.1).bind fun c45 =>
 (r44.2.ld (.n r4.2.next) 0).bind fun w46 =>
 (AV.asSl w46).bind fun l47 =>
 some ((.sl l47.1 l47.2), r44.2)
 else none)
 else none)
 else none)
 else none))
 else none
noncomputable def load_Ring {O : Type} : Sm O := frz (load_Ring_c load_List load_maker__add)
theorem load_Ring_ent : Entered Try.prog 20 := Try.call20
theorem load_Ring_run {O : Type} (k18 k48 : Sm O) : run (O := O) Try.prog [(18, k18), (48, k48)] Try.f20 (.n .z (.n .z (.n (.n (.g [(2, 2, [(15, .one .b)])]) (.n .z .z)) (.n .z (.n .z (.n .z (.n .z (.n (.d [] [0, 1, 2, 3, 4, 5, 6, 7, 8, 9, 10] [0, 0, 2, 6, 14, 0, 32, 126, 255, 511, 1023]) (.n .z (.n (.d [] [0, 1, 2, 3, 4, 5, 6, 7, 8, 9, 10, 11, 12, 13] [0, 0, 2, 6, 14, 0, 0, 64, 192, 480, 1022, 2047, 4095, 8191]) (.n .z (.n .z (.n .z .z))))))))))))) = load_Ring_c k18 k48 := by kernel_rfl
theorem load_Ring_sound {O : Type} {RO : O → Loc → (Nat → Option Obj) → Prop} : FSound RO Try.prog 20 (load_Ring) :=
   have h : FSound RO Try.prog 20 (load_Ring_c load_List load_maker__add) := (load_Ring_run load_List load_maker__add) ▸ run_sound (gcons load_List_ent (load_List_sound) <| gcons load_maker__add_ent (load_maker__add_sound) <| gnil) mixed Try.func20 (by kernel_rfl) _
   h.frz

/-- haymow/haymowref44.Ring -/
noncomputable def haymowref44_Ring_L1 {O : Type} (n0 : Int) (k49 : Sm O) (n1 : Int) : List AV × AH O → Option ((List AV × AH O) ⊕ (List AV × AH O)) := (fun r22 =>
 (AV.asSl (r22.1.getD 0 .u)).bind fun l23 =>
 (AV.asI .i64 (r22.1.getD 1 .u)).bind fun n24 =>
 (bif (decide (n24 < n0)) then
 let σ25 := r22.2.bump 1
 (k49 [(.i .i64 n24), (.i .i64 n1)] σ25).bind fun r26 =>
 (AV.asSl r26.1).bind fun l27 =>
 (r26.2.rdSl l27.1 l27.2 1).bind fun new28 =>
 (bif (Nat.ble ((l23.2 + l27.2) * 25) 35184372088832) then
 (r26.2.appSl r22.2.next 24 1 l23.1 l23.2 l27.2 new28).bind fun r29 =>
 (AV.asSl r29.1).bind fun l30 =>
 some (Sum.inl ([(.sl l30.1 l30.2), (.i .i64 (IntKind.i64.wrap (n24 + 1)))], r29.2))
 else none)
 else some (Sum.inr ([(.sl l23.1 l23.2)], r22.2))))
noncomputable def haymowref44_Ring_c {O : Type} (k19 k49 : Sm O) : Sm O := fun xs σ =>
 bif Nat.beq xs.length 2 then
 (AV.asI .i64 (xs.getD 0 .u)).bind fun n0 =>
 (AV.asI .i64 (xs.getD 1 .u)).bind fun n1 =>
 ((bif ((decide (n0 < 1)) == false) then
 some ([(.b (decide (n0 > 200)))], σ)
 else some ([(.b true)], σ)) : Option (List AV × AH O)).bind fun r2 =>
 (AV.asB (r2.1.getD 0 .u)).bind fun b3 =>
 (bif b3 then
 (k19 [(.i .i64 n0), (.i .i64 n1)] r2.2).bind fun r4 =>
 (AV.asSl r4.1).bind fun l5 =>
 some ((.sl l5.1 l5.2), r4.2)
 else let σ6 := r2.2.bump 5
 let σ7 := σ6.put r2.2.next (.cells true 3 [(.i .i64 1)])
 let σ8 := σ7.put (r2.2.next + 1) (.cells true 3 [(.i .i64 1)])
 let σ9 := σ8.put ((r2.2.next + 1) + 1) (.cells true 3 [(.i .i64 1)])
 let σ10 := σ9.put (((r2.2.next + 1) + 1) + 1) (.cells true 24 [(.sl (.loc (.n r2.2.next) 0 1) 1), (.sl (.loc (.n (r2.2.next + 1)) 0 1) 1), (.sl (.loc (.n ((r2.2.next + 1) + 1)) 0 1) 1)])
 (k49 [(.i .i64 0), (.i .i64 n1)] σ10).bind fun r11 =>
 (AV.asSl r11.1).bind fun l12 =>
 (r11.2.rdSl l12.1 l12.2 1).bind fun new13 =>
 (bif (Nat.ble ((3 + l12.2) * 25) 35184372088832) then
 (r11.2.appSl ((((r2.2.next + 1) + 1) + 1) + 1) 24 1 (.loc (.n (((r2.2.next + 1) + 1) + 1)) 0 1) 3 l12.2 new13).bind fun r14 =>
 (AV.asSl r14.1).bind fun l15 =>
 let σ16 := r14.2.bump 3
 let σ17 := σ16.put r14.2.next (.cells true 3 [(.i .i64 8), (.i .i64 2), (.i .i64 0)])
 let σ18 := σ17.put (r14.2.next + 1) (.cells true 24 [(.sl (.loc (.n r14.2.next) 0 1) 3)])
 (σ18.rdSl (.loc (.n (r14.2.next + 1)) 0 1) 1 1).bind fun new19 =>
 (bif (Nat.ble ((l15.2 + 1) * 25) 35184372088832) then
 (σ18.appSl ((r14.2.next + 1) + 1) 24 1 l15.1 l15.2 1 new19).bind fun r20 =>
 (AV.asSl r20.1).bind fun l21 =>
 (loopF (S := List AV × AH O) (T := List AV × AH O) (haymowref44_Ring_L1 n0 k49 n1) ([(.sl l21.1 l21.2), (.i .i64 1)], r20.2)).bind fun r31 =>
 (AV.asSl (r31.1.getD 0 .u)).bind fun l32 =>
 let σ33 := r31.2.bump 5
 let σ34 := σ33.put r31.2.next (.cells true 3 [(.i .i64 11), (.i .i64 2), (.i .i64 0), (.i .i64 0)])
 let σ35 := σ34.put (r31.2.next + 1) (.cells true 3 [(.i .i64 2), (.i .i64 2)])
 let σ36 := σ35.put ((r31.2.next + 1) + 1) (.cells true 3 [(.i .i64 2), (.i .i64 1)])
 let σ37 := σ36.put (((r31.2.next + 1) + 1) + 1) (.cells true 24 [(.sl (.loc (.n r31.2.next) 0 1) 4), (.sl (.loc (.n (r31.2.next + 1)) 0 1) 2), (.sl (.loc (.n ((r31.2.next + 1) + 1)) 0 1) 2)])
 (σ37.rdSl (.loc (.n (((r31.2.next + 1) + 1) + 1)) 0 1) 3 1).bind fun new38 =>
 (bif (Nat.ble ((l32.2 + 3) * 25) 35184372088832) then
 (σ37.appSl ((((r31.2.next + 1) + 1) + 1) + 1) 24 1 l32.1 l32.2 3 new38).bind fun r39 =>
 (AV.asSl r39.1).bind fun l40 =>
 some ((.sl l40.1 l40.2), r39.2)
 else none)
 else none)
 else none))
 else none
noncomputable def haymowref44_Ring {O : Type} : Sm O := frz (haymowref44_Ring_c haymowref44_List haymowref44_one)
theorem haymowref44_Ring_ent : Entered Try.prog 21 := Try.call21
theorem haymowref44_Ring_run {O : Type} (k19 k49 : Sm O) : run (O := O) Try.prog [(19, k19), (49, k49)] Try.f21 (.n .z (.n (.n (.g [(2, 2, [(12, .one .b)])]) (.n .z .z)) (.n .z (.n .z (.n (.n .z (.n (.lp false 0 [(5, .one .sl), (6, .one (.i .i64))] [(5, .one .sl)] (.n (.n .z .z) (.n .z .z))) .z)) .z))))) = haymowref44_Ring_c k19 k49 := by kernel_rfl
theorem haymowref44_Ring_sound {O : Type} {RO : O → Loc → (Nat → Option Obj) → Prop} : FSound RO Try.prog 21 (haymowref44_Ring) :=
   have h : FSound RO Try.prog 21 (haymowref44_Ring_c haymowref44_List haymowref44_one) := (haymowref44_Ring_run haymowref44_List haymowref44_one) ▸ run_sound (gcons haymowref44_List_ent (haymowref44_List_sound) <| gcons haymowref44_one_ent (haymowref44_one_sound) <| gnil) mixed Try.func21 (by kernel_rfl) _
   h.frz

/-- haymow/roots.Slot -/
noncomputable def roots_Slot_c {O : Type} : Sm O := fun xs σ =>
 bif Nat.beq xs.length 1 then
 (AV.asI .i64 (xs.getD 0 .u)).bind fun n0 =>
 some ((.i .i64 (IntKind.i64.wrap ((-1) - n0))), σ)
 else none
noncomputable def roots_Slot {O : Type} : Sm O := roots_Slot_c
theorem roots_Slot_ent : Entered Try.prog 51 := Try.call51
theorem roots_Slot_run {O : Type} : run (O := O) Try.prog [] Try.f51 (.n .z .z) = roots_Slot_c  := by kernel_rfl
theorem roots_Slot_sound {O : Type} {RO : O → Loc → (Nat → Option Obj) → Prop} : FSound RO Try.prog 51 (roots_Slot) :=
   have h : FSound RO Try.prog 51 (roots_Slot_c) := (roots_Slot_run) ▸ run_sound (gnil) mixed Try.func51 (by kernel_rfl) _
   h

/-- (*haymow/load.maker).tree -/
noncomputable def load_maker__tree_c {O : Type} (k51 k48 k50 : Sm O) : Sm O := fun xs σ =>
 bif Nat.beq xs.length 4 then
 (AV.asP (xs.getD 0 .u)).bind fun p0 =>
 (AV.asI .i64 (xs.getD 1 .u)).bind fun n1 =>
 (AV.asI .i64 (xs.getD 2 .u)).bind fun n2 =>
 (AV.asI .i64 (xs.getD 3 .u)).bind fun n3 =>
 (k51 [(.i .i64 n2)] σ).bind fun r4 =>
 (AV.asI .i64 r4.1).bind fun n5 =>
 (bif ((n1 : Int) == 0) then
 let σ6 := r4.2.bump 1
 let σ7 := σ6.put r4.2.next (.cells true 3 [(.i .i64 n5)])
 (k48 [(.p p0), (.i .i64 9), (.sl (.loc (.n r4.2.next) 0 1) 1)] σ7).bind fun r8 =>
 (AV.asTup 0 r8.1).bind fun c9 =>
 some ((.tup []), r8.2)
 else (k50 [(.p p0), (.i .i64 (IntKind.i64.wrap (n1 - 1))), (.i .i64 (IntKind.i64.wrap (n2 + 1))), (.i .i64 n3)] r4.2).bind fun r10 =>
 (AV.asTup 0 r10.1).bind fun c11 =>
 (k50 [(.p p0), (.i .i64 (IntKind.i64.wrap (n1 - 1))), (.i .i64 (IntKind.i64.wrap (n2 + 2))), (.i .i64 n3)] r10.2).bind fun r12 =>
 (AV.asTup 0 r12.1).bind fun c13 =>
 let σ14 := r12.2.bump 1
 let σ15 := σ14.put r12.2.next (.cells true 3 [(.i .i64 n5), (.i .i64 2), (.i .i64 1), (.i .i64 n3)])
 (k48 [(.p p0), (.i .i64 0), (.sl (.loc (.n r12.2.next) 0 1) 4)] σ15).bind fun r16 =>
 (AV.asTup 0 r16.1).bind fun c17 =>
 let σ18 := r16.2.bump 1
 let σ19 := σ18.put r16.2.next (.cells true 3 [(.i .i64 n5), (.i .i64 0), (.i .i64 n1)])
 (k48 [(.p p0), (.i .i64 13), (.sl (.loc (.n r16.2.next) 0 1) 3)] σ19).bind fun r20 =>
 (AV.asTup 0 r20.1).bind fun c21 =>
 let σ22 := r20.2.bump 1
 (k51 [(.i .i64 (IntKind.i64.wrap (n2 + 1)))] σ22).bind fun r23 =>
 (AV.asI .i64 r23.1).bind fun n24 =>
 let σ25 := r23.2.put r20.2.next (.cells true 3 [(.i .i64 n5), (.i .i64 0), (.i .i64 n24)])
 (k48 [(.p p0), (.i .i64 11), (.sl (.loc (.n r20.2.next) 0 1) 3)] σ25).bind fun r26 =>
 (AV.asTup 0 r26.1).bind fun c27 =>
 let σ28 := r26.2.bump 1
 (k51 [(.i .i64 (IntKind.i64.wrap (n2 + 2)))] σ28).bind fun r29 =>
 (AV.asI .i64 r29.1).bind fun n30 =>
 let σ31 := r29.2.put r26.2.next (.cells true 3 [(.i .i64 n5), (.i .i64 1), (.i .i64 n30)])
 (k48 [(.p p0), (.i .i64 11), (.sl (.loc (.n r26.2.next) 0 1) 3)] σ31).bind fun r32 =>
 (AV.asTup 0 r32.1).bind fun c33 =>
 some ((.tup []), r32.2))
 else none
noncomputable def load_maker__tree {O : Type} (F : Nat) : Sm O := Nat.rec (motive := fun _ => Sm O) (fun _ _ => none) (fun F self => load_maker__tree_c roots_Slot load_maker__add self) F
theorem load_maker__tree_ent : Entered Try.prog 50 := Try.call50
theorem load_maker__tree_run {O : Type} (k51 k48 k50 : Sm O) : run (O := O) Try.prog [(51, k51), (48, k48), (50, k50)] Try.f50 (.n .z (.n (.n .z (.n .z .z)) (.n .z (.n .z (.n .z (.n .z .z)))))) = load_maker__tree_c k51 k48 k50 := by kernel_rfl
theorem load_maker__tree_sound {O : Type} {RO : O → Loc → (Nat → Option Obj) → Prop} (F : Nat) : FSound RO Try.prog 50 (load_maker__tree F) := by
   induction F with
   | zero => exact fun xs σ v σ' h => by cases (show (none : Option (AV × AH O)) = some _ from h)
   | succ F ih =>
     have h : FSound RO Try.prog 50 (load_maker__tree_c roots_Slot load_maker__add (load_maker__tree F)) := (load_maker__tree_run roots_Slot load_maker__add (load_maker__tree F)) ▸ run_sound (gcons roots_Slot_ent (roots_Slot_sound) <| gcons load_maker__add_ent (load_maker__add_sound) <| gcons load_maker__tree_ent ih <| gnil) mixed Try.func50 (by kernel_rfl) _
     exact h

/-- haymow/load.Tree -/
noncomputable def load_Tree_c {O : Type} (k48 k50 k51 : Sm O) : Sm O := fun xs σ =>
 bif Nat.beq xs.length 2 then
 (AV.asI .i64 (xs.getD 0 .u)).bind fun n0 =>
 (AV.asI .i64 (xs.getD 1 .u)).bind fun n1 =>
 ((bif ((decide (n0 < 0)) == false) then
 some ([(.b (decide (n0 > 7)))], σ)
 else some ([(.b true)], σ)) : Option (List AV × AH O)).bind fun r2 =>
 (AV.asB (r2.1.getD 0 .u)).bind fun b3 =>
 (bif b3 then
 some ((.sl .nil 0), r2.2)
 else let σ4 := r2.2.bump 1
 let σ5 := σ4.put r2.2.next (.cells true 95 [(.sl .nil 0)])
 (k48 [(.p (some ((.n r2.2.next), 0))), (.i .i64 1), (.sl .nil 0)] σ5).bind fun r6 =>
 (AV.asTup 0 r6.1).bind fun c7 =>
 let σ8 := r6.2.bump 1
 let v9 : Int := (IntKind.i64.wrap ((IntKind.i64.wrap (2 * n0)) + 1))
 let σ10 := σ8.put r6.2.next (.cells true 3 [(.i .i64 v9)])
 (k48 [(.p (some ((.n r2.2.next), 0))), (.i .i64 3), (.sl (.loc (.n r6.2.next) 0 1) 1)] σ10).bind fun r11 =>
 (AV.asTup 0 r11.1).bind fun c12 =>
 (k50 [(.p (some ((.n r2.2.next), 0))), (.i .i64 n0), (.i .i64 0), (.i .i64 n1)] r11.2).bind fun r13 =>
 (AV.asTup 0 r13.1).bind fun c14 =>
 let σ15 := r13.2.bump 1
 (k51 [(.i .i64 0)] σ15).bind fun r16 =>
 (AV.asI .i64 r16.1).bind fun n17 =>
 let σ18 := r16.2.put r13.2.next (.cells true 3 [(.i .i64 0), (.i .i64 n17)])
 (k48 [(.p (some ((.n r2.2.next), 0))), (.i .i64 8), (.sl (.loc (.n r13.2.next) 0 1) 2)] σ18).bind fun r19 =>
 (AV.asTup 0 r19.1).bind fun c20 =>
 (k48 [(.p (some ((.n r2.2.next), 0))), (.i .i64 4), (.sl .nil 0)] r19.2).bind fun r21 =>
 (AV.asTup 0 r21.1).bind fun c22 =>
 (r21.2.ld (.n r2.2.next) 0).bind fun w23 =>
 (AV.asSl w23).bind fun l24 =>
 some ((.sl l24.1 l24.2), r21.2))
 else none
noncomputable def load_Tree {O : Type} (F : Nat) : Sm O := frz (load_Tree_c load_maker__add (load_maker__tree F) roots_Slot)
theorem load_Tree_ent : Entered Try.prog 22 := Try.call22
theorem load_Tree_run {O : Type} (k48 k50 k51 : Sm O) : run (O := O) Try.prog [(48, k48), (50, k50), (51, k51)] Try.f22 (.n .z (.n (.n (.g [(2, 2, [(11, .one .b)])]) (.n .z .z)) (.n .z (.n .z (.n .z (.n .z (.n .z (.n .z .z)))))))) = load_Tree_c k48 k50 k51 := by kernel_rfl
theorem load_Tree_sound {O : Type} {RO : O → Loc → (Nat → Option Obj) → Prop} (F : Nat) : FSound RO Try.prog 22 (load_Tree F) :=
   have h : FSound RO Try.prog 22 (load_Tree_c load_maker__add (load_maker__tree F) roots_Slot) := (load_Tree_run load_maker__add (load_maker__tree F) roots_Slot) ▸ run_sound (gcons load_maker__add_ent (load_maker__add_sound) <| gcons load_maker__tree_ent (load_maker__tree_sound F) <| gcons roots_Slot_ent (roots_Slot_sound) <| gnil) mixed Try.func22 (by kernel_rfl) _
   h.frz

/-- haymow/haymowref44.tree -/
noncomputable def haymowref44_tree_c {O : Type} (k52 : Sm O) : Sm O := fun xs σ =>
 bif Nat.beq xs.length 3 then
 (AV.asI .i64 (xs.getD 0 .u)).bind fun n0 =>
 (AV.asI .i64 (xs.getD 1 .u)).bind fun n1 =>
 (AV.asI .i64 (xs.getD 2 .u)).bind fun n2 =>
 (bif ((n0 : Int) == 0) then
 let σ3 := σ.bump 2
 let σ4 := σ3.put σ.next (.cells true 3 [(.i .i64 9), (.i .i64 (IntKind.i64.wrap ((-1) - n1)))])
 let σ5 := σ4.put (σ.next + 1) (.cells true 24 [(.sl (.loc (.n σ.next) 0 1) 2)])
 some ((.sl (.loc (.n (σ.next + 1)) 0 1) 1), σ5)
 else let σ6 := σ.bump 1
 (k52 [(.i .i64 (IntKind.i64.wrap (n0 - 1))), (.i .i64 (IntKind.i64.wrap (n1 + 1))), (.i .i64 n2)] σ6).bind fun r7 =>
 (AV.asSl r7.1).bind fun l8 =>
 (k52 [(.i .i64 (IntKind.i64.wrap (n0 - 1))), (.i .i64 (IntKind.i64.wrap (n1 + 2))), (.i .i64 n2)] r7.2).bind fun r9 =>
 (AV.asSl r9.1).bind fun l10 =>
 (r9.2.rdSl l10.1 l10.2 1).bind fun new11 =>
 (bif (Nat.ble ((l8.2 + l10.2) * 25) 35184372088832) then
 (r9.2.appSl σ.next 24 1 l8.1 l8.2 l10.2 new11).bind fun r12 =>
 (AV.asSl r12.1).bind fun l13 =>
 let σ14 := r12.2.bump 6
 let σ15 := σ14.put r12.2.next (.cells true 3 [(.i .i64 0), (.i .i64 (IntKind.i64.wrap ((-1) - n1))), (.i .i64 2), (.i .i64 1), (.i .i64 n2)])
 let σ16 := σ15.put (r12.2.next + 1) (.cells true 3 [(.i .i64 13), (.i .i64 (IntKind.i64.wrap ((-1) - n1))), (.i .i64 0), (.i .i64 n0)])
 let v17 : Int := (IntKind.i64.wrap ((IntKind.i64.wrap ((-1) - n1)) - 1))
 let σ18 := σ16.put ((r12.2.next + 1) + 1) (.cells true 3 [(.i .i64 11), (.i .i64 (IntKind.i64.wrap ((-1) - n1))), (.i .i64 0), (.i .i64 v17)])
 let v19 : Int := (IntKind.i64.wrap ((IntKind.i64.wrap ((-1) - n1)) - 2))
 let σ20 := σ18.put (((r12.2.next + 1) + 1) + 1) (.cells true 3 [(.i .i64 11), (.i .i64 (IntKind.i64.wrap ((-1) - n1))), (.i .i64 1), (.i .i64 v19)])
 let σ21 := σ20.put ((((r12.2.next + 1) + 1) + 1) + 1) (.cells true 24 [(.sl (.loc (.n r12.2.next) 0 1) 5), (.sl (.loc (.n (r12.2.next + 1)) 0 1) 4), (.sl (.loc (.n ((r12.2.next + 1) + 1)) 0 1) 4), (.sl (.loc (.n (((r12.2.next + 1) + 1) + 1)) 0 1) 4)])
 (σ21.rdSl (.loc (.n ((((r12.2.next + 1) + 1) + 1) + 1)) 0 1) 4 1).bind fun new22 =>
 (bif (Nat.ble ((l13.2 + 4) * 25) 35184372088832) then
 (σ21.appSl (((((r12.2.next + 1) + 1) + 1) + 1) + 1) 24 1 l13.1 l13.2 4 new22).bind fun r23 =>
 (AV.asSl r23.1).bind fun l24 =>
 some ((.sl l24.1 l24.2), r23.2)
 else none)
 else none))
 else none
noncomputable def haymowref44_tree {O : Type} (F : Nat) : Sm O := Nat.rec (motive := fun _ => Sm O) (fun _ _ => none) (fun F self => haymowref44_tree_c self) F
theorem haymowref44_tree_ent : Entered Try.prog 52 := Try.call52
theorem haymowref44_tree_run {O : Type} (k52 : Sm O) : run (O := O) Try.prog [(52, k52)] Try.f52 (.n .z (.n .z (.n (.n .z (.n .z .z)) (.n .z .z)))) = haymowref44_tree_c k52 := by kernel_rfl
theorem haymowref44_tree_sound {O : Type} {RO : O → Loc → (Nat → Option Obj) → Prop} (F : Nat) : FSound RO Try.prog 52 (haymowref44_tree F) := by
   induction F with
   | zero => exact fun xs σ v σ' h => by cases (show (none : Option (AV × AH O)) = some _ from h)
   | succ F ih =>
     have h : FSound RO Try.prog 52 (haymowref44_tree_c (haymowref44_tree F)) := (haymowref44_tree_run (haymowref44_tree F)) ▸ run_sound (gcons haymowref44_tree_ent ih <| gnil) mixed Try.func52 (by kernel_rfl) _
     exact h

/-- haymow/haymowref44.Tree -/
noncomputable def haymowref44_Tree_c {O : Type} (k52 : Sm O) : Sm O := fun xs σ =>
 bif Nat.beq xs.length 2 then
 (AV.asI .i64 (xs.getD 0 .u)).bind fun n0 =>
 (AV.asI .i64 (xs.getD 1 .u)).bind fun n1 =>
 ((bif ((decide (n0 < 0)) == false) then
 some ([(.b (decide (n0 > 7)))], σ)
 else some ([(.b true)], σ)) : Option (List AV × AH O)).bind fun r2 =>
 (AV.asB (r2.1.getD 0 .u)).bind fun b3 =>
 (bif b3 then
 some ((.sl .nil 0), r2.2)
 else let σ4 := r2.2.bump 4
 let σ5 := σ4.put r2.2.next (.cells true 3 [(.i .i64 1)])
 let v6 : Int := (IntKind.i64.wrap ((IntKind.i64.wrap (2 * n0)) + 1))
 let σ7 := σ5.put (r2.2.next + 1) (.cells true 3 [(.i .i64 3), (.i .i64 v6)])
 let σ8 := σ7.put ((r2.2.next + 1) + 1) (.cells true 24 [(.sl (.loc (.n r2.2.next) 0 1) 1), (.sl (.loc (.n (r2.2.next + 1)) 0 1) 2)])
 (k52 [(.i .i64 n0), (.i .i64 0), (.i .i64 n1)] σ8).bind fun r9 =>
 (AV.asSl r9.1).bind fun l10 =>
 (r9.2.rdSl l10.1 l10.2 1).bind fun new11 =>
 (bif (Nat.ble ((2 + l10.2) * 25) 35184372088832) then
 (r9.2.appSl (((r2.2.next + 1) + 1) + 1) 24 1 (.loc (.n ((r2.2.next + 1) + 1)) 0 1) 2 l10.2 new11).bind fun r12 =>
 (AV.asSl r12.1).bind fun l13 =>
 let σ14 := r12.2.bump 4
 let σ15 := σ14.put r12.2.next (.cells true 3 [(.i .i64 8), (.i .i64 0), (.i .i64 (-1))])
 let σ16 := σ15.put (r12.2.next + 1) (.cells true 3 [(.i .i64 4)])
 let σ17 := σ16.put ((r12.2.next + 1) + 1) (.cells true 24 [(.sl (.loc (.n r12.2.next) 0 1) 3), (.sl (.loc (.n (r12.2.next + 1)) 0 1) 1)])
 (σ17.rdSl (.loc (.n ((r12.2.next + 1) + 1)) 0 1) 2 1).bind fun new18 =>
 (bif (Nat.ble ((l13.2 + 2) * 25) 35184372088832) then
 (σ17.appSl (((r12.2.next + 1) + 1) + 1) 24 1 l13.1 l13.2 2 new18).bind fun r19 =>
 (AV.asSl r19.1).bind fun l20 =>
 some ((.sl l20.1 l20.2), r19.2)
 else none)
 else none))
 else none
noncomputable def haymowref44_Tree {O : Type} (F : Nat) : Sm O := frz (haymowref44_Tree_c (haymowref44_tree F))
theorem haymowref44_Tree_ent : Entered Try.prog 23 := Try.call23
theorem haymowref44_Tree_run {O : Type} (k52 : Sm O) : run (O := O) Try.prog [(52, k52)] Try.f23 (.n .z (.n (.n (.g [(2, 2, [(11, .one .b)])]) (.n .z .z)) (.n .z .z))) = haymowref44_Tree_c k52 := by kernel_rfl
theorem haymowref44_Tree_sound {O : Type} {RO : O → Loc → (Nat → Option Obj) → Prop} (F : Nat) : FSound RO Try.prog 23 (haymowref44_Tree F) :=
   have h : FSound RO Try.prog 23 (haymowref44_Tree_c (haymowref44_tree F)) := (haymowref44_Tree_run (haymowref44_tree F)) ▸ run_sound (gcons haymowref44_tree_ent (haymowref44_tree_sound F) <| gnil) mixed Try.func23 (by kernel_rfl) _
   h.frz

/-- haymow/haymowlaw44.LoadScripts -/
noncomputable def law44_LoadScripts_c {O : Type} (k10 k18 k19 k16 k20 k21 k22 k23 : Sm O) : Sm O := fun xs σ =>
 bif Nat.beq xs.length 3 then
 (AV.asI .i64 (xs.getD 0 .u)).bind fun n0 =>
 (AV.asI .i64 (xs.getD 1 .u)).bind fun n1 =>
 (AV.asI .i64 (xs.getD 2 .u)).bind fun n2 =>
 (k10 [] σ).bind fun r3 =>
 (AV.asB r3.1).bind fun b4 =>
 (bif (!b4) then
 some ((.b false), r3.2)
 else (k18 [(.i .i64 n0), (.i .i64 n2)] r3.2).bind fun r5 =>
 (AV.asSl r5.1).bind fun l6 =>
 (k19 [(.i .i64 n0), (.i .i64 n2)] r5.2).bind fun r7 =>
 (AV.asSl r7.1).bind fun l8 =>
 (k16 [(.sl l6.1 l6.2), (.sl l8.1 l8.2)] r7.2).bind fun r9 =>
 (AV.asB r9.1).bind fun b10 =>
 ((bif (b10 == true) then
 (k20 [(.i .i64 n0), (.i .i64 n2)] r9.2).bind fun r11 =>
 (AV.asSl r11.1).bind fun l12 =>
 (k21 [(.i .i64 n0), (.i .i64 n2)] r11.2).bind fun r13 =>
 (AV.asSl r13.1).bind fun l14 =>
 (k16 [(.sl l12.1 l12.2), (.sl l14.1 l14.2)] r13.2).bind fun r15 =>
 (AV.asB r15.1).bind fun b16 =>
 some ([(.b b16)], r15.2)
 else some ([(.b false)], r9.2)) : Option (List AV × AH O)).bind fun r17 =>
 (AV.asB (r17.1.getD 0 .u)).bind fun b18 =>
 ((bif (b18 == true) then
 (k22 [(.i .i64 n1), (.i .i64 n2)] r17.2).bind fun r19 =>
 (AV.asSl r19.1).bind fun l20 =>
 (k23 [(.i .i64 n1), (.i .i64 n2)] r19.2).bind fun r21 =>
 (AV.asSl r21.1).bind fun l22 =>
 (k16 [(.sl l20.1 l20.2), (.sl l22.1 l22.2)] r21.2).bind fun r23 =>
 (AV.asB r23.1).bind fun b24 =>
 some ([(.b b24)], r23.2)
 else some ([(.b false)], r17.2)) : Option (List AV × AH O)).bind fun r25 =>
 (AV.asB (r25.1.getD 0 .u)).bind fun b26 =>
 some ((.b b26), r25.2))
 else none
noncomputable def law44_LoadScripts {O : Type} (F : Nat) : Sm O := law44_LoadScripts_c law44_awake load_List haymowref44_List law44_same load_Ring haymowref44_Ring (load_Tree F) (haymowref44_Tree F)
theorem law44_LoadScripts_ent : Entered Try.prog 4 := Try.call4
theorem law44_LoadScripts_run {O : Type} (k10 k18 k19 k16 k20 k21 k22 k23 : Sm O) : run (O := O) Try.prog [(10, k10), (18, k18), (19, k19), (16, k16), (20, k20), (21, k21), (22, k22), (23, k23)] Try.f4 (.n .z (.n (.n .z (.n .z .z)) (.n (.g [(7, 7, [(24, .one .b)]), (16, 7, [(33, .one .b)])]) .z))) = law44_LoadScripts_c k10 k18 k19 k16 k20 k21 k22 k23 := by kernel_rfl
theorem law44_LoadScripts_sound {O : Type} {RO : O → Loc → (Nat → Option Obj) → Prop} (F : Nat) : FSound RO Try.prog 4 (law44_LoadScripts F) :=
   have h : FSound RO Try.prog 4 (law44_LoadScripts_c law44_awake load_List haymowref44_List law44_same load_Ring haymowref44_Ring (load_Tree F) (haymowref44_Tree F)) := (law44_LoadScripts_run law44_awake load_List haymowref44_List law44_same load_Ring haymowref44_Ring (load_Tree F) (haymowref44_Tree F)) ▸ run_sound (gcons law44_awake_ent (law44_awake_sound) <| gcons load_List_ent (load_List_sound) <| gcons haymowref44_List_ent (haymowref44_List_sound) <| gcons law44_same_ent (law44_same_sound) <| gcons load_Ring_ent (load_Ring_sound) <| gcons haymowref44_Ring_ent (haymowref44_Ring_sound) <| gcons load_Tree_ent (load_Tree_sound F) <| gcons haymowref44_Tree_ent (haymowref44_Tree_sound F) <| gnil) mixed Try.func4 (by kernel_rfl) _
   h

end Go.Abs.Try
