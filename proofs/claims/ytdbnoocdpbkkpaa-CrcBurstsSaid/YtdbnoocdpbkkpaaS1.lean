/-
  What the functions of the program do, each as a function of Lean, and that it does so. No conditions.
-/
import Derived.Test.YtdbnoocdpbkkpaaAbsRun
import Derived.Test.YtdbnoocdpbkkpaaProg
import Derived.KernelRfl
set_option linter.unusedVariables false
set_option linter.unusedSimpArgs false
set_option maxRecDepth 100000
namespace Go.Abs.Try
open Go Go.Abs Go.Proofs

theorem mixed : Try.prog.follows .mixedOrders = true := by kernel_rfl
/-- haymow/varint.Put -/
noncomputable def varint_Put {O : Type} : Sm O := fun xs σ =>
 bif Nat.beq xs.length 2 then
 (AV.asSl (xs.getD 0 .u)).bind fun l0 =>
 (AV.asI .u64 (xs.getD 1 .u)).bind fun n1 =>
 let σ2 := σ.bump 2
 let σ3 := σ2.put σ.next (.cells true 5 [])
 (σ3.rdSl l0.1 l0.2 1).bind fun new4 =>
 (bif (Nat.ble ((0 + l0.2) * 2) 35184372088832) then
 (σ3.appSl (σ.next + 1) 5 1 (.loc σ.next 0 1) 0 l0.2 new4).bind fun r5 =>
 (AV.asSl r5.1).bind fun l6 =>
 (loopF (S := List AV × AH O) (T := List AV × AH O) (fun r7 =>
 (AV.asI .u64 (r7.1.getD 0 .u)).bind fun n8 =>
 (AV.asSl (r7.1.getD 1 .u)).bind fun l9 =>
 (bif (decide (n8 ≥ 128)) then
 let σ10 := r7.2.bump 2
 let σ11 := σ10.put r7.2.next (.cells true 5 [(.i .u8 (ibits .or .u8 (IntKind.u8.wrap n8) 128))])
 (σ11.rdSl (.loc r7.2.next 0 1) 1 1).bind fun new12 =>
 (bif (Nat.ble ((l9.2 + 1) * 2) 35184372088832) then
 (σ11.appSl (r7.2.next + 1) 5 1 l9.1 l9.2 1 new12).bind fun r13 =>
 (AV.asSl r13.1).bind fun l14 =>
 some (Sum.inl ([(.i .u64 (Int.fdiv n8 (2 ^ 7))), (.sl l14.1 l14.2)], r13.2))
 else none)
 else some (Sum.inr ([(.i .u64 n8), (.sl l9.1 l9.2)], r7.2)))) ([(.i .u64 n1), (.sl l6.1 l6.2)], r5.2)).bind fun r15 =>
 (AV.asI .u64 (r15.1.getD 0 .u)).bind fun n16 =>
 (AV.asSl (r15.1.getD 1 .u)).bind fun l17 =>
 let σ18 := r15.2.bump 2
 let σ19 := σ18.put r15.2.next (.cells true 5 [(.i .u8 (IntKind.u8.wrap n16))])
 (σ19.rdSl (.loc r15.2.next 0 1) 1 1).bind fun new20 =>
 (bif (Nat.ble ((l17.2 + 1) * 2) 35184372088832) then
 (σ19.appSl (r15.2.next + 1) 5 1 l17.1 l17.2 1 new20).bind fun r21 =>
 (AV.asSl r21.1).bind fun l22 =>
 some ((.sl l22.1 l22.2), r21.2)
 else none)
 else none)
 else none
theorem varint_Put_run {O : Type} : run (O := O) Try.prog [] Try.f30 (.n .z (.n .z (.n (.n (.lp false 0 [(1, .one (.i .u64)), (5, .one .sl)] [(1, .one (.i .u64)), (5, .one .sl)] (.n (.n .z .z) (.n .z .z))) .z) .z))) = varint_Put := by kernel_rfl
theorem varint_Put_sound {O : Type} {RO : O → Loc → (Nat → Option Obj) → Prop} : FSound RO Try.prog 30 varint_Put :=
   varint_Put_run ▸ run_sound (gnil) mixed Try.func30 (by kernel_rfl) _
theorem varint_Put_ent : Entered Try.prog 30 := Try.call30

/-- haymow/varint.Zig -/
noncomputable def varint_Zig {O : Type} : Sm O := fun xs σ =>
 bif Nat.beq xs.length 1 then
 (AV.asI .i64 (xs.getD 0 .u)).bind fun n0 =>
 let v1 : Int := (IntKind.u64.wrap ((IntKind.u64.wrap n0) * 2 ^ 1))
 let v2 : Int := (ibits .xor .u64 v1 (IntKind.u64.wrap (Int.fdiv n0 (2 ^ 63))))
 some ((.i .u64 v2), σ)
 else none
theorem varint_Zig_run {O : Type} : run (O := O) Try.prog [] Try.f15 (.n .z .z) = varint_Zig := by kernel_rfl
theorem varint_Zig_sound {O : Type} {RO : O → Loc → (Nat → Option Obj) → Prop} : FSound RO Try.prog 15 varint_Zig :=
   varint_Zig_run ▸ run_sound (gnil) mixed Try.func15 (by kernel_rfl) _
theorem varint_Zig_ent : Entered Try.prog 15 := Try.call15

/-- haymow/varint.Zag -/
noncomputable def varint_Zag {O : Type} : Sm O := fun xs σ =>
 bif Nat.beq xs.length 1 then
 (AV.asI .u64 (xs.getD 0 .u)).bind fun n0 =>
 let v1 : Int := (IntKind.i64.wrap (0 - (IntKind.i64.wrap (ibits .and .u64 n0 1))))
 let v2 : Int := (ibits .xor .i64 (IntKind.i64.wrap (Int.fdiv n0 (2 ^ 1))) v1)
 some ((.i .i64 v2), σ)
 else none
theorem varint_Zag_run {O : Type} : run (O := O) Try.prog [] Try.f16 (.n .z .z) = varint_Zag := by kernel_rfl
theorem varint_Zag_sound {O : Type} {RO : O → Loc → (Nat → Option Obj) → Prop} : FSound RO Try.prog 16 varint_Zag :=
   varint_Zag_run ▸ run_sound (gnil) mixed Try.func16 (by kernel_rfl) _
theorem varint_Zag_ent : Entered Try.prog 16 := Try.call16

/-- haymow/haymowlaw05.awake -/
noncomputable def law05_awake {O : Type} : Sm O := fun xs σ =>
 bif Nat.beq xs.length 0 then
 (varint_Put [(.sl .nil 0), (.i .u64 300)] σ).bind fun r0 =>
 (AV.asSl r0.1).bind fun l1 =>
 (r0.2.rdSl l1.1 l1.2 1).bind fun c2 =>
 (asBytes c2).bind fun s3 =>
 ((bif ((s3 == ([172, 2] : List UInt8)) == true) then
 (varint_Zig [(.i .i64 (-1))] r0.2).bind fun r4 =>
 (AV.asI .u64 r4.1).bind fun n5 =>
 some ([(.b ((n5 : Int) == 1))], r4.2)
 else some ([(.b false)], r0.2)) : Option (List AV × AH O)).bind fun r6 =>
 (AV.asB (r6.1.getD 0 .u)).bind fun b7 =>
 ((bif (b7 == true) then
 (varint_Zag [(.i .u64 1)] r6.2).bind fun r8 =>
 (AV.asI .i64 r8.1).bind fun n9 =>
 some ([(.b ((n9 : Int) == (-1)))], r8.2)
 else some ([(.b false)], r6.2)) : Option (List AV × AH O)).bind fun r10 =>
 (AV.asB (r10.1.getD 0 .u)).bind fun b11 =>
 some ((.b b11), r10.2)
 else none
theorem law05_awake_run {O : Type} : run (O := O) Try.prog [(30, varint_Put), (15, varint_Zig), (16, varint_Zag)] Try.f14 (.n .z (.n (.g [(3, 2, [(7, .one .b)]), (7, 2, [(11, .one .b)])]) .z)) = law05_awake := by kernel_rfl
theorem law05_awake_sound {O : Type} {RO : O → Loc → (Nat → Option Obj) → Prop} : FSound RO Try.prog 14 law05_awake :=
   law05_awake_run ▸ run_sound (gcons varint_Put_ent varint_Put_sound <| gcons varint_Zig_ent varint_Zig_sound <| gcons varint_Zag_ent varint_Zag_sound <| gnil) mixed Try.func14 (by kernel_rfl) _
theorem law05_awake_ent : Entered Try.prog 14 := Try.call14

/-- haymow/varint.Size -/
noncomputable def varint_Size {O : Type} : Sm O := fun xs σ =>
 bif Nat.beq xs.length 1 then
 (AV.asI .u64 (xs.getD 0 .u)).bind fun n0 =>
 (loopF (S := List AV × AH O) (T := List AV × AH O) (fun r1 =>
 (AV.asI .u64 (r1.1.getD 0 .u)).bind fun n2 =>
 (AV.asI .i64 (r1.1.getD 1 .u)).bind fun n3 =>
 (bif (decide (n2 ≥ 128)) then
 some (Sum.inl ([(.i .u64 (Int.fdiv n2 (2 ^ 7))), (.i .i64 (IntKind.i64.wrap (n3 + 1)))], r1.2))
 else some (Sum.inr ([(.i .i64 n3)], r1.2)))) ([(.i .u64 n0), (.i .i64 1)], σ)).bind fun r4 =>
 (AV.asI .i64 (r4.1.getD 0 .u)).bind fun n5 =>
 some ((.i .i64 n5), r4.2)
 else none
theorem varint_Size_run {O : Type} : run (O := O) Try.prog [] Try.f17 (.n .z (.n .z (.n (.n (.lp false 0 [(0, .one (.i .u64)), (3, .one (.i .i64))] [(3, .one (.i .i64))] (.n (.n .z .z) (.n .z .z))) .z) .z))) = varint_Size := by kernel_rfl
theorem varint_Size_sound {O : Type} {RO : O → Loc → (Nat → Option Obj) → Prop} : FSound RO Try.prog 17 varint_Size :=
   varint_Size_run ▸ run_sound (gnil) mixed Try.func17 (by kernel_rfl) _
theorem varint_Size_ent : Entered Try.prog 17 := Try.call17

/-- haymow/haymowlaw05.VarintZigs -/
noncomputable def law05_VarintZigs {O : Type} : Sm O := fun xs σ =>
 bif Nat.beq xs.length 2 then
 (AV.asI .i64 (xs.getD 0 .u)).bind fun n0 =>
 (AV.asI .u64 (xs.getD 1 .u)).bind fun n1 =>
 (law05_awake [] σ).bind fun r2 =>
 (AV.asB r2.1).bind fun b3 =>
 (bif (!b3) then
 some ((.b false), r2.2)
 else (varint_Zig [(.i .i64 n0)] r2.2).bind fun r4 =>
 (AV.asI .u64 r4.1).bind fun n5 =>
 (varint_Zag [(.i .u64 n5)] r4.2).bind fun r6 =>
 (AV.asI .i64 r6.1).bind fun n7 =>
 ((bif (((n7 : Int) != n0) == false) then
 (varint_Zag [(.i .u64 n1)] r6.2).bind fun r8 =>
 (AV.asI .i64 r8.1).bind fun n9 =>
 (varint_Zig [(.i .i64 n9)] r8.2).bind fun r10 =>
 (AV.asI .u64 r10.1).bind fun n11 =>
 some ([(.b ((n11 : Int) != n1))], r10.2)
 else some ([(.b true)], r6.2)) : Option (List AV × AH O)).bind fun r12 =>
 (AV.asB (r12.1.getD 0 .u)).bind fun b13 =>
 ((bif (b13 == false) then
 let c14 : Bool := (!((((Int.tmod n5 2) : Int) == 1) == (decide (n0 < 0))))
 some ([(.b c14)], r12.2)
 else some ([(.b true)], r12.2)) : Option (List AV × AH O)).bind fun r15 =>
 (AV.asB (r15.1.getD 0 .u)).bind fun b16 =>
 (bif b16 then
 some ((.b false), r15.2)
 else (varint_Size [(.i .u64 n5)] r15.2).bind fun r17 =>
 (AV.asI .i64 r17.1).bind fun n18 =>
 ((bif ((decide (n0 ≥ (-64))) == true) then
 some ([(.b (decide (n0 ≤ 63)))], r17.2)
 else some ([(.b false)], r17.2)) : Option (List AV × AH O)).bind fun r19 =>
 (AV.asB (r19.1.getD 0 .u)).bind fun b20 =>
 some ((.b (((n18 : Int) == 1) == b20)), r19.2)))
 else none
theorem law05_VarintZigs_run {O : Type} : run (O := O) Try.prog [(14, law05_awake), (15, varint_Zig), (16, varint_Zag), (17, varint_Size)] Try.f3 (.n .z (.n (.n .z (.n .z .z)) (.n .z (.n (.n (.g [(4, 5, [(20, .one .b)]), (11, 6, [(28, .one .b)])]) (.n .z .z)) (.n (.g [(5, 2, [(37, .one .b)])]) .z))))) = law05_VarintZigs := by kernel_rfl
theorem law05_VarintZigs_sound {O : Type} {RO : O → Loc → (Nat → Option Obj) → Prop} : FSound RO Try.prog 3 law05_VarintZigs :=
   law05_VarintZigs_run ▸ run_sound (gcons law05_awake_ent law05_awake_sound <| gcons varint_Zig_ent varint_Zig_sound <| gcons varint_Zag_ent varint_Zag_sound <| gcons varint_Size_ent varint_Size_sound <| gnil) mixed Try.func3 (by kernel_rfl) _
theorem law05_VarintZigs_ent : Entered Try.prog 3 := Try.call3

/-- haymow/ref.ToSmall -/
noncomputable def ref_ToSmall {O : Type} : Sm O := fun xs σ =>
 bif Nat.beq xs.length 1 then
 (AV.asI .i64 (xs.getD 0 .u)).bind fun n0 =>
 ((bif ((decide (n0 < 0)) == false) then
 some ([(.b (decide (n0 ≥ 4194304)))], σ)
 else some ([(.b true)], σ)) : Option (List AV × AH O)).bind fun r1 =>
 (AV.asB (r1.1.getD 0 .u)).bind fun b2 =>
 (bif b2 then
 some ((.tup [(.i .u64 0), (.i .i64 2)]), r1.2)
 else let v3 : Int := (IntKind.u64.wrap ((IntKind.u64.wrap n0) * 2 ^ 1))
 some ((.tup [(.i .u64 (ibits .or .u64 v3 1)), (.i .i64 0)]), r1.2))
 else none
theorem ref_ToSmall_run {O : Type} : run (O := O) Try.prog [] Try.f19 (.n .z (.n (.n (.g [(2, 2, [(9, .one .b)])]) (.n .z .z)) .z)) = ref_ToSmall := by kernel_rfl
theorem ref_ToSmall_sound {O : Type} {RO : O → Loc → (Nat → Option Obj) → Prop} : FSound RO Try.prog 19 ref_ToSmall :=
   ref_ToSmall_run ▸ run_sound (gnil) mixed Try.func19 (by kernel_rfl) _
theorem ref_ToSmall_ent : Entered Try.prog 19 := Try.call19

/-- haymow/ref.ToLarge -/
noncomputable def ref_ToLarge {O : Type} : Sm O := fun xs σ =>
 bif Nat.beq xs.length 1 then
 (AV.asI .i64 (xs.getD 0 .u)).bind fun n0 =>
 ((bif ((decide (n0 < 1)) == false) then
 some ([(.b (decide (n0 > 1048576)))], σ)
 else some ([(.b true)], σ)) : Option (List AV × AH O)).bind fun r1 =>
 (AV.asB (r1.1.getD 0 .u)).bind fun b2 =>
 (bif b2 then
 some ((.tup [(.i .u64 0), (.i .i64 2)]), r1.2)
 else let v3 : Int := (IntKind.u64.wrap ((IntKind.u64.wrap n0) * 2 ^ 1))
 some ((.tup [(.i .u64 v3), (.i .i64 0)]), r1.2))
 else none
theorem ref_ToLarge_run {O : Type} : run (O := O) Try.prog [] Try.f20 (.n .z (.n (.n (.g [(2, 2, [(9, .one .b)])]) (.n .z .z)) .z)) = ref_ToLarge := by kernel_rfl
theorem ref_ToLarge_sound {O : Type} {RO : O → Loc → (Nat → Option Obj) → Prop} : FSound RO Try.prog 20 ref_ToLarge :=
   ref_ToLarge_run ▸ run_sound (gnil) mixed Try.func20 (by kernel_rfl) _
theorem ref_ToLarge_ent : Entered Try.prog 20 := Try.call20

/-- (haymow/ref.Ref).Kind -/
noncomputable def ref_Ref__Kind {O : Type} : Sm O := fun xs σ =>
 bif Nat.beq xs.length 1 then
 (AV.asI .u64 (xs.getD 0 .u)).bind fun n0 =>
 (bif ((n0 : Int) == 0) then
 some ((.i .i64 0), σ)
 else ((bif ((((ibits .and .u64 n0 1) : Int) == 1) == true) then
 some ([(.b (decide ((Int.fdiv n0 (2 ^ 1)) < 4194304)))], σ)
 else some ([(.b false)], σ)) : Option (List AV × AH O)).bind fun r1 =>
 (AV.asB (r1.1.getD 0 .u)).bind fun b2 =>
 (bif b2 then
 some ((.i .i64 1), r1.2)
 else ((bif ((((ibits .and .u64 n0 1) : Int) == 0) == true) then
 some ([(.b (decide ((Int.fdiv n0 (2 ^ 1)) ≤ 1048576)))], r1.2)
 else some ([(.b false)], r1.2)) : Option (List AV × AH O)).bind fun r3 =>
 (AV.asB (r3.1.getD 0 .u)).bind fun b4 =>
 (bif b4 then
 some ((.i .i64 2), r3.2)
 else some ((.i .i64 3), r3.2))))
 else none
theorem ref_Ref__Kind_run {O : Type} : run (O := O) Try.prog [] Try.f28 (.n .z (.n .z (.n (.n (.n .z (.n .z (.n (.g [(3, 2, [(16, .one .b)])]) (.n .z (.n (.g [(3, 2, [(24, .one .b)])]) (.n .z .z)))))) .z) .z))) = ref_Ref__Kind := by kernel_rfl
theorem ref_Ref__Kind_sound {O : Type} {RO : O → Loc → (Nat → Option Obj) → Prop} : FSound RO Try.prog 28 ref_Ref__Kind :=
   ref_Ref__Kind_run ▸ run_sound (gnil) mixed Try.func28 (by kernel_rfl) _
theorem ref_Ref__Kind_ent : Entered Try.prog 28 := Try.call28

/-- haymow/haymowlaw11.awake -/
noncomputable def law11_awake {O : Type} : Sm O := fun xs σ =>
 bif Nat.beq xs.length 0 then
 (ref_ToSmall [(.i .i64 5)] σ).bind fun r0 =>
 (AV.asTup 2 r0.1).bind fun c1 =>
 (AV.asI .u64 (c1.getD 0 .u)).bind fun n2 =>
 (AV.asI .i64 (c1.getD 1 .u)).bind fun n3 =>
 (ref_ToLarge [(.i .i64 5)] r0.2).bind fun r4 =>
 (AV.asTup 2 r4.1).bind fun c5 =>
 (AV.asI .u64 (c5.getD 0 .u)).bind fun n6 =>
 (AV.asI .i64 (c5.getD 1 .u)).bind fun n7 =>
 ((bif (((n2 : Int) == 11) == true) then
 some ([(.b ((n3 : Int) == 0))], r4.2)
 else some ([(.b false)], r4.2)) : Option (List AV × AH O)).bind fun r8 =>
 (AV.asB (r8.1.getD 0 .u)).bind fun b9 =>
 ((bif (b9 == true) then
 some ([(.b ((n6 : Int) == 10))], r8.2)
 else some ([(.b false)], r8.2)) : Option (List AV × AH O)).bind fun r10 =>
 (AV.asB (r10.1.getD 0 .u)).bind fun b11 =>
 ((bif (b11 == true) then
 some ([(.b ((n7 : Int) == 0))], r10.2)
 else some ([(.b false)], r10.2)) : Option (List AV × AH O)).bind fun r12 =>
 (AV.asB (r12.1.getD 0 .u)).bind fun b13 =>
 ((bif (b13 == true) then
 (ref_Ref__Kind [(.i .u64 n2)] r12.2).bind fun r14 =>
 (AV.asI .i64 r14.1).bind fun n15 =>
 some ([(.b ((n15 : Int) == 1))], r14.2)
 else some ([(.b false)], r12.2)) : Option (List AV × AH O)).bind fun r16 =>
 (AV.asB (r16.1.getD 0 .u)).bind fun b17 =>
 some ((.b b17), r16.2)
 else none
theorem law11_awake_run {O : Type} : run (O := O) Try.prog [(19, ref_ToSmall), (20, ref_ToLarge), (28, ref_Ref__Kind)] Try.f18 (.n .z (.n .z (.n .z (.n (.g [(2, 2, [(18, .one .b)]), (6, 2, [(22, .one .b)]), (10, 2, [(26, .one .b)]), (14, 3, [(31, .one .b)])]) .z)))) = law11_awake := by kernel_rfl
theorem law11_awake_sound {O : Type} {RO : O → Loc → (Nat → Option Obj) → Prop} : FSound RO Try.prog 18 law11_awake :=
   law11_awake_run ▸ run_sound (gcons ref_ToSmall_ent ref_ToSmall_sound <| gcons ref_ToLarge_ent ref_ToLarge_sound <| gcons ref_Ref__Kind_ent ref_Ref__Kind_sound <| gnil) mixed Try.func18 (by kernel_rfl) _
theorem law11_awake_ent : Entered Try.prog 18 := Try.call18

/-- haymow/haymowlaw11.RefApart -/
noncomputable def law11_RefApart {O : Type} : Sm O := fun xs σ =>
 bif Nat.beq xs.length 2 then
 (AV.asI .i64 (xs.getD 0 .u)).bind fun n0 =>
 (AV.asI .i64 (xs.getD 1 .u)).bind fun n1 =>
 (law11_awake [] σ).bind fun r2 =>
 (AV.asB r2.1).bind fun b3 =>
 (bif (!b3) then
 some ((.b false), r2.2)
 else (ref_ToSmall [(.i .i64 n0)] r2.2).bind fun r4 =>
 (AV.asTup 2 r4.1).bind fun c5 =>
 (AV.asI .u64 (c5.getD 0 .u)).bind fun n6 =>
 (AV.asI .i64 (c5.getD 1 .u)).bind fun n7 =>
 (ref_ToSmall [(.i .i64 n1)] r4.2).bind fun r8 =>
 (AV.asTup 2 r8.1).bind fun c9 =>
 (AV.asI .u64 (c9.getD 0 .u)).bind fun n10 =>
 (AV.asI .i64 (c9.getD 1 .u)).bind fun n11 =>
 (ref_ToLarge [(.i .i64 n0)] r8.2).bind fun r12 =>
 (AV.asTup 2 r12.1).bind fun c13 =>
 (AV.asI .u64 (c13.getD 0 .u)).bind fun n14 =>
 (AV.asI .i64 (c13.getD 1 .u)).bind fun n15 =>
 (ref_ToLarge [(.i .i64 n1)] r12.2).bind fun r16 =>
 (AV.asTup 2 r16.1).bind fun c17 =>
 (AV.asI .u64 (c17.getD 0 .u)).bind fun n18 =>
 (AV.asI .i64 (c17.getD 1 .u)).bind fun n19 =>
 ((bif (((n7 : Int) == 0) == true) then
 some ([(.b ((n11 : Int) == 0))], r16.2)
 else some ([(.b false)], r16.2)) : Option (List AV × AH O)).bind fun r20 =>
 (AV.asB (r20.1.getD 0 .u)).bind fun b21 =>
 ((bif (b21 == true) then
 some ([(.b (!(((n6 : Int) == n10) == ((n0 : Int) == n1))))], r20.2)
 else some ([(.b false)], r20.2)) : Option (List AV × AH O)).bind fun r22 =>
 (AV.asB (r22.1.getD 0 .u)).bind fun b23 =>
 ((bif (b23 == false) then
 ((bif (((n15 : Int) == 0) == true) then
 some ([(.b ((n19 : Int) == 0))], r22.2)
 else some ([(.b false)], r22.2)) : Option (List AV × AH O)).bind fun r24 =>
 (AV.asB (r24.1.getD 0 .u)).bind fun b25 =>
 ((bif (b25 == true) then
 some ([(.b (!(((n14 : Int) == n18) == ((n0 : Int) == n1))))], r24.2)
 else some ([(.b false)], r24.2)) : Option (List AV × AH O)).bind fun r26 =>
 (AV.asB (r26.1.getD 0 .u)).bind fun b27 =>
 some ([(.b b27)], r26.2)
 else some ([(.b true)], r22.2)) : Option (List AV × AH O)).bind fun r28 =>
 (AV.asB (r28.1.getD 0 .u)).bind fun b29 =>
 (bif b29 then
 some ((.b false), r28.2)
 else ((bif (((n7 : Int) != 0) == false) then
 ((bif (((n6 : Int) != 0) == true) then
 ((bif (((n19 : Int) != 0) == false) then
 some ([(.b ((n6 : Int) != n18))], r28.2)
 else some ([(.b true)], r28.2)) : Option (List AV × AH O)).bind fun r30 =>
 (AV.asB (r30.1.getD 0 .u)).bind fun b31 =>
 some ([(.b b31)], r30.2)
 else some ([(.b false)], r28.2)) : Option (List AV × AH O)).bind fun r32 =>
 (AV.asB (r32.1.getD 0 .u)).bind fun b33 =>
 some ([(.b b33)], r32.2)
 else some ([(.b true)], r28.2)) : Option (List AV × AH O)).bind fun r34 =>
 (AV.asB (r34.1.getD 0 .u)).bind fun b35 =>
 ((bif (b35 == true) then
 ((bif (((n15 : Int) != 0) == false) then
 ((bif (((n14 : Int) != 0) == true) then
 ((bif (((n11 : Int) != 0) == false) then
 some ([(.b ((n14 : Int) != n10))], r34.2)
 else some ([(.b true)], r34.2)) : Option (List AV × AH O)).bind fun r36 =>
 (AV.asB (r36.1.getD 0 .u)).bind fun b37 =>
 some ([(.b b37)], r36.2)
 else some ([(.b false)], r34.2)) : Option (List AV × AH O)).bind fun r38 =>
 (AV.asB (r38.1.getD 0 .u)).bind fun b39 =>
 some ([(.b b39)], r38.2)
 else some ([(.b true)], r34.2)) : Option (List AV × AH O)).bind fun r40 =>
 (AV.asB (r40.1.getD 0 .u)).bind fun b41 =>
 some ([(.b b41)], r40.2)
 else some ([(.b false)], r34.2)) : Option (List AV × AH O)).bind fun r42 =>
 (AV.asB (r42.1.getD 0 .u)).bind fun b43 =>
 some ((.b b43), r42.2)))
 else none
theorem law11_RefApart_run {O : Type} : run (O := O) Try.prog [(18, law11_awake), (19, ref_ToSmall), (20, ref_ToLarge)] Try.f4 (.n .z (.n (.n .z (.n .z .z)) (.n .z (.n .z (.n .z (.n .z (.n (.n (.g [(2, 2, [(40, .one .b)]), (6, 7, [(49, .one .b)]), (15, 15, [(66, .one .b)]), (18, 2, [(56, .one .b)]), (22, 7, [(65, .one .b)])]) (.n .z .z)) (.n (.g [(2, 11, [(81, .one .b)]), (5, 7, [(80, .one .b)]), (8, 3, [(79, .one .b)]), (15, 15, [(98, .one .b)]), (18, 11, [(97, .one .b)]), (21, 7, [(96, .one .b)]), (24, 3, [(95, .one .b)])]) .z)))))))) = law11_RefApart := by kernel_rfl
theorem law11_RefApart_sound {O : Type} {RO : O → Loc → (Nat → Option Obj) → Prop} : FSound RO Try.prog 4 law11_RefApart :=
   law11_RefApart_run ▸ run_sound (gcons law11_awake_ent law11_awake_sound <| gcons ref_ToSmall_ent ref_ToSmall_sound <| gcons ref_ToLarge_ent ref_ToLarge_sound <| gnil) mixed Try.func4 (by kernel_rfl) _
theorem law11_RefApart_ent : Entered Try.prog 4 := Try.call4

/-- haymow/crc.step -/
noncomputable def crc_step {O : Type} : Sm O := fun xs σ =>
 bif Nat.beq xs.length 2 then
 (AV.asI .u64 (xs.getD 0 .u)).bind fun n0 =>
 (AV.asI .u8 (xs.getD 1 .u)).bind fun n1 =>
 let v2 : Int := (IntKind.u64.wrap ((IntKind.u64.wrap n1) * 2 ^ 56))
 (loopF (S := List AV × AH O) (T := List AV × AH O) (fun r3 =>
 (AV.asI .u64 (r3.1.getD 0 .u)).bind fun n4 =>
 (AV.asI .i64 (r3.1.getD 1 .u)).bind fun n5 =>
 (bif (decide (n5 < 8)) then
 let v6 : Int := (ibits .and .u64 4823603603198064275 (IntKind.u64.wrap (0 - (Int.fdiv n4 (2 ^ 63)))))
 let v7 : Int := (ibits .xor .u64 (IntKind.u64.wrap (n4 * 2 ^ 1)) v6)
 some (Sum.inl ([(.i .u64 v7), (.i .i64 (IntKind.i64.wrap (n5 + 1)))], r3.2))
 else some (Sum.inr ([(.i .u64 n4)], r3.2)))) ([(.i .u64 (ibits .xor .u64 n0 v2)), (.i .i64 0)], σ)).bind fun r8 =>
 (AV.asI .u64 (r8.1.getD 0 .u)).bind fun n9 =>
 some ((.i .u64 n9), r8.2)
 else none
theorem crc_step_run {O : Type} : run (O := O) Try.prog [] Try.f44 (.n .z (.n .z (.n (.n .z (.n (.lp false 0 [(0, .one (.i .u64)), (11, .one (.i .i64))] [(0, .one (.i .u64))] (.n .z (.n .z (.n (.n .z .z) .z)))) .z)) .z))) = crc_step := by kernel_rfl
theorem crc_step_sound {O : Type} {RO : O → Loc → (Nat → Option Obj) → Prop} : FSound RO Try.prog 44 crc_step :=
   crc_step_run ▸ run_sound (gnil) mixed Try.func44 (by kernel_rfl) _
theorem crc_step_ent : Entered Try.prog 44 := Try.call44

/-- haymow/crc.More -/
noncomputable def crc_More {O : Type} : Sm O := fun xs σ =>
 bif Nat.beq xs.length 2 then
 (AV.asI .u64 (xs.getD 0 .u)).bind fun n0 =>
 (AV.asSl (xs.getD 1 .u)).bind fun l1 =>
 (loopF (S := List AV × AH O) (T := List AV × AH O) (fun r2 =>
 (AV.asI .u64 (r2.1.getD 0 .u)).bind fun n3 =>
 (AV.asI .i64 (r2.1.getD 1 .u)).bind fun n4 =>
 (bif (decide (n4 < (l1.2 : Int))) then
 (bif ((decide ((0 : Int) ≤ n4)) && (decide (n4 < (l1.2 : Int)))) then
 (SA.ref l1.1).bind fun q5 =>
 (r2.2.ld q5.1 (q5.2 + (n4.toNat * 1))).bind fun w6 =>
 (AV.asI .u8 w6).bind fun n7 =>
 (crc_step [(.i .u64 n3), (.i .u8 n7)] r2.2).bind fun r8 =>
 (AV.asI .u64 r8.1).bind fun n9 =>
 some (Sum.inl ([(.i .u64 n9), (.i .i64 (IntKind.i64.wrap (n4 + 1)))], r8.2))
 else none)
 else some (Sum.inr ([(.i .u64 n3)], r2.2)))) ([(.i .u64 n0), (.i .i64 0)], σ)).bind fun r10 =>
 (AV.asI .u64 (r10.1.getD 0 .u)).bind fun n11 =>
 some ((.i .u64 n11), r10.2)
 else none
theorem crc_More_run {O : Type} : run (O := O) Try.prog [(44, crc_step)] Try.f25 (.n .z (.n (.n .z (.n (.lp false 0 [(0, .one (.i .u64)), (9, .one (.i .i64))] [(0, .one (.i .u64))] (.n .z (.n .z (.n (.n .z .z) .z)))) .z)) .z)) = crc_More := by kernel_rfl
theorem crc_More_sound {O : Type} {RO : O → Loc → (Nat → Option Obj) → Prop} : FSound RO Try.prog 25 crc_More :=
   crc_More_run ▸ run_sound (gcons crc_step_ent crc_step_sound <| gnil) mixed Try.func25 (by kernel_rfl) _
theorem crc_More_ent : Entered Try.prog 25 := Try.call25

/-- haymow/crc.Sum -/
noncomputable def crc_Sum {O : Type} : Sm O := fun xs σ =>
 bif Nat.beq xs.length 1 then
 (AV.asSl (xs.getD 0 .u)).bind fun l0 =>
 (loopF (S := List AV × AH O) (T := List AV × AH O) (fun r1 =>
 (AV.asI .u64 (r1.1.getD 0 .u)).bind fun n2 =>
 (AV.asI .i64 (r1.1.getD 1 .u)).bind fun n3 =>
 (bif (decide (n3 < (l0.2 : Int))) then
 (bif ((decide ((0 : Int) ≤ n3)) && (decide (n3 < (l0.2 : Int)))) then
 (SA.ref l0.1).bind fun q4 =>
 (r1.2.ld q4.1 (q4.2 + (n3.toNat * 1))).bind fun w5 =>
 (AV.asSl w5).bind fun l6 =>
 (crc_More [(.i .u64 n2), (.sl l6.1 l6.2)] r1.2).bind fun r7 =>
 (AV.asI .u64 r7.1).bind fun n8 =>
 some (Sum.inl ([(.i .u64 n8), (.i .i64 (IntKind.i64.wrap (n3 + 1)))], r7.2))
 else none)
 else some (Sum.inr ([(.i .u64 n2)], r1.2)))) ([(.i .u64 0), (.i .i64 0)], σ)).bind fun r9 =>
 (AV.asI .u64 (r9.1.getD 0 .u)).bind fun n10 =>
 some ((.i .u64 n10), r9.2)
 else none
theorem crc_Sum_run {O : Type} : run (O := O) Try.prog [(25, crc_More)] Try.f24 (.n .z (.n .z (.n (.n .z (.n (.lp false 0 [(3, .one (.i .u64)), (8, .one (.i .i64))] [(3, .one (.i .u64))] (.n .z (.n .z (.n (.n .z .z) .z)))) .z)) .z))) = crc_Sum := by kernel_rfl
theorem crc_Sum_sound {O : Type} {RO : O → Loc → (Nat → Option Obj) → Prop} : FSound RO Try.prog 24 crc_Sum :=
   crc_Sum_run ▸ run_sound (gcons crc_More_ent crc_More_sound <| gnil) mixed Try.func24 (by kernel_rfl) _
theorem crc_Sum_ent : Entered Try.prog 24 := Try.call24

/-- haymow/crc.Seal -/
noncomputable def crc_Seal {O : Type} : Sm O := fun xs σ =>
 bif Nat.beq xs.length 1 then
 (AV.asSl (xs.getD 0 .u)).bind fun l0 =>
 let σ1 := σ.bump 2
 let σ2 := σ1.put σ.next (.cells true 5 [])
 (σ2.rdSl l0.1 l0.2 1).bind fun new3 =>
 (bif (Nat.ble ((0 + l0.2) * 2) 35184372088832) then
 (σ2.appSl (σ.next + 1) 5 1 (.loc σ.next 0 1) 0 l0.2 new3).bind fun r4 =>
 (AV.asSl r4.1).bind fun l5 =>
 let σ6 := r4.2.bump 1
 let σ7 := σ6.put r4.2.next (.cells true 32 [(.sl l0.1 l0.2)])
 (crc_Sum [(.sl (.loc r4.2.next 0 1) 1)] σ7).bind fun r8 =>
 (AV.asI .u64 r8.1).bind fun n9 =>
 (loopF (S := List AV × AH O) (T := List AV × AH O) (fun r10 =>
 (AV.asSl (r10.1.getD 0 .u)).bind fun l11 =>
 (AV.asI .i64 (r10.1.getD 1 .u)).bind fun n12 =>
 (bif (decide (n12 < 8)) then
 let σ13 := r10.2.bump 2
 let v14 : Int := (IntKind.i64.wrap (56 - (IntKind.i64.wrap (8 * n12))))
 (bif (decide (v14 < 0)) then
 none
 else let v15 : Int := (IntKind.u8.wrap (Int.fdiv n9 (2 ^ min v14.toNat 64)))
 let σ16 := σ13.put r10.2.next (.cells true 5 [(.i .u8 v15)])
 (σ16.rdSl (.loc r10.2.next 0 1) 1 1).bind fun new17 =>
 (bif (Nat.ble ((l11.2 + 1) * 2) 35184372088832) then
 (σ16.appSl (r10.2.next + 1) 5 1 l11.1 l11.2 1 new17).bind fun r18 =>
 (AV.asSl r18.1).bind fun l19 =>
 some (Sum.inl ([(.sl l19.1 l19.2), (.i .i64 (IntKind.i64.wrap (n12 + 1)))], r18.2))
 else none))
 else some (Sum.inr ([(.sl l11.1 l11.2)], r10.2)))) ([(.sl l5.1 l5.2), (.i .i64 0)], r8.2)).bind fun r20 =>
 (AV.asSl (r20.1.getD 0 .u)).bind fun l21 =>
 some ((.sl l21.1 l21.2), r20.2)
 else none)
 else none
theorem crc_Seal_run {O : Type} : run (O := O) Try.prog [(24, crc_Sum)] Try.f35 (.n .z (.n .z (.n .z (.n (.n .z (.n (.lp false 0 [(3, .one .sl), (12, .one (.i .i64))] [(3, .one .sl)] (.n .z (.n .z (.n (.n .z .z) .z)))) .z)) .z)))) = crc_Seal := by kernel_rfl
theorem crc_Seal_sound {O : Type} {RO : O → Loc → (Nat → Option Obj) → Prop} : FSound RO Try.prog 35 crc_Seal :=
   crc_Seal_run ▸ run_sound (gcons crc_Sum_ent crc_Sum_sound <| gnil) mixed Try.func35 (by kernel_rfl) _
theorem crc_Seal_ent : Entered Try.prog 35 := Try.call35

/-- haymow/haymowlaw06.awake -/
noncomputable def law06_awake {O : Type} : Sm O := fun xs σ =>
 bif Nat.beq xs.length 0 then
 let σ0 := σ.bump 2
 let σ1 := σ0.put σ.next (.cells true 5 [(.i .u8 1)])
 let σ2 := σ1.put (σ.next + 1) (.cells true 32 [(.sl (.loc σ.next 0 1) 1)])
 (crc_Sum [(.sl (.loc (σ.next + 1) 0 1) 1)] σ2).bind fun r3 =>
 (AV.asI .u64 r3.1).bind fun n4 =>
 ((bif (((n4 : Int) == 4823603603198064275) == true) then
 (crc_Seal [(.sl .nil 0)] r3.2).bind fun r5 =>
 (AV.asSl r5.1).bind fun l6 =>
 (r5.2.rdSl l6.1 l6.2 1).bind fun c7 =>
 (asBytes c7).bind fun s8 =>
 some ([(.b (s8 == ([0, 0, 0, 0, 0, 0, 0, 0] : List UInt8)))], r5.2)
 else some ([(.b false)], r3.2)) : Option (List AV × AH O)).bind fun r9 =>
 (AV.asB (r9.1.getD 0 .u)).bind fun b10 =>
 some ((.b b10), r9.2)
 else none
theorem law06_awake_run {O : Type} : run (O := O) Try.prog [(24, crc_Sum), (35, crc_Seal)] Try.f21 (.n .z (.n (.g [(4, 3, [(9, .one .b)])]) .z)) = law06_awake := by kernel_rfl
theorem law06_awake_sound {O : Type} {RO : O → Loc → (Nat → Option Obj) → Prop} : FSound RO Try.prog 21 law06_awake :=
   law06_awake_run ▸ run_sound (gcons crc_Sum_ent crc_Sum_sound <| gcons crc_Seal_ent crc_Seal_sound <| gnil) mixed Try.func21 (by kernel_rfl) _
theorem law06_awake_ent : Entered Try.prog 21 := Try.call21

/-- haymow/haymowlaw06.few -/
noncomputable def law06_few {O : Type} : Sm O := fun xs σ =>
 bif Nat.beq xs.length 1 then
 (AV.asSl (xs.getD 0 .u)).bind fun l0 =>
 let v1 : Int := (if 300 < (l0.2 : Int) then 300 else (l0.2 : Int))
 (bif ((decide ((0 : Int) ≤ v1)) && (decide (v1 ≤ (l0.2 : Int)))) then
 (SA.adv l0.1 0 1).bind fun a2 =>
 some ((.sl a2 (v1.toNat - 0)), σ)
 else none)
 else none
theorem law06_few_run {O : Type} : run (O := O) Try.prog [] Try.f22 (.n .z .z) = law06_few := by kernel_rfl
theorem law06_few_sound {O : Type} {RO : O → Loc → (Nat → Option Obj) → Prop} : FSound RO Try.prog 22 law06_few :=
   law06_few_run ▸ run_sound (gnil) mixed Try.func22 (by kernel_rfl) _
theorem law06_few_ent : Entered Try.prog 22 := Try.call22

/-- haymow/haymowref06.Bits -/
noncomputable def haymowref06_Bits {O : Type} : Sm O := fun xs σ =>
 bif Nat.beq xs.length 1 then
 (AV.asSl (xs.getD 0 .u)).bind fun l0 =>
 (loopF (S := List AV × AH O) (T := List AV × AH O) (fun r1 =>
 (AV.asSl (r1.1.getD 0 .u)).bind fun l2 =>
 (AV.asI .i64 (r1.1.getD 1 .u)).bind fun n3 =>
 (bif (decide (n3 < (l0.2 : Int))) then
 (loopF (S := List AV × AH O) (T := List AV × AH O) (fun r4 =>
 (AV.asSl (r4.1.getD 0 .u)).bind fun l5 =>
 (AV.asI .i64 (r4.1.getD 1 .u)).bind fun n6 =>
 (bif (decide (n6 ≥ 0)) then
 let σ7 := r4.2.bump 2
 (bif ((decide ((0 : Int) ≤ n3)) && (decide (n3 < (l0.2 : Int)))) then
 (SA.ref l0.1).bind fun q8 =>
 (σ7.ld q8.1 (q8.2 + (n3.toNat * 1))).bind fun w9 =>
 (AV.asI .u8 w9).bind fun n10 =>
 (bif (decide ((IntKind.u64.wrap n6) < 0)) then
 none
 else let v11 : Int := (Int.fdiv n10 (2 ^ min (IntKind.u64.wrap n6).toNat 8))
 let σ12 := σ7.put r4.2.next (.cells true 4 [(.b (((Int.tmod v11 2) : Int) == 1))])
 (σ12.rdSl (.loc r4.2.next 0 1) 1 1).bind fun new13 =>
 (bif (Nat.ble ((l5.2 + 1) * 2) 35184372088832) then
 (σ12.appSl (r4.2.next + 1) 4 1 l5.1 l5.2 1 new13).bind fun r14 =>
 (AV.asSl r14.1).bind fun l15 =>
 some (Sum.inl ([(.sl l15.1 l15.2), (.i .i64 (IntKind.i64.wrap (n6 - 1)))], r14.2))
 else none))
 else none)
 else some (Sum.inr ([(.sl l5.1 l5.2)], r4.2)))) ([(.sl l2.1 l2.2), (.i .i64 7)], r1.2)).bind fun r16 =>
 (AV.asSl (r16.1.getD 0 .u)).bind fun l17 =>
 some (Sum.inl ([(.sl l17.1 l17.2), (.i .i64 (IntKind.i64.wrap (n3 + 1)))], r16.2))
 else some (Sum.inr ([(.sl l2.1 l2.2)], r1.2)))) ([(.sl .nil 0), (.i .i64 0)], σ)).bind fun r18 =>
 (AV.asSl (r18.1.getD 0 .u)).bind fun l19 =>
 some ((.sl l19.1 l19.2), r18.2)
 else none
theorem haymowref06_Bits_run {O : Type} : run (O := O) Try.prog [] Try.f45 (.n .z (.n .z (.n (.n .z (.n (.lp false 0 [(3, .one .sl), (4, .one (.i .i64))] [(3, .one .sl)] (.n (.n .z .z) (.n (.n (.n .z (.n (.lp false 2 [(3, .one .sl), (5, .one (.i .i64))] [(3, .one .sl)] (.n (.n .z .z) (.n .z .z))) .z)) .z) .z))) .z)) .z))) = haymowref06_Bits := by kernel_rfl
theorem haymowref06_Bits_sound {O : Type} {RO : O → Loc → (Nat → Option Obj) → Prop} : FSound RO Try.prog 45 haymowref06_Bits :=
   haymowref06_Bits_run ▸ run_sound (gnil) mixed Try.func45 (by kernel_rfl) _
theorem haymowref06_Bits_ent : Entered Try.prog 45 := Try.call45

/-- haymow/haymowref06.List -/
noncomputable def haymowref06_List {O : Type} : Sm O := fun xs σ =>
 bif Nat.beq xs.length 1 then
 (AV.asI .u64 (xs.getD 0 .u)).bind fun n0 =>
 let σ1 := σ.bump 1
 let σ2 := σ1.put σ.next (.cells true 4 ((List.replicate 64 [(.b false)]).flatten))
 (loopF (S := List AV × AH O) (T := List AV × AH O) (fun r3 =>
 (AV.asI .u64 (r3.1.getD 0 .u)).bind fun n4 =>
 (AV.asI .i64 (r3.1.getD 1 .u)).bind fun n5 =>
 (bif (decide (n5 ≥ 0)) then
 (bif ((decide ((0 : Int) ≤ n5)) && (decide (n5 < 64))) then
 (r3.2.st σ.next (0 + (n5.toNat * 1)) [(.b (((Int.tmod n4 2) : Int) == 1))]).bind fun σ6 =>
 some (Sum.inl ([(.i .u64 (IntKind.u64.wrap (Int.tdiv n4 2))), (.i .i64 (IntKind.i64.wrap (n5 - 1)))], σ6))
 else none)
 else some (Sum.inr ([], r3.2)))) ([(.i .u64 n0), (.i .i64 63)], σ2)).bind fun r7 =>
 some ((.sl (.loc σ.next 0 1) 64), r7.2)
 else none
theorem haymowref06_List_run {O : Type} : run (O := O) Try.prog [] Try.f46 (.n .z (.n .z (.n (.n .z (.n (.lp false 0 [(0, .one (.i .u64)), (4, .one (.i .i64))] [] (.n (.n .z .z) (.n (.n .z .z) .z))) .z)) .z))) = haymowref06_List := by kernel_rfl
theorem haymowref06_List_sound {O : Type} {RO : O → Loc → (Nat → Option Obj) → Prop} : FSound RO Try.prog 46 haymowref06_List :=
   haymowref06_List_run ▸ run_sound (gnil) mixed Try.func46 (by kernel_rfl) _
theorem haymowref06_List_ent : Entered Try.prog 46 := Try.call46

/-- haymow/haymowref06.Word -/
noncomputable def haymowref06_Word {O : Type} : Sm O := fun xs σ =>
 bif Nat.beq xs.length 1 then
 (AV.asSl (xs.getD 0 .u)).bind fun l0 =>
 (loopF (S := List AV × AH O) (T := List AV × AH O) (fun r1 =>
 (AV.asI .u64 (r1.1.getD 0 .u)).bind fun n2 =>
 (AV.asI .i64 (r1.1.getD 1 .u)).bind fun n3 =>
 (bif (decide (n3 < 64)) then
 (bif ((decide ((0 : Int) ≤ n3)) && (decide (n3 < (l0.2 : Int)))) then
 (SA.ref l0.1).bind fun q4 =>
 (r1.2.ld q4.1 (q4.2 + (n3.toNat * 1))).bind fun w5 =>
 (AV.asB w5).bind fun b6 =>
 ((bif b6 then
 let v7 : Int := (IntKind.u64.wrap ((IntKind.u64.wrap (n2 * 2)) + 1))
 some ([(.i .u64 v7)], r1.2)
 else some ([(.i .u64 (IntKind.u64.wrap (n2 * 2)))], r1.2)) : Option (List AV × AH O)).bind fun r8 =>
 (AV.asI .u64 (r8.1.getD 0 .u)).bind fun n9 =>
 some (Sum.inl ([(.i .u64 n9), (.i .i64 (IntKind.i64.wrap (n3 + 1)))], r8.2))
 else none)
 else some (Sum.inr ([(.i .u64 n2)], r1.2)))) ([(.i .u64 0), (.i .i64 0)], σ)).bind fun r10 =>
 (AV.asI .u64 (r10.1.getD 0 .u)).bind fun n11 =>
 some ((.i .u64 n11), r10.2)
 else none
theorem haymowref06_Word_run {O : Type} : run (O := O) Try.prog [] Try.f47 (.n .z (.n .z (.n (.n .z (.n (.lp false 0 [(3, .one (.i .u64)), (4, .one (.i .i64))] [(3, .one (.i .u64))] (.n (.n .z .z) (.n (.n (.n .z (.n .z (.j false [(3, .one (.i .u64))] .z .z))) .z) .z))) .z)) .z))) = haymowref06_Word := by kernel_rfl
theorem haymowref06_Word_sound {O : Type} {RO : O → Loc → (Nat → Option Obj) → Prop} : FSound RO Try.prog 47 haymowref06_Word :=
   haymowref06_Word_run ▸ run_sound (gnil) mixed Try.func47 (by kernel_rfl) _
theorem haymowref06_Word_ent : Entered Try.prog 47 := Try.call47

/-- haymow/haymowref06.More -/
noncomputable def haymowref06_More {O : Type} : Sm O := fun xs σ =>
 bif Nat.beq xs.length 2 then
 (AV.asI .u64 (xs.getD 0 .u)).bind fun n0 =>
 (AV.asSl (xs.getD 1 .u)).bind fun l1 =>
 let σ2 := σ.bump 1
 (haymowref06_Bits [(.sl l1.1 l1.2)] σ2).bind fun r3 =>
 (AV.asSl r3.1).bind fun l4 =>
 (bif (Nat.ble ((l4.2 + 64) * 2) 35184372088832) then
 (r3.2.appSl σ.next 4 1 l4.1 l4.2 64 ((List.replicate 64 [(.b false)]).flatten)).bind fun r5 =>
 (AV.asSl r5.1).bind fun l6 =>
 (haymowref06_List [(.i .u64 n0)] r5.2).bind fun r7 =>
 (AV.asSl r7.1).bind fun l8 =>
 (haymowref06_List [(.i .u64 4823603603198064275)] r7.2).bind fun r9 =>
 (AV.asSl r9.1).bind fun l10 =>
 (loopF (S := List AV × AH O) (T := List AV × AH O) (fun r11 =>
 (AV.asI .i64 (r11.1.getD 0 .u)).bind fun n12 =>
 (bif (decide (n12 < 64)) then
 (bif ((decide ((0 : Int) ≤ n12)) && (decide (n12 < (l6.2 : Int)))) then
 (SA.ref l6.1).bind fun q13 =>
 (r11.2.ld q13.1 (q13.2 + (n12.toNat * 1))).bind fun w14 =>
 (AV.asB w14).bind fun b15 =>
 (bif ((decide ((0 : Int) ≤ n12)) && (decide (n12 < (l8.2 : Int)))) then
 (SA.ref l8.1).bind fun q16 =>
 (r11.2.ld q16.1 (q16.2 + (n12.toNat * 1))).bind fun w17 =>
 (AV.asB w17).bind fun b18 =>
 (bif ((decide ((0 : Int) ≤ n12)) && (decide (n12 < (l6.2 : Int)))) then
 (SA.ref l6.1).bind fun q19 =>
 (r11.2.st q19.1 (q19.2 + (n12.toNat * 1)) [(.b (!(b15 == b18)))]).bind fun σ20 =>
 some (Sum.inl ([(.i .i64 (IntKind.i64.wrap (n12 + 1)))], σ20))
 else none)
 else none)
 else none)
 else some (Sum.inr ([], r11.2)))) ([(.i .i64 0)], r9.2)).bind fun r21 =>
 (loopF (S := List AV × AH O) (T := List AV × AH O) (fun r22 =>
 (AV.asI .i64 (r22.1.getD 0 .u)).bind fun n23 =>
 let c24 : Bool := (decide (n23 < (IntKind.i64.wrap ((l6.2 : Int) - 64))))
 (bif c24 then
 (bif ((decide ((0 : Int) ≤ n23)) && (decide (n23 < (l6.2 : Int)))) then
 (SA.ref l6.1).bind fun q25 =>
 (r22.2.ld q25.1 (q25.2 + (n23.toNat * 1))).bind fun w26 =>
 (AV.asB w26).bind fun b27 =>
 ((bif b27 then
 (loopF (S := List AV × AH O) (T := List AV × AH O) (fun r28 =>
 (AV.asI .i64 (r28.1.getD 0 .u)).bind fun n29 =>
 (bif (decide (n29 < 64)) then
 let v30 : Int := (IntKind.i64.wrap ((IntKind.i64.wrap (n23 + 1)) + n29))
 let v31 : Int := (IntKind.i64.wrap ((IntKind.i64.wrap (n23 + 1)) + n29))
 (bif ((decide ((0 : Int) ≤ v31)) && (decide (v31 < (l6.2 : Int)))) then
 (SA.ref l6.1).bind fun q32 =>
 (r28.2.ld q32.1 (q32.2 + (v31.toNat * 1))).bind fun w33 =>
 (AV.asB w33).bind fun b34 =>
 (bif ((decide ((0 : Int) ≤ n29)) && (decide (n29 < (l10.2 : Int)))) then
 (SA.ref l10.1).bind fun q35 =>
 (r28.2.ld q35.1 (q35.2 + (n29.toNat * 1))).bind fun w36 =>
 (AV.asB w36).bind fun b37 =>
 (bif ((decide ((0 : Int) ≤ v30)) && (decide (v30 < (l6.2 : Int)))) then
 (SA.ref l6.1).bind fun q38 =>
 (r28.2.st q38.1 (q38.2 + (v30.toNat * 1)) [(.b (!(b34 == b37)))]).bind fun σ39 =>
 some (Sum.inl ([(.i .i64 (IntKind.i64.wrap (n29 + 1)))], σ39))
 else none)
 else none)
 else none)
 else some (Sum.inr ([], r28.2)))) ([(.i .i64 0)], r22.2)).bind fun r40 =>
 some ([], r40.2)
 else some ([], r22.2)) : Option (List AV × AH O)).bind fun r41 =>
 some (Sum.inl ([(.i .i64 (IntKind.i64.wrap (n23 + 1)))], r41.2))
 else none)
 else some (Sum.inr ([], r22.2)))) ([(.i .i64 0)], r21.2)).bind fun r42 =>
 (bif (((decide ((0 : Int) ≤ (IntKind.i64.wrap ((l6.2 : Int) - 64)))) && (decide ((IntKind.i64.wrap ((l6.2 : Int) - 64)) ≤ (l6.2 : Int)))) && (decide ((l6.2 : Int) ≤ (l6.2 : Int)))) then
 (SA.adv l6.1 (IntKind.i64.wrap ((l6.2 : Int) - 64)).toNat 1).bind fun a43 =>
 (haymowref06_Word [(.sl a43 ((l6.2 : Int).toNat - (IntKind.i64.wrap ((l6.2 : Int) - 64)).toNat))] r42.2).bind fun r44 =>
 (AV.asI .u64 r44.1).bind fun n45 =>
 some ((.i .u64 n45), r44.2)
 else none)
 else none)
 else none
theorem haymowref06_More_run {O : Type} : run (O := O) Try.prog [(45, haymowref06_Bits), (46, haymowref06_List), (47, haymowref06_Word)] Try.f26 (.n .z (.n .z (.n .z (.n (.n .z (.n (.lp false 0 [(8, .one (.i .i64))] [] (.n (.n .z .z) (.n .z .z))) .z)) (.n .z (.n (.n .z (.n (.lp false 2 [(10, .one (.i .i64))] [] (.n (.n .z .z) (.n (.n (.n .z (.j false [] (.n .z (.n (.lp false 4 [(11, .one (.i .i64))] [] (.n (.n .z .z) (.n .z .z))) .z)) .z)) .z) .z))) .z)) .z)))))) = haymowref06_More := by kernel_rfl
theorem haymowref06_More_sound {O : Type} {RO : O → Loc → (Nat → Option Obj) → Prop} : FSound RO Try.prog 26 haymowref06_More :=
   haymowref06_More_run ▸ run_sound (gcons haymowref06_Bits_ent haymowref06_Bits_sound <| gcons haymowref06_List_ent haymowref06_List_sound <| gcons haymowref06_Word_ent haymowref06_Word_sound <| gnil) mixed Try.func26 (by kernel_rfl) _
theorem haymowref06_More_ent : Entered Try.prog 26 := Try.call26

/-- haymow/haymowref06.Sum -/
noncomputable def haymowref06_Sum {O : Type} : Sm O := fun xs σ =>
 bif Nat.beq xs.length 1 then
 (AV.asSl (xs.getD 0 .u)).bind fun l0 =>
 (haymowref06_More [(.i .u64 0), (.sl l0.1 l0.2)] σ).bind fun r1 =>
 (AV.asI .u64 r1.1).bind fun n2 =>
 some ((.i .u64 n2), r1.2)
 else none
theorem haymowref06_Sum_run {O : Type} : run (O := O) Try.prog [(26, haymowref06_More)] Try.f23 (.n .z .z) = haymowref06_Sum := by kernel_rfl
theorem haymowref06_Sum_sound {O : Type} {RO : O → Loc → (Nat → Option Obj) → Prop} : FSound RO Try.prog 23 haymowref06_Sum :=
   haymowref06_Sum_run ▸ run_sound (gcons haymowref06_More_ent haymowref06_More_sound <| gnil) mixed Try.func23 (by kernel_rfl) _
theorem haymowref06_Sum_ent : Entered Try.prog 23 := Try.call23

/-- haymow/haymowlaw06.CrcSums -/
noncomputable def law06_CrcSums {O : Type} : Sm O := fun xs σ =>
 bif Nat.beq xs.length 3 then
 (AV.asSl (xs.getD 0 .u)).bind fun l0 =>
 (AV.asSl (xs.getD 1 .u)).bind fun l1 =>
 (AV.asI .u64 (xs.getD 2 .u)).bind fun n2 =>
 (law06_awake [] σ).bind fun r3 =>
 (AV.asB r3.1).bind fun b4 =>
 (bif (!b4) then
 some ((.b false), r3.2)
 else (law06_few [(.sl l0.1 l0.2)] r3.2).bind fun r5 =>
 (AV.asSl r5.1).bind fun l6 =>
 (law06_few [(.sl l1.1 l1.2)] r5.2).bind fun r7 =>
 (AV.asSl r7.1).bind fun l8 =>
 let σ9 := r7.2.bump 3
 let σ10 := σ9.put r7.2.next (.cells true 5 [])
 (σ10.rdSl l6.1 l6.2 1).bind fun new11 =>
 (bif (Nat.ble ((0 + l6.2) * 2) 35184372088832) then
 (σ10.appSl (r7.2.next + 1) 5 1 (.loc r7.2.next 0 1) 0 l6.2 new11).bind fun r12 =>
 (AV.asSl r12.1).bind fun l13 =>
 (r12.2.rdSl l8.1 l8.2 1).bind fun new14 =>
 (bif (Nat.ble ((l13.2 + l8.2) * 2) 35184372088832) then
 (r12.2.appSl ((r7.2.next + 1) + 1) 5 1 l13.1 l13.2 l8.2 new14).bind fun r15 =>
 (AV.asSl r15.1).bind fun l16 =>
 (haymowref06_Sum [(.sl l16.1 l16.2)] r15.2).bind fun r17 =>
 (AV.asI .u64 r17.1).bind fun n18 =>
 let σ19 := r17.2.bump 3
 let σ20 := σ19.put r17.2.next (.cells true 32 [(.sl l16.1 l16.2)])
 (crc_Sum [(.sl (.loc r17.2.next 0 1) 1)] σ20).bind fun r21 =>
 (AV.asI .u64 r21.1).bind fun n22 =>
 ((bif (((n22 : Int) == n18) == true) then
 let σ23 := r21.2.put (r17.2.next + 1) (.cells true 32 [(.sl l6.1 l6.2), (.sl l8.1 l8.2)])
 (crc_Sum [(.sl (.loc (r17.2.next + 1) 0 1) 2)] σ23).bind fun r24 =>
 (AV.asI .u64 r24.1).bind fun n25 =>
 some ([(.b ((n25 : Int) == n18))], r24.2)
 else some ([(.b false)], r21.2)) : Option (List AV × AH O)).bind fun r26 =>
 (AV.asB (r26.1.getD 0 .u)).bind fun b27 =>
 ((bif (b27 == true) then
 let σ28 := r26.2.put ((r17.2.next + 1) + 1) (.cells true 32 [(.sl l6.1 l6.2)])
 (crc_Sum [(.sl (.loc ((r17.2.next + 1) + 1) 0 1) 1)] σ28).bind fun r29 =>
 (AV.asI .u64 r29.1).bind fun n30 =>
 (crc_More [(.i .u64 n30), (.sl l8.1 l8.2)] r29.2).bind fun r31 =>
 (AV.asI .u64 r31.1).bind fun n32 =>
 some ([(.b ((n32 : Int) == n18))], r31.2)
 else some ([(.b false)], r26.2)) : Option (List AV × AH O)).bind fun r33 =>
 (AV.asB (r33.1.getD 0 .u)).bind fun b34 =>
 ((bif (b34 == true) then
 (crc_More [(.i .u64 n2), (.sl l6.1 l6.2)] r33.2).bind fun r35 =>
 (AV.asI .u64 r35.1).bind fun n36 =>
 (haymowref06_More [(.i .u64 n2), (.sl l6.1 l6.2)] r35.2).bind fun r37 =>
 (AV.asI .u64 r37.1).bind fun n38 =>
 some ([(.b ((n36 : Int) == n38))], r37.2)
 else some ([(.b false)], r33.2)) : Option (List AV × AH O)).bind fun r39 =>
 (AV.asB (r39.1.getD 0 .u)).bind fun b40 =>
 some ((.b b40), r39.2)
 else none)
 else none))
 else none
theorem law06_CrcSums_run {O : Type} : run (O := O) Try.prog [(21, law06_awake), (22, law06_few), (23, haymowref06_Sum), (24, crc_Sum), (25, crc_More), (26, haymowref06_More)] Try.f5 (.n .z (.n (.n .z (.n .z .z)) (.n .z (.n .z (.n .z (.n (.g [(5, 6, [(34, .one .b)]), (13, 7, [(43, .one .b)]), (22, 7, [(52, .one .b)])]) .z)))))) = law06_CrcSums := by kernel_rfl
theorem law06_CrcSums_sound {O : Type} {RO : O → Loc → (Nat → Option Obj) → Prop} : FSound RO Try.prog 5 law06_CrcSums :=
   law06_CrcSums_run ▸ run_sound (gcons law06_awake_ent law06_awake_sound <| gcons law06_few_ent law06_few_sound <| gcons haymowref06_Sum_ent haymowref06_Sum_sound <| gcons crc_Sum_ent crc_Sum_sound <| gcons crc_More_ent crc_More_sound <| gcons haymowref06_More_ent haymowref06_More_sound <| gnil) mixed Try.func5 (by kernel_rfl) _
theorem law06_CrcSums_ent : Entered Try.prog 5 := Try.call5

/-- haymow/haymowlaw06.CrcLays -/
noncomputable def law06_CrcLays {O : Type} : Sm O := fun xs σ =>
 bif Nat.beq xs.length 2 then
 (AV.asSl (xs.getD 0 .u)).bind fun l0 =>
 (AV.asSl (xs.getD 1 .u)).bind fun l1 =>
 (law06_awake [] σ).bind fun r2 =>
 (AV.asB r2.1).bind fun b3 =>
 (bif (!b3) then
 some ((.b false), r2.2)
 else let v4 : Int := (if 300 < (if (l1.2 : Int) < (l0.2 : Int) then (l1.2 : Int) else (l0.2 : Int)) then 300 else (if (l1.2 : Int) < (l0.2 : Int) then (l1.2 : Int) else (l0.2 : Int)))
 (loopF (S := List AV × AH O) (T := List AV × AH O) (fun r5 =>
 (AV.asSl (r5.1.getD 0 .u)).bind fun l6 =>
 (AV.asI .i64 (r5.1.getD 1 .u)).bind fun n7 =>
 (bif (decide (n7 < v4)) then
 let σ8 := r5.2.bump 2
 (bif ((decide ((0 : Int) ≤ n7)) && (decide (n7 < (l0.2 : Int)))) then
 (SA.ref l0.1).bind fun q9 =>
 (σ8.ld q9.1 (q9.2 + (n7.toNat * 1))).bind fun w10 =>
 (AV.asI .u8 w10).bind fun n11 =>
 (bif ((decide ((0 : Int) ≤ n7)) && (decide (n7 < (l1.2 : Int)))) then
 (SA.ref l1.1).bind fun q12 =>
 (σ8.ld q12.1 (q12.2 + (n7.toNat * 1))).bind fun w13 =>
 (AV.asI .u8 w13).bind fun n14 =>
 let σ15 := σ8.put r5.2.next (.cells true 5 [(.i .u8 (ibits .xor .u8 n11 n14))])
 (σ15.rdSl (.loc r5.2.next 0 1) 1 1).bind fun new16 =>
 (bif (Nat.ble ((l6.2 + 1) * 2) 35184372088832) then
 (σ15.appSl (r5.2.next + 1) 5 1 l6.1 l6.2 1 new16).bind fun r17 =>
 (AV.asSl r17.1).bind fun l18 =>
 some (Sum.inl ([(.sl l18.1 l18.2), (.i .i64 (IntKind.i64.wrap (n7 + 1)))], r17.2))
 else none)
 else none)
 else none)
 else some (Sum.inr ([(.sl l6.1 l6.2)], r5.2)))) ([(.sl .nil 0), (.i .i64 0)], r2.2)).bind fun r19 =>
 (AV.asSl (r19.1.getD 0 .u)).bind fun l20 =>
 let σ21 := r19.2.bump 3
 (bif ((decide ((0 : Int) ≤ v4)) && (decide (v4 ≤ (l0.2 : Int)))) then
 (SA.adv l0.1 0 1).bind fun a22 =>
 (bif ((decide ((0 : Int) ≤ v4)) && (decide (v4 ≤ (l1.2 : Int)))) then
 (SA.adv l1.1 0 1).bind fun a23 =>
 let σ24 := σ21.put r19.2.next (.cells true 32 [(.sl l20.1 l20.2)])
 (crc_Sum [(.sl (.loc r19.2.next 0 1) 1)] σ24).bind fun r25 =>
 (AV.asI .u64 r25.1).bind fun n26 =>
 let σ27 := r25.2.put (r19.2.next + 1) (.cells true 32 [(.sl a22 (v4.toNat - 0))])
 (crc_Sum [(.sl (.loc (r19.2.next + 1) 0 1) 1)] σ27).bind fun r28 =>
 (AV.asI .u64 r28.1).bind fun n29 =>
 let σ30 := r28.2.put ((r19.2.next + 1) + 1) (.cells true 32 [(.sl a23 (v4.toNat - 0))])
 (crc_Sum [(.sl (.loc ((r19.2.next + 1) + 1) 0 1) 1)] σ30).bind fun r31 =>
 (AV.asI .u64 r31.1).bind fun n32 =>
 some ((.b ((n26 : Int) == (ibits .xor .u64 n29 n32))), r31.2)
 else none)
 else none))
 else none
theorem law06_CrcLays_run {O : Type} : run (O := O) Try.prog [(21, law06_awake), (24, crc_Sum)] Try.f6 (.n .z (.n (.n .z (.n .z .z)) (.n .z (.n .z (.n (.n .z (.n (.lp false 0 [(6, .one .sl), (7, .one (.i .i64))] [(6, .one .sl)] (.n (.n .z .z) (.n .z .z))) .z)) .z))))) = law06_CrcLays := by kernel_rfl
theorem law06_CrcLays_sound {O : Type} {RO : O → Loc → (Nat → Option Obj) → Prop} : FSound RO Try.prog 6 law06_CrcLays :=
   law06_CrcLays_run ▸ run_sound (gcons law06_awake_ent law06_awake_sound <| gcons crc_Sum_ent crc_Sum_sound <| gnil) mixed Try.func6 (by kernel_rfl) _
theorem law06_CrcLays_ent : Entered Try.prog 6 := Try.call6

/-- haymow/haymowref11.Word -/
noncomputable def haymowref11_Word {O : Type} : Sm O := fun xs σ =>
 bif Nat.beq xs.length 2 then
 (AV.asI .i64 (xs.getD 0 .u)).bind fun n0 =>
 (AV.asI .i64 (xs.getD 1 .u)).bind fun n1 =>
 ((bif (((n0 : Int) == 1) == true) then
 some ([(.b (decide (n1 ≥ 0)))], σ)
 else some ([(.b false)], σ)) : Option (List AV × AH O)).bind fun r2 =>
 (AV.asB (r2.1.getD 0 .u)).bind fun b3 =>
 ((bif (b3 == true) then
 some ([(.b (decide (n1 < 4194304)))], r2.2)
 else some ([(.b false)], r2.2)) : Option (List AV × AH O)).bind fun r4 =>
 (AV.asB (r4.1.getD 0 .u)).bind fun b5 =>
 (bif b5 then
 let v6 : Int := (IntKind.u64.wrap ((IntKind.u64.wrap (2 * (IntKind.u64.wrap n1))) + 1))
 some ((.tup [(.i .u64 v6), (.b true)]), r4.2)
 else ((bif (((n0 : Int) == 2) == true) then
 some ([(.b (decide (n1 ≥ 1)))], r4.2)
 else some ([(.b false)], r4.2)) : Option (List AV × AH O)).bind fun r7 =>
 (AV.asB (r7.1.getD 0 .u)).bind fun b8 =>
 ((bif (b8 == true) then
 some ([(.b (decide (n1 ≤ 1048576)))], r7.2)
 else some ([(.b false)], r7.2)) : Option (List AV × AH O)).bind fun r9 =>
 (AV.asB (r9.1.getD 0 .u)).bind fun b10 =>
 (bif b10 then
 some ((.tup [(.i .u64 (IntKind.u64.wrap (2 * (IntKind.u64.wrap n1)))), (.b true)]), r9.2)
 else some ((.tup [(.i .u64 0), (.b false)]), r9.2)))
 else none
theorem haymowref11_Word_run {O : Type} : run (O := O) Try.prog [] Try.f27 (.n .z (.n (.n (.g [(2, 2, [(11, .one .b)]), (6, 2, [(15, .one .b)])]) (.n .z .z)) (.n (.n (.g [(2, 2, [(25, .one .b)]), (6, 2, [(29, .one .b)])]) (.n .z .z)) .z))) = haymowref11_Word := by kernel_rfl
theorem haymowref11_Word_sound {O : Type} {RO : O → Loc → (Nat → Option Obj) → Prop} : FSound RO Try.prog 27 haymowref11_Word :=
   haymowref11_Word_run ▸ run_sound (gnil) mixed Try.func27 (by kernel_rfl) _
theorem haymowref11_Word_ent : Entered Try.prog 27 := Try.call27

/-- (haymow/ref.Ref).At -/
noncomputable def ref_Ref__At {O : Type} : Sm O := fun xs σ =>
 bif Nat.beq xs.length 1 then
 (AV.asI .u64 (xs.getD 0 .u)).bind fun n0 =>
 (ref_Ref__Kind [(.i .u64 n0)] σ).bind fun r1 =>
 (AV.asI .i64 r1.1).bind fun n2 =>
 ((bif ((n2 : Int) == 1) then
 some ([(.b ((n2 : Int) == 1))], r1.2)
 else some ([(.b ((n2 : Int) == 2))], r1.2)) : Option (List AV × AH O)).bind fun r3 =>
 (AV.asB (r3.1.getD 0 .u)).bind fun b4 =>
 (bif b4 then
 some ((.i .i64 (IntKind.i64.wrap (Int.fdiv n0 (2 ^ 1)))), r3.2)
 else some ((.i .i64 0), r3.2))
 else none
theorem ref_Ref__At_run {O : Type} : run (O := O) Try.prog [(28, ref_Ref__Kind)] Try.f29 (.n .z (.n (.n .z (.n (.n (.n .z (.j false [(5, .one .b)] .z .z)) (.n .z .z)) .z)) .z)) = ref_Ref__At := by kernel_rfl
theorem ref_Ref__At_sound {O : Type} {RO : O → Loc → (Nat → Option Obj) → Prop} : FSound RO Try.prog 29 ref_Ref__At :=
   ref_Ref__At_run ▸ run_sound (gcons ref_Ref__Kind_ent ref_Ref__Kind_sound <| gnil) mixed Try.func29 (by kernel_rfl) _
theorem ref_Ref__At_ent : Entered Try.prog 29 := Try.call29

/-- haymow/haymowlaw11.RefMakes -/
noncomputable def law11_RefMakes {O : Type} : Sm O := fun xs σ =>
 bif Nat.beq xs.length 1 then
 (AV.asI .i64 (xs.getD 0 .u)).bind fun n0 =>
 (law11_awake [] σ).bind fun r1 =>
 (AV.asB r1.1).bind fun b2 =>
 (bif (!b2) then
 some ((.b false), r1.2)
 else (ref_ToSmall [(.i .i64 n0)] r1.2).bind fun r3 =>
 (AV.asTup 2 r3.1).bind fun c4 =>
 (AV.asI .u64 (c4.getD 0 .u)).bind fun n5 =>
 (AV.asI .i64 (c4.getD 1 .u)).bind fun n6 =>
 (ref_ToLarge [(.i .i64 n0)] r3.2).bind fun r7 =>
 (AV.asTup 2 r7.1).bind fun c8 =>
 (AV.asI .u64 (c8.getD 0 .u)).bind fun n9 =>
 (AV.asI .i64 (c8.getD 1 .u)).bind fun n10 =>
 (haymowref11_Word [(.i .i64 1), (.i .i64 n0)] r7.2).bind fun r11 =>
 (AV.asTup 2 r11.1).bind fun c12 =>
 (AV.asI .u64 (c12.getD 0 .u)).bind fun n13 =>
 (AV.asB (c12.getD 1 .u)).bind fun b14 =>
 (haymowref11_Word [(.i .i64 2), (.i .i64 n0)] r11.2).bind fun r15 =>
 (AV.asTup 2 r15.1).bind fun c16 =>
 (AV.asI .u64 (c16.getD 0 .u)).bind fun n17 =>
 (AV.asB (c16.getD 1 .u)).bind fun b18 =>
 ((bif (((n5 : Int) != n13) == false) then
 some ([(.b ((n9 : Int) != n17))], r15.2)
 else some ([(.b true)], r15.2)) : Option (List AV × AH O)).bind fun r19 =>
 (AV.asB (r19.1.getD 0 .u)).bind fun b20 =>
 ((bif (b20 == false) then
 some ([(.b (!(((n6 : Int) == 0) == b14)))], r19.2)
 else some ([(.b true)], r19.2)) : Option (List AV × AH O)).bind fun r21 =>
 (AV.asB (r21.1.getD 0 .u)).bind fun b22 =>
 ((bif (b22 == false) then
 some ([(.b (!(((n10 : Int) == 0) == b18)))], r21.2)
 else some ([(.b true)], r21.2)) : Option (List AV × AH O)).bind fun r23 =>
 (AV.asB (r23.1.getD 0 .u)).bind fun b24 =>
 ((bif (b24 == false) then
 ((bif ((!b14) == true) then
 some ([(.b ((n6 : Int) != 2))], r23.2)
 else some ([(.b false)], r23.2)) : Option (List AV × AH O)).bind fun r25 =>
 (AV.asB (r25.1.getD 0 .u)).bind fun b26 =>
 some ([(.b b26)], r25.2)
 else some ([(.b true)], r23.2)) : Option (List AV × AH O)).bind fun r27 =>
 (AV.asB (r27.1.getD 0 .u)).bind fun b28 =>
 ((bif (b28 == false) then
 ((bif ((!b18) == true) then
 some ([(.b ((n10 : Int) != 2))], r27.2)
 else some ([(.b false)], r27.2)) : Option (List AV × AH O)).bind fun r29 =>
 (AV.asB (r29.1.getD 0 .u)).bind fun b30 =>
 some ([(.b b30)], r29.2)
 else some ([(.b true)], r27.2)) : Option (List AV × AH O)).bind fun r31 =>
 (AV.asB (r31.1.getD 0 .u)).bind fun b32 =>
 (bif b32 then
 some ((.b false), r31.2)
 else ((bif ((!b14) == false) then
 (ref_Ref__Kind [(.i .u64 n5)] r31.2).bind fun r33 =>
 (AV.asI .i64 r33.1).bind fun n34 =>
 ((bif (((n34 : Int) == 1) == true) then
 (ref_Ref__At [(.i .u64 n5)] r33.2).bind fun r35 =>
 (AV.asI .i64 r35.1).bind fun n36 =>
 some ([(.b ((n36 : Int) == n0))], r35.2)
 else some ([(.b false)], r33.2)) : Option (List AV × AH O)).bind fun r37 =>
 (AV.asB (r37.1.getD 0 .u)).bind fun b38 =>
 some ([(.b b38)], r37.2)
 else some ([(.b true)], r31.2)) : Option (List AV × AH O)).bind fun r39 =>
 (AV.asB (r39.1.getD 0 .u)).bind fun b40 =>
 ((bif (b40 == true) then
 ((bif ((!b18) == false) then
 (ref_Ref__Kind [(.i .u64 n9)] r39.2).bind fun r41 =>
 (AV.asI .i64 r41.1).bind fun n42 =>
 ((bif (((n42 : Int) == 2) == true) then
 (ref_Ref__At [(.i .u64 n9)] r41.2).bind fun r43 =>
 (AV.asI .i64 r43.1).bind fun n44 =>
 some ([(.b ((n44 : Int) == n0))], r43.2)
 else some ([(.b false)], r41.2)) : Option (List AV × AH O)).bind fun r45 =>
 (AV.asB (r45.1.getD 0 .u)).bind fun b46 =>
 some ([(.b b46)], r45.2)
 else some ([(.b true)], r39.2)) : Option (List AV × AH O)).bind fun r47 =>
 (AV.asB (r47.1.getD 0 .u)).bind fun b48 =>
 some ([(.b b48)], r47.2)
 else some ([(.b false)], r39.2)) : Option (List AV × AH O)).bind fun r49 =>
 (AV.asB (r49.1.getD 0 .u)).bind fun b50 =>
 some ((.b b50), r49.2)))
 else none
theorem law11_RefMakes_run {O : Type} : run (O := O) Try.prog [(18, law11_awake), (19, ref_ToSmall), (20, ref_ToLarge), (27, haymowref11_Word), (28, ref_Ref__Kind), (29, ref_Ref__At)] Try.f7 (.n .z (.n (.n .z (.n .z .z)) (.n .z (.n .z (.n .z (.n .z (.n (.n (.g [(3, 3, [(40, .one .b)]), (8, 4, [(46, .one .b)]), (14, 4, [(52, .one .b)]), (20, 6, [(60, .one .b)]), (23, 2, [(59, .one .b)]), (28, 6, [(68, .one .b)]), (31, 2, [(67, .one .b)])]) (.n .z .z)) (.n (.g [(2, 9, [(81, .one .b)]), (6, 4, [(80, .one .b)]), (13, 13, [(96, .one .b)]), (16, 9, [(95, .one .b)]), (20, 4, [(94, .one .b)])]) .z)))))))) = law11_RefMakes := by kernel_rfl
theorem law11_RefMakes_sound {O : Type} {RO : O → Loc → (Nat → Option Obj) → Prop} : FSound RO Try.prog 7 law11_RefMakes :=
   law11_RefMakes_run ▸ run_sound (gcons law11_awake_ent law11_awake_sound <| gcons ref_ToSmall_ent ref_ToSmall_sound <| gcons ref_ToLarge_ent ref_ToLarge_sound <| gcons haymowref11_Word_ent haymowref11_Word_sound <| gcons ref_Ref__Kind_ent ref_Ref__Kind_sound <| gcons ref_Ref__At_ent ref_Ref__At_sound <| gnil) mixed Try.func7 (by kernel_rfl) _
theorem law11_RefMakes_ent : Entered Try.prog 7 := Try.call7

/-- haymow/haymowref05.Bytes -/
noncomputable def haymowref05_Bytes {O : Type} : Sm O := fun xs σ =>
 bif Nat.beq xs.length 1 then
 (AV.asI .u64 (xs.getD 0 .u)).bind fun n0 =>
 (loopF (S := List AV × AH O) (T := List AV × AH O) (fun r1 =>
 (AV.asI .u64 (r1.1.getD 0 .u)).bind fun n2 =>
 (AV.asSl (r1.1.getD 1 .u)).bind fun l3 =>
 (bif (decide (n2 > 127)) then
 let σ4 := r1.2.bump 2
 let v5 : Int := (IntKind.u8.wrap (IntKind.u64.wrap (128 + (Int.tmod n2 128))))
 let σ6 := σ4.put r1.2.next (.cells true 5 [(.i .u8 v5)])
 (σ6.rdSl (.loc r1.2.next 0 1) 1 1).bind fun new7 =>
 (bif (Nat.ble ((l3.2 + 1) * 2) 35184372088832) then
 (σ6.appSl (r1.2.next + 1) 5 1 l3.1 l3.2 1 new7).bind fun r8 =>
 (AV.asSl r8.1).bind fun l9 =>
 some (Sum.inl ([(.i .u64 (IntKind.u64.wrap (Int.tdiv n2 128))), (.sl l9.1 l9.2)], r8.2))
 else none)
 else some (Sum.inr ([(.i .u64 n2), (.sl l3.1 l3.2)], r1.2)))) ([(.i .u64 n0), (.sl .nil 0)], σ)).bind fun r10 =>
 (AV.asI .u64 (r10.1.getD 0 .u)).bind fun n11 =>
 (AV.asSl (r10.1.getD 1 .u)).bind fun l12 =>
 let σ13 := r10.2.bump 2
 let σ14 := σ13.put r10.2.next (.cells true 5 [(.i .u8 (IntKind.u8.wrap n11))])
 (σ14.rdSl (.loc r10.2.next 0 1) 1 1).bind fun new15 =>
 (bif (Nat.ble ((l12.2 + 1) * 2) 35184372088832) then
 (σ14.appSl (r10.2.next + 1) 5 1 l12.1 l12.2 1 new15).bind fun r16 =>
 (AV.asSl r16.1).bind fun l17 =>
 some ((.sl l17.1 l17.2), r16.2)
 else none)
 else none
theorem haymowref05_Bytes_run {O : Type} : run (O := O) Try.prog [] Try.f31 (.n .z (.n .z (.n (.n (.lp false 0 [(0, .one (.i .u64)), (3, .one .sl)] [(0, .one (.i .u64)), (3, .one .sl)] (.n (.n .z .z) (.n .z .z))) .z) .z))) = haymowref05_Bytes := by kernel_rfl
theorem haymowref05_Bytes_sound {O : Type} {RO : O → Loc → (Nat → Option Obj) → Prop} : FSound RO Try.prog 31 haymowref05_Bytes :=
   haymowref05_Bytes_run ▸ run_sound (gnil) mixed Try.func31 (by kernel_rfl) _
theorem haymowref05_Bytes_ent : Entered Try.prog 31 := Try.call31

/-- haymow/varint.Get -/
noncomputable def varint_Get {O : Type} : Sm O := fun xs σ =>
 bif Nat.beq xs.length 1 then
 (AV.asSl (xs.getD 0 .u)).bind fun l0 =>
 bindS (S := List AV × AH O) (R := (AV × AH O)) (loopF (S := List AV × AH O) (T := (List AV × AH O) ⊕ (AV × AH O)) (fun r1 =>
 (AV.asI .u64 (r1.1.getD 0 .u)).bind fun n2 =>
 (AV.asI .i64 (r1.1.getD 1 .u)).bind fun n3 =>
 (bif (decide (n3 < (l0.2 : Int))) then
 (bif ((decide ((0 : Int) ≤ n3)) && (decide (n3 < (l0.2 : Int)))) then
 (SA.ref l0.1).bind fun q4 =>
 (r1.2.ld q4.1 (q4.2 + (n3.toNat * 1))).bind fun w5 =>
 (AV.asI .u8 w5).bind fun n6 =>
 ((bif (((n3 : Int) == 9) == true) then
 let c7 : Bool := (decide ((IntKind.u64.wrap (ibits .andNot .u8 n6 128)) > 1))
 some ([(.b c7)], r1.2)
 else some ([(.b false)], r1.2)) : Option (List AV × AH O)).bind fun r8 =>
 (AV.asB (r8.1.getD 0 .u)).bind fun b9 =>
 ((bif (b9 == false) then
 some ([(.b ((n3 : Int) == 10))], r8.2)
 else some ([(.b true)], r8.2)) : Option (List AV × AH O)).bind fun r10 =>
 (AV.asB (r10.1.getD 0 .u)).bind fun b11 =>
 (bif b11 then
 ((some ((.tup [(.i .u64 0), (.i .i64 0), (.i .i64 7)]), r10.2) : Option (AV × AH O)).map fun r => Sum.inr (Sum.inr r))
 else (bif (decide ((IntKind.i64.wrap (7 * n3)) < 0)) then
 none
 else let v12 : Int := (IntKind.u64.wrap ((IntKind.u64.wrap (ibits .andNot .u8 n6 128)) * 2 ^ min (IntKind.i64.wrap (7 * n3)).toNat 64))
 (bif (((ibits .and .u8 n6 128) : Int) != 0) then
 some (Sum.inl ([(.i .u64 (ibits .or .u64 n2 v12)), (.i .i64 (IntKind.i64.wrap (n3 + 1)))], r10.2))
 else ((bif ((decide (n3 > 0)) == true) then
 some ([(.b ((n6 : Int) == 0))], r10.2)
 else some ([(.b false)], r10.2)) : Option (List AV × AH O)).bind fun r13 =>
 (AV.asB (r13.1.getD 0 .u)).bind fun b14 =>
 (bif b14 then
 ((some ((.tup [(.i .u64 0), (.i .i64 0), (.i .i64 5)]), r13.2) : Option (AV × AH O)).map fun r => Sum.inr (Sum.inr r))
 else ((some ((.tup [(.i .u64 (ibits .or .u64 n2 v12)), (.i .i64 (IntKind.i64.wrap (n3 + 1))), (.i .i64 0)]), r13.2) : Option (AV × AH O)).map fun r => Sum.inr (Sum.inr r))))))
 else none)
 else some (Sum.inr (Sum.inl ([], r1.2))))) ([(.i .u64 0), (.i .i64 0)], σ)) fun r15 =>
 some ((.tup [(.i .u64 0), (.i .i64 0), (.i .i64 6)]), r15.2)
 else none
theorem varint_Get_run {O : Type} : run (O := O) Try.prog [] Try.f32 (.n .z (.n .z (.n (.n .z (.n (.lp true 0 [(5, .one (.i .u64)), (11, .one (.i .i64))] [] (.n .z (.n .z (.n (.n (.n .z (.n .z (.n (.n (.g [(2, 2, [(24, .one .b)]), (6, 2, [(28, .one .b)])]) (.n .z .z)) (.n .z (.n (.n .z .z) (.n (.n (.g [(2, 2, [(43, .one .b)])]) (.n .z .z)) .z)))))) .z) .z)))) .z)) .z))) = varint_Get := by kernel_rfl
theorem varint_Get_sound {O : Type} {RO : O → Loc → (Nat → Option Obj) → Prop} : FSound RO Try.prog 32 varint_Get :=
   varint_Get_run ▸ run_sound (gnil) mixed Try.func32 (by kernel_rfl) _
theorem varint_Get_ent : Entered Try.prog 32 := Try.call32

/-- haymow/haymowlaw05.VarintWords -/
noncomputable def law05_VarintWords {O : Type} : Sm O := fun xs σ =>
 bif Nat.beq xs.length 3 then
 (AV.asI .u64 (xs.getD 0 .u)).bind fun n0 =>
 (AV.asSl (xs.getD 1 .u)).bind fun l1 =>
 (AV.asSl (xs.getD 2 .u)).bind fun l2 =>
 (law05_awake [] σ).bind fun r3 =>
 (AV.asB r3.1).bind fun b4 =>
 (bif (!b4) then
 some ((.b false), r3.2)
 else ((bif ((decide ((l1.2 : Int) > 200)) == false) then
 some ([(.b (decide ((l2.2 : Int) > 200)))], r3.2)
 else some ([(.b true)], r3.2)) : Option (List AV × AH O)).bind fun r5 =>
 (AV.asB (r5.1.getD 0 .u)).bind fun b6 =>
 (bif b6 then
 some ((.b true), r5.2)
 else (varint_Put [(.sl l1.1 l1.2), (.i .u64 n0)] r5.2).bind fun r7 =>
 (AV.asSl r7.1).bind fun l8 =>
 (haymowref05_Bytes [(.i .u64 n0)] r7.2).bind fun r9 =>
 (AV.asSl r9.1).bind fun l10 =>
 (r9.2.rdSl l8.1 l8.2 1).bind fun c11 =>
 (asBytes c11).bind fun s12 =>
 (r9.2.rdSl l1.1 l1.2 1).bind fun c13 =>
 (asBytes c13).bind fun s14 =>
 (r9.2.rdSl l10.1 l10.2 1).bind fun c15 =>
 (asBytes c15).bind fun s16 =>
 (bif (Nat.ble (s14.length + s16.length) 9223372036854775807) then
 ((bif ((!(s12 == (s14 ++ s16))) == false) then
 (varint_Size [(.i .u64 n0)] r9.2).bind fun r17 =>
 (AV.asI .i64 r17.1).bind fun n18 =>
 some ([(.b ((n18 : Int) != (l10.2 : Int)))], r17.2)
 else some ([(.b true)], r9.2)) : Option (List AV × AH O)).bind fun r19 =>
 (AV.asB (r19.1.getD 0 .u)).bind fun b20 =>
 (bif b20 then
 some ((.b false), r19.2)
 else let σ21 := r19.2.bump 3
 let σ22 := σ21.put r19.2.next (.cells true 5 [])
 (σ22.rdSl l10.1 l10.2 1).bind fun new23 =>
 (bif (Nat.ble ((0 + l10.2) * 2) 35184372088832) then
 (σ22.appSl (r19.2.next + 1) 5 1 (.loc r19.2.next 0 1) 0 l10.2 new23).bind fun r24 =>
 (AV.asSl r24.1).bind fun l25 =>
 (r24.2.rdSl l2.1 l2.2 1).bind fun new26 =>
 (bif (Nat.ble ((l25.2 + l2.2) * 2) 35184372088832) then
 (r24.2.appSl ((r19.2.next + 1) + 1) 5 1 l25.1 l25.2 l2.2 new26).bind fun r27 =>
 (AV.asSl r27.1).bind fun l28 =>
 (varint_Get [(.sl l28.1 l28.2)] r27.2).bind fun r29 =>
 (AV.asTup 3 r29.1).bind fun c30 =>
 (AV.asI .u64 (c30.getD 0 .u)).bind fun n31 =>
 (AV.asI .i64 (c30.getD 1 .u)).bind fun n32 =>
 (AV.asI .i64 (c30.getD 2 .u)).bind fun n33 =>
 ((bif (((n31 : Int) == n0) == true) then
 some ([(.b ((n32 : Int) == (l10.2 : Int)))], r29.2)
 else some ([(.b false)], r29.2)) : Option (List AV × AH O)).bind fun r34 =>
 (AV.asB (r34.1.getD 0 .u)).bind fun b35 =>
 ((bif (b35 == true) then
 some ([(.b ((n33 : Int) == 0))], r34.2)
 else some ([(.b false)], r34.2)) : Option (List AV × AH O)).bind fun r36 =>
 (AV.asB (r36.1.getD 0 .u)).bind fun b37 =>
 some ((.b b37), r36.2)
 else none)
 else none))
 else none)))
 else none
theorem law05_VarintWords_run {O : Type} : run (O := O) Try.prog [(14, law05_awake), (30, varint_Put), (31, haymowref05_Bytes), (17, varint_Size), (32, varint_Get)] Try.f8 (.n .z (.n (.n .z (.n .z .z)) (.n (.n (.g [(3, 3, [(21, .one .b)])]) (.n .z .z)) (.n .z (.n .z (.n (.n (.g [(8, 5, [(41, .one .b)])]) (.n .z .z)) (.n .z (.n (.g [(3, 4, [(60, .one .b)]), (9, 2, [(64, .one .b)])]) .z)))))))) = law05_VarintWords := by kernel_rfl
theorem law05_VarintWords_sound {O : Type} {RO : O → Loc → (Nat → Option Obj) → Prop} : FSound RO Try.prog 8 law05_VarintWords :=
   law05_VarintWords_run ▸ run_sound (gcons law05_awake_ent law05_awake_sound <| gcons varint_Put_ent varint_Put_sound <| gcons haymowref05_Bytes_ent haymowref05_Bytes_sound <| gcons varint_Size_ent varint_Size_sound <| gcons varint_Get_ent varint_Get_sound <| gnil) mixed Try.func8 (by kernel_rfl) _
theorem law05_VarintWords_ent : Entered Try.prog 8 := Try.call8

/-- haymow/haymowref11.Read -/
noncomputable def haymowref11_Read {O : Type} : Sm O := fun xs σ =>
 bif Nat.beq xs.length 1 then
 (AV.asI .u64 (xs.getD 0 .u)).bind fun n0 =>
 (bif ((n0 : Int) == 0) then
 some ((.tup [(.i .i64 0), (.i .i64 0)]), σ)
 else ((bif ((((Int.tmod n0 2) : Int) == 1) == true) then
 let c1 : Bool := (decide ((IntKind.u64.wrap (Int.tdiv n0 2)) < 4194304))
 some ([(.b c1)], σ)
 else some ([(.b false)], σ)) : Option (List AV × AH O)).bind fun r2 =>
 (AV.asB (r2.1.getD 0 .u)).bind fun b3 =>
 (bif b3 then
 let v4 : Int := (IntKind.i64.wrap (IntKind.u64.wrap (Int.tdiv n0 2)))
 some ((.tup [(.i .i64 1), (.i .i64 v4)]), r2.2)
 else ((bif ((((Int.tmod n0 2) : Int) == 0) == true) then
 let c5 : Bool := (decide ((IntKind.u64.wrap (Int.tdiv n0 2)) ≤ 1048576))
 some ([(.b c5)], r2.2)
 else some ([(.b false)], r2.2)) : Option (List AV × AH O)).bind fun r6 =>
 (AV.asB (r6.1.getD 0 .u)).bind fun b7 =>
 (bif b7 then
 let v8 : Int := (IntKind.i64.wrap (IntKind.u64.wrap (Int.tdiv n0 2)))
 some ((.tup [(.i .i64 2), (.i .i64 v8)]), r6.2)
 else some ((.tup [(.i .i64 3), (.i .i64 0)]), r6.2))))
 else none
theorem haymowref11_Read_run {O : Type} : run (O := O) Try.prog [] Try.f33 (.n .z (.n (.n .z (.n .z .z)) (.n .z (.n (.n (.g [(3, 2, [(15, .one .b)])]) (.n .z .z)) (.n (.n (.g [(3, 2, [(24, .one .b)])]) (.n .z .z)) .z))))) = haymowref11_Read := by kernel_rfl
theorem haymowref11_Read_sound {O : Type} {RO : O → Loc → (Nat → Option Obj) → Prop} : FSound RO Try.prog 33 haymowref11_Read :=
   haymowref11_Read_run ▸ run_sound (gnil) mixed Try.func33 (by kernel_rfl) _
theorem haymowref11_Read_ent : Entered Try.prog 33 := Try.call33

/-- haymow/ref.Of -/
noncomputable def ref_Of {O : Type} : Sm O := fun xs σ =>
 bif Nat.beq xs.length 1 then
 (AV.asI .u64 (xs.getD 0 .u)).bind fun n0 =>
 (ref_Ref__Kind [(.i .u64 n0)] σ).bind fun r1 =>
 (AV.asI .i64 r1.1).bind fun n2 =>
 (bif ((n2 : Int) != 3) then
 some ((.tup [(.i .u64 n0), (.i .i64 0)]), r1.2)
 else some ((.tup [(.i .u64 0), (.i .i64 5)]), r1.2))
 else none
theorem ref_Of_run {O : Type} : run (O := O) Try.prog [(28, ref_Ref__Kind)] Try.f34 (.n .z (.n (.n .z (.n .z (.n .z .z))) .z)) = ref_Of := by kernel_rfl
theorem ref_Of_sound {O : Type} {RO : O → Loc → (Nat → Option Obj) → Prop} : FSound RO Try.prog 34 ref_Of :=
   ref_Of_run ▸ run_sound (gcons ref_Ref__Kind_ent ref_Ref__Kind_sound <| gnil) mixed Try.func34 (by kernel_rfl) _
theorem ref_Of_ent : Entered Try.prog 34 := Try.call34

/-- haymow/haymowlaw11.RefReads -/
noncomputable def law11_RefReads {O : Type} : Sm O := fun xs σ =>
 bif Nat.beq xs.length 1 then
 (AV.asI .u64 (xs.getD 0 .u)).bind fun n0 =>
 (law11_awake [] σ).bind fun r1 =>
 (AV.asB r1.1).bind fun b2 =>
 (bif (!b2) then
 some ((.b false), r1.2)
 else (haymowref11_Read [(.i .u64 n0)] r1.2).bind fun r3 =>
 (AV.asTup 2 r3.1).bind fun c4 =>
 (AV.asI .i64 (c4.getD 0 .u)).bind fun n5 =>
 (AV.asI .i64 (c4.getD 1 .u)).bind fun n6 =>
 (ref_Of [(.i .u64 n0)] r3.2).bind fun r7 =>
 (AV.asTup 2 r7.1).bind fun c8 =>
 (AV.asI .u64 (c8.getD 0 .u)).bind fun n9 =>
 (AV.asI .i64 (c8.getD 1 .u)).bind fun n10 =>
 (ref_Ref__Kind [(.i .u64 n0)] r7.2).bind fun r11 =>
 (AV.asI .i64 r11.1).bind fun n12 =>
 ((bif (((n12 : Int) != n5) == false) then
 (ref_Ref__At [(.i .u64 n0)] r11.2).bind fun r13 =>
 (AV.asI .i64 r13.1).bind fun n14 =>
 some ([(.b ((n14 : Int) != n6))], r13.2)
 else some ([(.b true)], r11.2)) : Option (List AV × AH O)).bind fun r15 =>
 (AV.asB (r15.1.getD 0 .u)).bind fun b16 =>
 (bif b16 then
 some ((.b false), r15.2)
 else (bif ((n5 : Int) == 3) then
 ((bif (((n9 : Int) == 0) == true) then
 some ([(.b ((n10 : Int) == 5))], r15.2)
 else some ([(.b false)], r15.2)) : Option (List AV × AH O)).bind fun r17 =>
 (AV.asB (r17.1.getD 0 .u)).bind fun b18 =>
 some ((.b b18), r17.2)
 else ((bif (((n9 : Int) == n0) == true) then
 some ([(.b ((n10 : Int) == 0))], r15.2)
 else some ([(.b false)], r15.2)) : Option (List AV × AH O)).bind fun r19 =>
 (AV.asB (r19.1.getD 0 .u)).bind fun b20 =>
 some ((.b b20), r19.2))))
 else none
theorem law11_RefReads_run {O : Type} : run (O := O) Try.prog [(18, law11_awake), (33, haymowref11_Read), (34, ref_Of), (28, ref_Ref__Kind), (29, ref_Ref__At)] Try.f9 (.n .z (.n (.n .z (.n .z .z)) (.n .z (.n .z (.n .z (.n (.n (.g [(4, 4, [(30, .one .b)])]) (.n .z .z)) (.n (.n .z (.n (.n (.g [(2, 2, [(38, .one .b)])]) .z) .z)) (.n (.g [(3, 2, [(45, .one .b)])]) .z)))))))) = law11_RefReads := by kernel_rfl
theorem law11_RefReads_sound {O : Type} {RO : O → Loc → (Nat → Option Obj) → Prop} : FSound RO Try.prog 9 law11_RefReads :=
   law11_RefReads_run ▸ run_sound (gcons law11_awake_ent law11_awake_sound <| gcons haymowref11_Read_ent haymowref11_Read_sound <| gcons ref_Of_ent ref_Of_sound <| gcons ref_Ref__Kind_ent ref_Ref__Kind_sound <| gcons ref_Ref__At_ent ref_Ref__At_sound <| gnil) mixed Try.func9 (by kernel_rfl) _
theorem law11_RefReads_ent : Entered Try.prog 9 := Try.call9

/-- haymow/crc.Open -/
noncomputable def crc_Open {O : Type} : Sm O := fun xs σ =>
 bif Nat.beq xs.length 1 then
 (AV.asSl (xs.getD 0 .u)).bind fun l0 =>
 let c1 : Bool := (decide ((IntKind.i64.wrap ((l0.2 : Int) - 8)) < 0))
 (bif c1 then
 some ((.tup [(.sl .nil 0), (.i .i64 6)]), σ)
 else let σ2 := σ.bump 1
 (bif ((decide ((0 : Int) ≤ (IntKind.i64.wrap ((l0.2 : Int) - 8)))) && (decide ((IntKind.i64.wrap ((l0.2 : Int) - 8)) ≤ (l0.2 : Int)))) then
 (SA.adv l0.1 0 1).bind fun a3 =>
 (bif (((decide ((0 : Int) ≤ (IntKind.i64.wrap ((l0.2 : Int) - 8)))) && (decide ((IntKind.i64.wrap ((l0.2 : Int) - 8)) ≤ (l0.2 : Int)))) && (decide ((l0.2 : Int) ≤ (l0.2 : Int)))) then
 (SA.adv l0.1 (IntKind.i64.wrap ((l0.2 : Int) - 8)).toNat 1).bind fun a4 =>
 let σ5 := σ2.put σ.next (.cells true 32 [(.sl a3 ((IntKind.i64.wrap ((l0.2 : Int) - 8)).toNat - 0))])
 (crc_Sum [(.sl (.loc σ.next 0 1) 1)] σ5).bind fun r6 =>
 (AV.asI .u64 r6.1).bind fun n7 =>
 (crc_More [(.i .u64 n7), (.sl a4 ((l0.2 : Int).toNat - (IntKind.i64.wrap ((l0.2 : Int) - 8)).toNat))] r6.2).bind fun r8 =>
 (AV.asI .u64 r8.1).bind fun n9 =>
 (bif ((n9 : Int) != 0) then
 some ((.tup [(.sl .nil 0), (.i .i64 60)]), r8.2)
 else let σ10 := r8.2.bump 2
 let σ11 := σ10.put r8.2.next (.cells true 5 [])
 (bif ((decide ((0 : Int) ≤ (IntKind.i64.wrap ((l0.2 : Int) - 8)))) && (decide ((IntKind.i64.wrap ((l0.2 : Int) - 8)) ≤ (l0.2 : Int)))) then
 (SA.adv l0.1 0 1).bind fun a12 =>
 (σ11.rdSl a12 ((IntKind.i64.wrap ((l0.2 : Int) - 8)).toNat - 0) 1).bind fun new13 =>
 (bif (Nat.ble ((0 + ((IntKind.i64.wrap ((l0.2 : Int) - 8)).toNat - 0)) * 2) 35184372088832) then
 (σ11.appSl (r8.2.next + 1) 5 1 (.loc r8.2.next 0 1) 0 ((IntKind.i64.wrap ((l0.2 : Int) - 8)).toNat - 0) new13).bind fun r14 =>
 (AV.asSl r14.1).bind fun l15 =>
 some ((.tup [(.sl l15.1 l15.2), (.i .i64 0)]), r14.2)
 else none)
 else none))
 else none)
 else none))
 else none
theorem crc_Open_run {O : Type} : run (O := O) Try.prog [(24, crc_Sum), (25, crc_More)] Try.f36 (.n .z (.n .z (.n (.n .z (.n .z .z)) (.n (.n .z (.n .z .z)) .z)))) = crc_Open := by kernel_rfl
theorem crc_Open_sound {O : Type} {RO : O → Loc → (Nat → Option Obj) → Prop} : FSound RO Try.prog 36 crc_Open :=
   crc_Open_run ▸ run_sound (gcons crc_Sum_ent crc_Sum_sound <| gcons crc_More_ent crc_More_sound <| gnil) mixed Try.func36 (by kernel_rfl) _
theorem crc_Open_ent : Entered Try.prog 36 := Try.call36

/-- haymow/haymowref06.Seal -/
noncomputable def haymowref06_Seal {O : Type} : Sm O := fun xs σ =>
 bif Nat.beq xs.length 1 then
 (AV.asSl (xs.getD 0 .u)).bind fun l0 =>
 let σ1 := σ.bump 2
 let σ2 := σ1.put σ.next (.cells true 5 [])
 (σ2.rdSl l0.1 l0.2 1).bind fun new3 =>
 (bif (Nat.ble ((0 + l0.2) * 2) 35184372088832) then
 (σ2.appSl (σ.next + 1) 5 1 (.loc σ.next 0 1) 0 l0.2 new3).bind fun r4 =>
 (AV.asSl r4.1).bind fun l5 =>
 (haymowref06_Sum [(.sl l0.1 l0.2)] r4.2).bind fun r6 =>
 (AV.asI .u64 r6.1).bind fun n7 =>
 (loopF (S := List AV × AH O) (T := List AV × AH O) (fun r8 =>
 (AV.asSl (r8.1.getD 0 .u)).bind fun l9 =>
 (AV.asI .i64 (r8.1.getD 1 .u)).bind fun n10 =>
 (bif (decide (n10 ≥ 0)) then
 let σ11 := r8.2.bump 2
 (bif (decide ((IntKind.u64.wrap (IntKind.i64.wrap (8 * n10))) < 0)) then
 none
 else let v12 : Int := (Int.fdiv n7 (2 ^ min (IntKind.u64.wrap (IntKind.i64.wrap (8 * n10))).toNat 64))
 let σ13 := σ11.put r8.2.next (.cells true 5 [(.i .u8 (IntKind.u8.wrap v12))])
 (σ13.rdSl (.loc r8.2.next 0 1) 1 1).bind fun new14 =>
 (bif (Nat.ble ((l9.2 + 1) * 2) 35184372088832) then
 (σ13.appSl (r8.2.next + 1) 5 1 l9.1 l9.2 1 new14).bind fun r15 =>
 (AV.asSl r15.1).bind fun l16 =>
 some (Sum.inl ([(.sl l16.1 l16.2), (.i .i64 (IntKind.i64.wrap (n10 - 1)))], r15.2))
 else none))
 else some (Sum.inr ([(.sl l9.1 l9.2)], r8.2)))) ([(.sl l5.1 l5.2), (.i .i64 7)], r6.2)).bind fun r17 =>
 (AV.asSl (r17.1.getD 0 .u)).bind fun l18 =>
 some ((.sl l18.1 l18.2), r17.2)
 else none)
 else none
theorem haymowref06_Seal_run {O : Type} : run (O := O) Try.prog [(23, haymowref06_Sum)] Try.f37 (.n .z (.n .z (.n .z (.n (.n .z (.n (.lp false 0 [(3, .one .sl), (5, .one (.i .i64))] [(3, .one .sl)] (.n (.n .z .z) (.n .z .z))) .z)) .z)))) = haymowref06_Seal := by kernel_rfl
theorem haymowref06_Seal_sound {O : Type} {RO : O → Loc → (Nat → Option Obj) → Prop} : FSound RO Try.prog 37 haymowref06_Seal :=
   haymowref06_Seal_run ▸ run_sound (gcons haymowref06_Sum_ent haymowref06_Sum_sound <| gnil) mixed Try.func37 (by kernel_rfl) _
theorem haymowref06_Seal_ent : Entered Try.prog 37 := Try.call37

/-- haymow/haymowlaw06.CrcSeals -/
noncomputable def law06_CrcSeals {O : Type} : Sm O := fun xs σ =>
 bif Nat.beq xs.length 2 then
 (AV.asSl (xs.getD 0 .u)).bind fun l0 =>
 (AV.asSl (xs.getD 1 .u)).bind fun l1 =>
 (law06_awake [] σ).bind fun r2 =>
 (AV.asB r2.1).bind fun b3 =>
 (bif (!b3) then
 some ((.b false), r2.2)
 else (law06_few [(.sl l0.1 l0.2)] r2.2).bind fun r4 =>
 (AV.asSl r4.1).bind fun l5 =>
 (law06_few [(.sl l1.1 l1.2)] r4.2).bind fun r6 =>
 (AV.asSl r6.1).bind fun l7 =>
 (crc_Seal [(.sl l5.1 l5.2)] r6.2).bind fun r8 =>
 (AV.asSl r8.1).bind fun l9 =>
 (crc_Open [(.sl l9.1 l9.2)] r8.2).bind fun r10 =>
 (AV.asTup 2 r10.1).bind fun c11 =>
 (AV.asSl (c11.getD 0 .u)).bind fun l12 =>
 (AV.asI .i64 (c11.getD 1 .u)).bind fun n13 =>
 (crc_Open [(.sl l7.1 l7.2)] r10.2).bind fun r14 =>
 (AV.asTup 2 r14.1).bind fun c15 =>
 (AV.asSl (c15.getD 0 .u)).bind fun l16 =>
 (AV.asI .i64 (c15.getD 1 .u)).bind fun n17 =>
 (r14.2.rdSl l9.1 l9.2 1).bind fun c18 =>
 (asBytes c18).bind fun s19 =>
 (haymowref06_Seal [(.sl l5.1 l5.2)] r14.2).bind fun r20 =>
 (AV.asSl r20.1).bind fun l21 =>
 (chk (r20.2.rdSl l9.1 l9.2 1 = r14.2.rdSl l9.1 l9.2 1)).bind fun _ =>
 (r20.2.rdSl l21.1 l21.2 1).bind fun c22 =>
 (asBytes c22).bind fun s23 =>
 ((bif ((!(s19 == s23)) == false) then
 (r20.2.rdSl l12.1 l12.2 1).bind fun c24 =>
 (asBytes c24).bind fun s25 =>
 (r20.2.rdSl l5.1 l5.2 1).bind fun c26 =>
 (asBytes c26).bind fun s27 =>
 some ([(.b (!(s25 == s27)))], r20.2)
 else some ([(.b true)], r20.2)) : Option (List AV × AH O)).bind fun r28 =>
 (AV.asB (r28.1.getD 0 .u)).bind fun b29 =>
 ((bif (b29 == false) then
 some ([(.b ((n13 : Int) != 0))], r28.2)
 else some ([(.b true)], r28.2)) : Option (List AV × AH O)).bind fun r30 =>
 (AV.asB (r30.1.getD 0 .u)).bind fun b31 =>
 (bif b31 then
 some ((.b false), r30.2)
 else (bif (decide ((l7.2 : Int) < 8)) then
 ((bif ((((l16.2 : Int) : Int) == 0) == true) then
 some ([(.b ((n17 : Int) == 6))], r30.2)
 else some ([(.b false)], r30.2)) : Option (List AV × AH O)).bind fun r32 =>
 (AV.asB (r32.1.getD 0 .u)).bind fun b33 =>
 some ((.b b33), r32.2)
 else (bif ((decide ((0 : Int) ≤ (IntKind.i64.wrap ((l7.2 : Int) - 8)))) && (decide ((IntKind.i64.wrap ((l7.2 : Int) - 8)) ≤ (l7.2 : Int)))) then
 (SA.adv l7.1 0 1).bind fun a34 =>
 (r30.2.rdSl l7.1 l7.2 1).bind fun c35 =>
 (asBytes c35).bind fun s36 =>
 (haymowref06_Seal [(.sl a34 ((IntKind.i64.wrap ((l7.2 : Int) - 8)).toNat - 0))] r30.2).bind fun r37 =>
 (AV.asSl r37.1).bind fun l38 =>
 (chk (r37.2.rdSl l7.1 l7.2 1 = r30.2.rdSl l7.1 l7.2 1)).bind fun _ =>
 (r37.2.rdSl l38.1 l38.2 1).bind fun c39 =>
 (asBytes c39).bind fun s40 =>
 (bif (!(s40 == s36)) then
 ((bif ((((l16.2 : Int) : Int) == 0) == true) then
 some ([(.b ((n17 : Int) == 60))], r37.2)
 else some ([(.b false)], r37.2)) : Option (List AV × AH O)).bind fun r41 =>
 (AV.asB (r41.1.getD 0 .u)).bind fun b42 =>
 some ((.b b42), r41.2)
 else (r37.2.rdSl l16.1 l16.2 1).bind fun c43 =>
 (asBytes c43).bind fun s44 =>
 (bif ((decide ((0 : Int) ≤ (IntKind.i64.wrap ((l7.2 : Int) - 8)))) && (decide ((IntKind.i64.wrap ((l7.2 : Int) - 8)) ≤ (l7.2 : Int)))) then
 (SA.adv l7.1 0 1).bind fun a45 =>
 (r37.2.rdSl a45 ((IntKind.i64.wrap ((l7.2 : Int) - 8)).toNat - 0) 1).bind fun c46 =>
 (asBytes c46).bind fun s47 =>
 ((bif ((s44 == s47) == true) then
 some ([(.b ((n17 : Int) == 0))], r37.2)
 else some ([(.b false)], r37.2)) : Option (List AV × AH O)).bind fun r48 =>
 (AV.asB (r48.1.getD 0 .u)).bind fun b49 =>
 some ((.b b49), r48.2)
 else none))
 else none))))
 else none
theorem law06_CrcSeals_run {O : Type} : run (O := O) Try.prog [(21, law06_awake), (22, law06_few), (35, crc_Seal), (36, crc_Open), (37, haymowref06_Seal)] Try.f10 (.n .z (.n (.n .z (.n .z .z)) (.n .z (.n .z (.n .z (.n .z (.n (.n (.g [(6, 5, [(41, .one .b)]), (13, 2, [(45, .one .b)])]) (.n .z .z)) (.n (.n .z (.n (.n (.g [(3, 2, [(55, .one .b)])]) .z) .z)) (.n .z (.n (.n .z (.n (.n (.g [(3, 2, [(73, .one .b)])]) .z) .z)) (.n (.g [(7, 2, [(84, .one .b)])]) .z))))))))))) = law06_CrcSeals := by kernel_rfl
theorem law06_CrcSeals_sound {O : Type} {RO : O → Loc → (Nat → Option Obj) → Prop} : FSound RO Try.prog 10 law06_CrcSeals :=
   law06_CrcSeals_run ▸ run_sound (gcons law06_awake_ent law06_awake_sound <| gcons law06_few_ent law06_few_sound <| gcons crc_Seal_ent crc_Seal_sound <| gcons crc_Open_ent crc_Open_sound <| gcons haymowref06_Seal_ent haymowref06_Seal_sound <| gnil) mixed Try.func10 (by kernel_rfl) _
theorem law06_CrcSeals_ent : Entered Try.prog 10 := Try.call10

/-- haymow/haymowref06.Turn -/
noncomputable def haymowref06_Turn {O : Type} : Sm O := fun xs σ =>
 bif Nat.beq xs.length 3 then
 (AV.asSl (xs.getD 0 .u)).bind fun l0 =>
 (AV.asI .i64 (xs.getD 1 .u)).bind fun n1 =>
 (AV.asI .u64 (xs.getD 2 .u)).bind fun n2 =>
 let σ3 := σ.bump 2
 let σ4 := σ3.put σ.next (.cells true 5 [])
 (σ4.rdSl l0.1 l0.2 1).bind fun new5 =>
 (bif (Nat.ble ((0 + l0.2) * 2) 35184372088832) then
 (σ4.appSl (σ.next + 1) 5 1 (.loc σ.next 0 1) 0 l0.2 new5).bind fun r6 =>
 (AV.asSl r6.1).bind fun l7 =>
 (haymowref06_List [(.i .u64 n2)] r6.2).bind fun r8 =>
 (AV.asSl r8.1).bind fun l9 =>
 (loopF (S := List AV × AH O) (T := List AV × AH O) (fun r10 =>
 (AV.asI .i64 (r10.1.getD 0 .u)).bind fun n11 =>
 ((bif ((decide (n11 < 64)) == true) then
 let c12 : Bool := (decide ((IntKind.i64.wrap (n1 + n11)) < (IntKind.i64.wrap (8 * (l0.2 : Int)))))
 some ([(.b c12)], r10.2)
 else some ([(.b false)], r10.2)) : Option (List AV × AH O)).bind fun r13 =>
 (AV.asB (r13.1.getD 0 .u)).bind fun b14 =>
 (bif b14 then
 (bif ((decide ((0 : Int) ≤ n11)) && (decide (n11 < (l9.2 : Int)))) then
 (SA.ref l9.1).bind fun q15 =>
 (r13.2.ld q15.1 (q15.2 + (n11.toNat * 1))).bind fun w16 =>
 (AV.asB w16).bind fun b17 =>
 ((bif b17 then
 let v18 : Int := (IntKind.i64.wrap (Int.tdiv (IntKind.i64.wrap (n1 + n11)) 8))
 let v19 : Int := (IntKind.i64.wrap (Int.tdiv (IntKind.i64.wrap (n1 + n11)) 8))
 (bif ((decide ((0 : Int) ≤ v19)) && (decide (v19 < (l7.2 : Int)))) then
 (SA.ref l7.1).bind fun q20 =>
 (r13.2.ld q20.1 (q20.2 + (v19.toNat * 1))).bind fun w21 =>
 (AV.asI .u8 w21).bind fun n22 =>
 let v23 : Int := (IntKind.u64.wrap (Int.tmod (IntKind.i64.wrap (n1 + n11)) 8))
 (bif (decide (v23 < 0)) then
 none
 else let v24 : Int := (ibits .xor .u8 n22 (Int.fdiv 128 (2 ^ min v23.toNat 8)))
 (bif ((decide ((0 : Int) ≤ v18)) && (decide (v18 < (l7.2 : Int)))) then
 (SA.ref l7.1).bind fun q25 =>
 (r13.2.st q25.1 (q25.2 + (v18.toNat * 1)) [(.i .u8 v24)]).bind fun σ26 =>
 some ([], σ26)
 else none))
 else none)
 else some ([], r13.2)) : Option (List AV × AH O)).bind fun r27 =>
 some (Sum.inl ([(.i .i64 (IntKind.i64.wrap (n11 + 1)))], r27.2))
 else none)
 else some (Sum.inr ([], r13.2)))) ([(.i .i64 0)], r8.2)).bind fun r28 =>
 some ((.sl l7.1 l7.2), r28.2)
 else none)
 else none
theorem haymowref06_Turn_run {O : Type} : run (O := O) Try.prog [(46, haymowref06_List)] Try.f38 (.n .z (.n .z (.n .z (.n (.n .z (.n (.lp false 0 [(9, .one (.i .i64))] [] (.n (.n (.g [(2, 7, [(26, .one .b)])]) .z) (.n (.n (.n .z (.j false [] .z .z)) .z) .z))) .z)) .z)))) = haymowref06_Turn := by kernel_rfl
theorem haymowref06_Turn_sound {O : Type} {RO : O → Loc → (Nat → Option Obj) → Prop} : FSound RO Try.prog 38 haymowref06_Turn :=
   haymowref06_Turn_run ▸ run_sound (gcons haymowref06_List_ent haymowref06_List_sound <| gnil) mixed Try.func38 (by kernel_rfl) _
theorem haymowref06_Turn_ent : Entered Try.prog 38 := Try.call38

/-- haymow/haymowlaw06.CrcBursts -/
noncomputable def law06_CrcBursts {O : Type} : Sm O := fun xs σ =>
 bif Nat.beq xs.length 3 then
 (AV.asSl (xs.getD 0 .u)).bind fun l0 =>
 (AV.asI .u16 (xs.getD 1 .u)).bind fun n1 =>
 (AV.asI .u64 (xs.getD 2 .u)).bind fun n2 =>
 (law06_awake [] σ).bind fun r3 =>
 (AV.asB r3.1).bind fun b4 =>
 (bif (!b4) then
 some ((.b false), r3.2)
 else (law06_few [(.sl l0.1 l0.2)] r3.2).bind fun r5 =>
 (AV.asSl r5.1).bind fun l6 =>
 (haymowref06_Seal [(.sl l6.1 l6.2)] r5.2).bind fun r7 =>
 (AV.asSl r7.1).bind fun l8 =>
 let v9 : Int := (IntKind.i64.wrap ((IntKind.i64.wrap (8 * (l6.2 : Int))) + 1))
 (bif (v9 == 0) then
 none
 else (haymowref06_Turn [(.sl l6.1 l6.2), (.i .i64 (Int.tmod (IntKind.i64.wrap n1) v9)), (.i .u64 n2)] r7.2).bind fun r10 =>
 (AV.asSl r10.1).bind fun l11 =>
 let v12 : Int := (IntKind.i64.wrap ((IntKind.i64.wrap (8 * (l8.2 : Int))) + 1))
 (bif (v12 == 0) then
 none
 else (haymowref06_Turn [(.sl l8.1 l8.2), (.i .i64 (Int.tmod (IntKind.i64.wrap n1) v12)), (.i .u64 n2)] r10.2).bind fun r13 =>
 (AV.asSl r13.1).bind fun l14 =>
 (crc_Open [(.sl l14.1 l14.2)] r13.2).bind fun r15 =>
 (AV.asTup 2 r15.1).bind fun c16 =>
 (AV.asSl (c16.getD 0 .u)).bind fun l17 =>
 (AV.asI .i64 (c16.getD 1 .u)).bind fun n18 =>
 let σ19 := r15.2.bump 2
 (σ19.rdSl l11.1 l11.2 1).bind fun c20 =>
 (asBytes c20).bind fun s21 =>
 (σ19.rdSl l6.1 l6.2 1).bind fun c22 =>
 (asBytes c22).bind fun s23 =>
 ((bif ((!(s21 == s23)) == true) then
 let σ24 := σ19.put r15.2.next (.cells true 32 [(.sl l11.1 l11.2)])
 (crc_Sum [(.sl (.loc r15.2.next 0 1) 1)] σ24).bind fun r25 =>
 (AV.asI .u64 r25.1).bind fun n26 =>
 let σ27 := r25.2.put (r15.2.next + 1) (.cells true 32 [(.sl l6.1 l6.2)])
 (crc_Sum [(.sl (.loc (r15.2.next + 1) 0 1) 1)] σ27).bind fun r28 =>
 (AV.asI .u64 r28.1).bind fun n29 =>
 some ([(.b ((n26 : Int) == n29))], r28.2)
 else some ([(.b false)], σ19)) : Option (List AV × AH O)).bind fun r30 =>
 (AV.asB (r30.1.getD 0 .u)).bind fun b31 =>
 (bif b31 then
 some ((.b false), r30.2)
 else (r30.2.rdSl l14.1 l14.2 1).bind fun c32 =>
 (asBytes c32).bind fun s33 =>
 (r30.2.rdSl l8.1 l8.2 1).bind fun c34 =>
 (asBytes c34).bind fun s35 =>
 (bif (s33 == s35) then
 (r30.2.rdSl l17.1 l17.2 1).bind fun c36 =>
 (asBytes c36).bind fun s37 =>
 (r30.2.rdSl l6.1 l6.2 1).bind fun c38 =>
 (asBytes c38).bind fun s39 =>
 ((bif ((s37 == s39) == true) then
 some ([(.b ((n18 : Int) == 0))], r30.2)
 else some ([(.b false)], r30.2)) : Option (List AV × AH O)).bind fun r40 =>
 (AV.asB (r40.1.getD 0 .u)).bind fun b41 =>
 some ((.b b41), r40.2)
 else ((bif ((((l17.2 : Int) : Int) == 0) == true) then
 some ([(.b ((n18 : Int) == 60))], r30.2)
 else some ([(.b false)], r30.2)) : Option (List AV × AH O)).bind fun r42 =>
 (AV.asB (r42.1.getD 0 .u)).bind fun b43 =>
 some ((.b b43), r42.2))))))
 else none
theorem law06_CrcBursts_run {O : Type} : run (O := O) Try.prog [(21, law06_awake), (22, law06_few), (37, haymowref06_Seal), (38, haymowref06_Turn), (36, crc_Open), (24, crc_Sum)] Try.f11 (.n .z (.n (.n .z (.n .z .z)) (.n .z (.n .z (.n .z (.n .z (.n .z (.n (.n (.g [(5, 7, [(56, .one .b)])]) (.n .z .z)) (.n (.n .z (.n (.n (.g [(5, 2, [(70, .one .b)])]) .z) .z)) (.n (.g [(3, 2, [(77, .one .b)])]) .z)))))))))) = law06_CrcBursts := by kernel_rfl
theorem law06_CrcBursts_sound {O : Type} {RO : O → Loc → (Nat → Option Obj) → Prop} : FSound RO Try.prog 11 law06_CrcBursts :=
   law06_CrcBursts_run ▸ run_sound (gcons law06_awake_ent law06_awake_sound <| gcons law06_few_ent law06_few_sound <| gcons haymowref06_Seal_ent haymowref06_Seal_sound <| gcons haymowref06_Turn_ent haymowref06_Turn_sound <| gcons crc_Open_ent crc_Open_sound <| gcons crc_Sum_ent crc_Sum_sound <| gnil) mixed Try.func11 (by kernel_rfl) _
theorem law06_CrcBursts_ent : Entered Try.prog 11 := Try.call11

/-- haymow/haymowref05.Get -/
noncomputable def haymowref05_Get {O : Type} : Sm O := fun xs σ =>
 bif Nat.beq xs.length 1 then
 (AV.asSl (xs.getD 0 .u)).bind fun l0 =>
 bindS (S := List AV × AH O) (R := (AV × AH O)) (loopF (S := List AV × AH O) (T := (List AV × AH O) ⊕ (AV × AH O)) (fun r1 =>
 (AV.asI .i64 (r1.1.getD 0 .u)).bind fun n2 =>
 (bif (decide (n2 < (l0.2 : Int))) then
 ((bif (((n2 : Int) == 10) == false) then
 ((bif (((n2 : Int) == 9) == true) then
 (bif ((decide ((0 : Int) ≤ n2)) && (decide (n2 < (l0.2 : Int)))) then
 (SA.ref l0.1).bind fun q3 =>
 (r1.2.ld q3.1 (q3.2 + (n2.toNat * 1))).bind fun w4 =>
 (AV.asI .u8 w4).bind fun n5 =>
 some ([(.b (decide ((Int.tmod n5 128) > 1)))], r1.2)
 else none)
 else some ([(.b false)], r1.2)) : Option (List AV × AH O)).bind fun r6 =>
 (AV.asB (r6.1.getD 0 .u)).bind fun b7 =>
 some ([(.b b7)], r6.2)
 else some ([(.b true)], r1.2)) : Option (List AV × AH O)).bind fun r8 =>
 (AV.asB (r8.1.getD 0 .u)).bind fun b9 =>
 (bif b9 then
 ((some ((.tup [(.i .u64 0), (.i .i64 0), (.i .i64 7)]), r8.2) : Option (AV × AH O)).map fun r => Sum.inr (Sum.inr r))
 else (bif ((decide ((0 : Int) ≤ n2)) && (decide (n2 < (l0.2 : Int)))) then
 (SA.ref l0.1).bind fun q10 =>
 (r8.2.ld q10.1 (q10.2 + (n2.toNat * 1))).bind fun w11 =>
 (AV.asI .u8 w11).bind fun n12 =>
 (bif (decide (n12 > 127)) then
 some (Sum.inl ([(.i .i64 (IntKind.i64.wrap (n2 + 1)))], r8.2))
 else (bif ((decide ((0 : Int) ≤ n2)) && (decide (n2 < (l0.2 : Int)))) then
 (SA.ref l0.1).bind fun q13 =>
 (r8.2.ld q13.1 (q13.2 + (n2.toNat * 1))).bind fun w14 =>
 (AV.asI .u8 w14).bind fun n15 =>
 ((bif (((n15 : Int) == 0) == true) then
 some ([(.b (decide (n2 > 0)))], r8.2)
 else some ([(.b false)], r8.2)) : Option (List AV × AH O)).bind fun r16 =>
 (AV.asB (r16.1.getD 0 .u)).bind fun b17 =>
 (bif b17 then
 ((some ((.tup [(.i .u64 0), (.i .i64 0), (.i .i64 5)]), r16.2) : Option (AV × AH O)).map fun r => Sum.inr (Sum.inr r))
 else (loopF (S := List AV × AH O) (T := List AV × AH O) (fun r18 =>
 (AV.asI .u64 (r18.1.getD 0 .u)).bind fun n19 =>
 (AV.asI .i64 (r18.1.getD 1 .u)).bind fun n20 =>
 (bif (decide (n20 ≥ 0)) then
 (bif ((decide ((0 : Int) ≤ n20)) && (decide (n20 < (l0.2 : Int)))) then
 (SA.ref l0.1).bind fun q21 =>
 (r18.2.ld q21.1 (q21.2 + (n20.toNat * 1))).bind fun w22 =>
 (AV.asI .u8 w22).bind fun n23 =>
 let v24 : Int := (IntKind.u64.wrap ((IntKind.u64.wrap (n19 * 128)) + (Int.tmod (IntKind.u64.wrap n23) 128)))
 some (Sum.inl ([(.i .u64 v24), (.i .i64 (IntKind.i64.wrap (n20 - 1)))], r18.2))
 else none)
 else some (Sum.inr ([(.i .u64 n19)], r18.2)))) ([(.i .u64 0), (.i .i64 n2)], r16.2)).bind fun r25 =>
 (AV.asI .u64 (r25.1.getD 0 .u)).bind fun n26 =>
 ((some ((.tup [(.i .u64 n26), (.i .i64 (IntKind.i64.wrap (n2 + 1))), (.i .i64 0)]), r25.2) : Option (AV × AH O)).map fun r => Sum.inr (Sum.inr r)))
 else none))
 else none))
 else some (Sum.inr (Sum.inl ([], r1.2))))) ([(.i .i64 0)], σ)) fun r27 =>
 some ((.tup [(.i .u64 0), (.i .i64 0), (.i .i64 6)]), r27.2)
 else none
theorem haymowref05_Get_run {O : Type} : run (O := O) Try.prog [] Try.f39 (.n .z (.n (.n .z (.n (.lp true 0 [(5, .one (.i .i64))] [] (.n (.n .z .z) (.n (.n (.n (.n (.g [(2, 10, [(27, .one .b)]), (5, 6, [(26, .one .b)])]) (.n .z .z)) (.n (.n .z .z) (.n (.n (.g [(5, 2, [(41, .one .b)])]) (.n .z .z)) (.n .z (.n (.n .z (.n (.lp false 2 [(6, .one (.i .u64)), (7, .one (.i .i64))] [(6, .one (.i .u64))] (.n (.n .z .z) (.n .z .z))) .z)) .z))))) .z) .z))) .z)) .z)) = haymowref05_Get := by kernel_rfl
theorem haymowref05_Get_sound {O : Type} {RO : O → Loc → (Nat → Option Obj) → Prop} : FSound RO Try.prog 39 haymowref05_Get :=
   haymowref05_Get_run ▸ run_sound (gnil) mixed Try.func39 (by kernel_rfl) _
theorem haymowref05_Get_ent : Entered Try.prog 39 := Try.call39

/-- haymow/varint.Split -/
noncomputable def varint_Split {O : Type} : Sm O := fun xs σ =>
 bif Nat.beq xs.length 1 then
 (AV.asSl (xs.getD 0 .u)).bind fun l0 =>
 bindS (S := List AV × AH O) (R := (AV × AH O)) (loopF (S := List AV × AH O) (T := (List AV × AH O) ⊕ (AV × AH O)) (fun r1 =>
 (AV.asSl (r1.1.getD 0 .u)).bind fun l2 =>
 (AV.asI .i64 (r1.1.getD 1 .u)).bind fun n3 =>
 (bif (decide (n3 < (l0.2 : Int))) then
 (bif (((decide ((0 : Int) ≤ n3)) && (decide (n3 ≤ (l0.2 : Int)))) && (decide ((l0.2 : Int) ≤ (l0.2 : Int)))) then
 (SA.adv l0.1 n3.toNat 1).bind fun a4 =>
 (varint_Get [(.sl a4 ((l0.2 : Int).toNat - n3.toNat))] r1.2).bind fun r5 =>
 (AV.asTup 3 r5.1).bind fun c6 =>
 (AV.asI .u64 (c6.getD 0 .u)).bind fun n7 =>
 (AV.asI .i64 (c6.getD 1 .u)).bind fun n8 =>
 (AV.asI .i64 (c6.getD 2 .u)).bind fun n9 =>
 (bif ((n9 : Int) != 0) then
 ((some ((.tup [(.sl .nil 0), (.i .i64 n9)]), r5.2) : Option (AV × AH O)).map fun r => Sum.inr (Sum.inr r))
 else let σ10 := r5.2.bump 2
 let σ11 := σ10.put r5.2.next (.cells true 22 [(.i .u64 n7)])
 (σ11.rdSl (.loc r5.2.next 0 1) 1 1).bind fun new12 =>
 (bif (Nat.ble ((l2.2 + 1) * 9) 35184372088832) then
 (σ11.appSl (r5.2.next + 1) 22 1 l2.1 l2.2 1 new12).bind fun r13 =>
 (AV.asSl r13.1).bind fun l14 =>
 some (Sum.inl ([(.sl l14.1 l14.2), (.i .i64 (IntKind.i64.wrap (n3 + n8)))], r13.2))
 else none))
 else none)
 else some (Sum.inr (Sum.inl ([(.sl l2.1 l2.2)], r1.2))))) ([(.sl .nil 0), (.i .i64 0)], σ)) fun r15 =>
 (AV.asSl (r15.1.getD 0 .u)).bind fun l16 =>
 some ((.tup [(.sl l16.1 l16.2), (.i .i64 0)]), r15.2)
 else none
theorem varint_Split_run {O : Type} : run (O := O) Try.prog [(32, varint_Get)] Try.f40 (.n .z (.n .z (.n (.n .z (.n (.lp true 0 [(4, .one .sl), (5, .one (.i .i64))] [(4, .one .sl)] (.n (.n .z .z) (.n (.n .z (.n (.n .z (.n .z .z)) .z)) .z))) .z)) .z))) = varint_Split := by kernel_rfl
theorem varint_Split_sound {O : Type} {RO : O → Loc → (Nat → Option Obj) → Prop} : FSound RO Try.prog 40 varint_Split :=
   varint_Split_run ▸ run_sound (gcons varint_Get_ent varint_Get_sound <| gnil) mixed Try.func40 (by kernel_rfl) _
theorem varint_Split_ent : Entered Try.prog 40 := Try.call40

/-- haymow/haymowref05.Split -/
noncomputable def haymowref05_Split {O : Type} : Sm O := fun xs σ =>
 bif Nat.beq xs.length 1 then
 (AV.asSl (xs.getD 0 .u)).bind fun l0 =>
 bindS (S := List AV × AH O) (R := (AV × AH O)) (loopF (S := List AV × AH O) (T := (List AV × AH O) ⊕ (AV × AH O)) (fun r1 =>
 (AV.asSl (r1.1.getD 0 .u)).bind fun l2 =>
 (AV.asSl (r1.1.getD 1 .u)).bind fun l3 =>
 (bif (decide ((l2.2 : Int) > 0)) then
 (haymowref05_Get [(.sl l2.1 l2.2)] r1.2).bind fun r4 =>
 (AV.asTup 3 r4.1).bind fun c5 =>
 (AV.asI .u64 (c5.getD 0 .u)).bind fun n6 =>
 (AV.asI .i64 (c5.getD 1 .u)).bind fun n7 =>
 (AV.asI .i64 (c5.getD 2 .u)).bind fun n8 =>
 (bif ((n8 : Int) != 0) then
 ((some ((.tup [(.sl .nil 0), (.i .i64 n8)]), r4.2) : Option (AV × AH O)).map fun r => Sum.inr (Sum.inr r))
 else let σ9 := r4.2.bump 2
 let σ10 := σ9.put r4.2.next (.cells true 22 [(.i .u64 n6)])
 (σ10.rdSl (.loc r4.2.next 0 1) 1 1).bind fun new11 =>
 (bif (Nat.ble ((l3.2 + 1) * 9) 35184372088832) then
 (σ10.appSl (r4.2.next + 1) 22 1 l3.1 l3.2 1 new11).bind fun r12 =>
 (AV.asSl r12.1).bind fun l13 =>
 (bif (((decide ((0 : Int) ≤ n7)) && (decide (n7 ≤ (l2.2 : Int)))) && (decide ((l2.2 : Int) ≤ (l2.2 : Int)))) then
 (SA.adv l2.1 n7.toNat 1).bind fun a14 =>
 some (Sum.inl ([(.sl a14 ((l2.2 : Int).toNat - n7.toNat)), (.sl l13.1 l13.2)], r12.2))
 else none)
 else none))
 else some (Sum.inr (Sum.inl ([(.sl l3.1 l3.2)], r1.2))))) ([(.sl l0.1 l0.2), (.sl .nil 0)], σ)) fun r15 =>
 (AV.asSl (r15.1.getD 0 .u)).bind fun l16 =>
 some ((.tup [(.sl l16.1 l16.2), (.i .i64 0)]), r15.2)
 else none
theorem haymowref05_Split_run {O : Type} : run (O := O) Try.prog [(39, haymowref05_Get)] Try.f41 (.n .z (.n .z (.n (.n (.lp true 0 [(0, .one .sl), (4, .one .sl)] [(4, .one .sl)] (.n (.n .z .z) (.n (.n .z (.n (.n .z (.n .z .z)) .z)) .z))) .z) .z))) = haymowref05_Split := by kernel_rfl
theorem haymowref05_Split_sound {O : Type} {RO : O → Loc → (Nat → Option Obj) → Prop} : FSound RO Try.prog 41 haymowref05_Split :=
   haymowref05_Split_run ▸ run_sound (gcons haymowref05_Get_ent haymowref05_Get_sound <| gnil) mixed Try.func41 (by kernel_rfl) _
theorem haymowref05_Split_ent : Entered Try.prog 41 := Try.call41

/-- haymow/haymowref05.Same -/
noncomputable def haymowref05_Same {O : Type} : Sm O := fun xs σ =>
 bif Nat.beq xs.length 2 then
 (AV.asSl (xs.getD 0 .u)).bind fun l0 =>
 (AV.asSl (xs.getD 1 .u)).bind fun l1 =>
 (bif (((l0.2 : Int) : Int) != (l1.2 : Int)) then
 some ((.b false), σ)
 else bindS (S := List AV × AH O) (R := (AV × AH O)) (loopF (S := List AV × AH O) (T := (List AV × AH O) ⊕ (AV × AH O)) (fun r2 =>
 (AV.asI .i64 (r2.1.getD 0 .u)).bind fun n3 =>
 (bif (decide (n3 < (l0.2 : Int))) then
 (bif ((decide ((0 : Int) ≤ n3)) && (decide (n3 < (l0.2 : Int)))) then
 (SA.ref l0.1).bind fun q4 =>
 (r2.2.ld q4.1 (q4.2 + (n3.toNat * 1))).bind fun w5 =>
 (AV.asI .u64 w5).bind fun n6 =>
 (bif ((decide ((0 : Int) ≤ n3)) && (decide (n3 < (l1.2 : Int)))) then
 (SA.ref l1.1).bind fun q7 =>
 (r2.2.ld q7.1 (q7.2 + (n3.toNat * 1))).bind fun w8 =>
 (AV.asI .u64 w8).bind fun n9 =>
 (bif ((n6 : Int) != n9) then
 ((some ((.b false), r2.2) : Option (AV × AH O)).map fun r => Sum.inr (Sum.inr r))
 else some (Sum.inl ([(.i .i64 (IntKind.i64.wrap (n3 + 1)))], r2.2)))
 else none)
 else none)
 else some (Sum.inr (Sum.inl ([], r2.2))))) ([(.i .i64 0)], σ)) fun r10 =>
 some ((.b true), r10.2))
 else none
theorem haymowref05_Same_run {O : Type} : run (O := O) Try.prog [] Try.f42 (.n .z (.n (.n .z (.n .z .z)) (.n (.n .z (.n (.lp true 0 [(5, .one (.i .i64))] [] (.n (.n .z .z) (.n (.n (.n .z (.n .z .z)) .z) .z))) .z)) .z))) = haymowref05_Same := by kernel_rfl
theorem haymowref05_Same_sound {O : Type} {RO : O → Loc → (Nat → Option Obj) → Prop} : FSound RO Try.prog 42 haymowref05_Same :=
   haymowref05_Same_run ▸ run_sound (gnil) mixed Try.func42 (by kernel_rfl) _
theorem haymowref05_Same_ent : Entered Try.prog 42 := Try.call42

/-- haymow/varint.All -/
noncomputable def varint_All {O : Type} : Sm O := fun xs σ =>
 bif Nat.beq xs.length 1 then
 (AV.asSl (xs.getD 0 .u)).bind fun l0 =>
 (loopF (S := List AV × AH O) (T := List AV × AH O) (fun r1 =>
 (AV.asSl (r1.1.getD 0 .u)).bind fun l2 =>
 (AV.asI .i64 (r1.1.getD 1 .u)).bind fun n3 =>
 (bif (decide (n3 < (l0.2 : Int))) then
 (bif ((decide ((0 : Int) ≤ n3)) && (decide (n3 < (l0.2 : Int)))) then
 (SA.ref l0.1).bind fun q4 =>
 (r1.2.ld q4.1 (q4.2 + (n3.toNat * 1))).bind fun w5 =>
 (AV.asI .u64 w5).bind fun n6 =>
 (varint_Put [(.sl l2.1 l2.2), (.i .u64 n6)] r1.2).bind fun r7 =>
 (AV.asSl r7.1).bind fun l8 =>
 some (Sum.inl ([(.sl l8.1 l8.2), (.i .i64 (IntKind.i64.wrap (n3 + 1)))], r7.2))
 else none)
 else some (Sum.inr ([(.sl l2.1 l2.2)], r1.2)))) ([(.sl .nil 0), (.i .i64 0)], σ)).bind fun r9 =>
 (AV.asSl (r9.1.getD 0 .u)).bind fun l10 =>
 some ((.sl l10.1 l10.2), r9.2)
 else none
theorem varint_All_run {O : Type} : run (O := O) Try.prog [(30, varint_Put)] Try.f43 (.n .z (.n .z (.n (.n .z (.n (.lp false 0 [(3, .one .sl), (8, .one (.i .i64))] [(3, .one .sl)] (.n .z (.n .z (.n (.n .z .z) .z)))) .z)) .z))) = varint_All := by kernel_rfl
theorem varint_All_sound {O : Type} {RO : O → Loc → (Nat → Option Obj) → Prop} : FSound RO Try.prog 43 varint_All :=
   varint_All_run ▸ run_sound (gcons varint_Put_ent varint_Put_sound <| gnil) mixed Try.func43 (by kernel_rfl) _
theorem varint_All_ent : Entered Try.prog 43 := Try.call43

/-- haymow/haymowlaw05.VarintReads -/
noncomputable def law05_VarintReads {O : Type} : Sm O := fun xs σ =>
 bif Nat.beq xs.length 1 then
 (AV.asSl (xs.getD 0 .u)).bind fun l0 =>
 (law05_awake [] σ).bind fun r1 =>
 (AV.asB r1.1).bind fun b2 =>
 (bif (!b2) then
 some ((.b false), r1.2)
 else (bif (decide ((l0.2 : Int) > 400)) then
 some ((.b true), r1.2)
 else (varint_Get [(.sl l0.1 l0.2)] r1.2).bind fun r3 =>
 (AV.asTup 3 r3.1).bind fun c4 =>
 (AV.asI .u64 (c4.getD 0 .u)).bind fun n5 =>
 (AV.asI .i64 (c4.getD 1 .u)).bind fun n6 =>
 (AV.asI .i64 (c4.getD 2 .u)).bind fun n7 =>
 (haymowref05_Get [(.sl l0.1 l0.2)] r3.2).bind fun r8 =>
 (AV.asTup 3 r8.1).bind fun c9 =>
 (AV.asI .u64 (c9.getD 0 .u)).bind fun n10 =>
 (AV.asI .i64 (c9.getD 1 .u)).bind fun n11 =>
 (AV.asI .i64 (c9.getD 2 .u)).bind fun n12 =>
 (varint_Split [(.sl l0.1 l0.2)] r8.2).bind fun r13 =>
 (AV.asTup 2 r13.1).bind fun c14 =>
 (AV.asSl (c14.getD 0 .u)).bind fun l15 =>
 (AV.asI .i64 (c14.getD 1 .u)).bind fun n16 =>
 (haymowref05_Split [(.sl l0.1 l0.2)] r13.2).bind fun r17 =>
 (AV.asTup 2 r17.1).bind fun c18 =>
 (AV.asSl (c18.getD 0 .u)).bind fun l19 =>
 (AV.asI .i64 (c18.getD 1 .u)).bind fun n20 =>
 ((bif (((n5 : Int) != n10) == false) then
 some ([(.b ((n6 : Int) != n11))], r17.2)
 else some ([(.b true)], r17.2)) : Option (List AV × AH O)).bind fun r21 =>
 (AV.asB (r21.1.getD 0 .u)).bind fun b22 =>
 ((bif (b22 == false) then
 some ([(.b ((n7 : Int) != n12))], r21.2)
 else some ([(.b true)], r21.2)) : Option (List AV × AH O)).bind fun r23 =>
 (AV.asB (r23.1.getD 0 .u)).bind fun b24 =>
 ((bif (b24 == false) then
 (haymowref05_Same [(.sl l15.1 l15.2), (.sl l19.1 l19.2)] r23.2).bind fun r25 =>
 (AV.asB r25.1).bind fun b26 =>
 some ([(.b (!b26))], r25.2)
 else some ([(.b true)], r23.2)) : Option (List AV × AH O)).bind fun r27 =>
 (AV.asB (r27.1.getD 0 .u)).bind fun b28 =>
 ((bif (b28 == false) then
 some ([(.b ((n16 : Int) != n20))], r27.2)
 else some ([(.b true)], r27.2)) : Option (List AV × AH O)).bind fun r29 =>
 (AV.asB (r29.1.getD 0 .u)).bind fun b30 =>
 (bif b30 then
 some ((.b false), r29.2)
 else ((bif (((n16 : Int) != 0) == false) then
 (r29.2.rdSl l0.1 l0.2 1).bind fun c31 =>
 (asBytes c31).bind fun s32 =>
 (varint_All [(.sl l15.1 l15.2)] r29.2).bind fun r33 =>
 (AV.asSl r33.1).bind fun l34 =>
 (chk (r33.2.rdSl l0.1 l0.2 1 = r29.2.rdSl l0.1 l0.2 1)).bind fun _ =>
 (r33.2.rdSl l34.1 l34.2 1).bind fun c35 =>
 (asBytes c35).bind fun s36 =>
 some ([(.b (s36 == s32))], r33.2)
 else some ([(.b true)], r29.2)) : Option (List AV × AH O)).bind fun r37 =>
 (AV.asB (r37.1.getD 0 .u)).bind fun b38 =>
 some ((.b b38), r37.2))))
 else none
theorem law05_VarintReads_run {O : Type} : run (O := O) Try.prog [(14, law05_awake), (32, varint_Get), (39, haymowref05_Get), (40, varint_Split), (41, haymowref05_Split), (42, haymowref05_Same), (43, varint_All)] Try.f12 (.n .z (.n (.n .z (.n .z .z)) (.n (.n .z (.n .z .z)) (.n .z (.n .z (.n .z (.n .z (.n (.n (.g [(3, 3, [(47, .one .b)]), (8, 3, [(52, .one .b)]), (13, 4, [(58, .one .b)]), (19, 3, [(63, .one .b)])]) (.n .z .z)) (.n (.g [(2, 6, [(73, .one .b)])]) .z))))))))) = law05_VarintReads := by kernel_rfl
theorem law05_VarintReads_sound {O : Type} {RO : O → Loc → (Nat → Option Obj) → Prop} : FSound RO Try.prog 12 law05_VarintReads :=
   law05_VarintReads_run ▸ run_sound (gcons law05_awake_ent law05_awake_sound <| gcons varint_Get_ent varint_Get_sound <| gcons haymowref05_Get_ent haymowref05_Get_sound <| gcons varint_Split_ent varint_Split_sound <| gcons haymowref05_Split_ent haymowref05_Split_sound <| gcons haymowref05_Same_ent haymowref05_Same_sound <| gcons varint_All_ent varint_All_sound <| gnil) mixed Try.func12 (by kernel_rfl) _
theorem law05_VarintReads_ent : Entered Try.prog 12 := Try.call12

/-- haymow/haymowlaw05.VarintLists -/
noncomputable def law05_VarintLists {O : Type} : Sm O := fun xs σ =>
 bif Nat.beq xs.length 1 then
 (AV.asSl (xs.getD 0 .u)).bind fun l0 =>
 (law05_awake [] σ).bind fun r1 =>
 (AV.asB r1.1).bind fun b2 =>
 (bif (!b2) then
 some ((.b false), r1.2)
 else (bif (decide ((l0.2 : Int) > 100)) then
 some ((.b true), r1.2)
 else (loopF (S := List AV × AH O) (T := List AV × AH O) (fun r3 =>
 (AV.asSl (r3.1.getD 0 .u)).bind fun l4 =>
 (AV.asI .i64 (r3.1.getD 1 .u)).bind fun n5 =>
 (bif (decide (n5 < (l0.2 : Int))) then
 let σ6 := r3.2.bump 1
 (bif ((decide ((0 : Int) ≤ n5)) && (decide (n5 < (l0.2 : Int)))) then
 (SA.ref l0.1).bind fun q7 =>
 (σ6.ld q7.1 (q7.2 + (n5.toNat * 1))).bind fun w8 =>
 (AV.asI .u64 w8).bind fun n9 =>
 (haymowref05_Bytes [(.i .u64 n9)] σ6).bind fun r10 =>
 (AV.asSl r10.1).bind fun l11 =>
 (r10.2.rdSl l11.1 l11.2 1).bind fun new12 =>
 (bif (Nat.ble ((l4.2 + l11.2) * 2) 35184372088832) then
 (r10.2.appSl r3.2.next 5 1 l4.1 l4.2 l11.2 new12).bind fun r13 =>
 (AV.asSl r13.1).bind fun l14 =>
 some (Sum.inl ([(.sl l14.1 l14.2), (.i .i64 (IntKind.i64.wrap (n5 + 1)))], r13.2))
 else none)
 else none)
 else some (Sum.inr ([(.sl l4.1 l4.2)], r3.2)))) ([(.sl .nil 0), (.i .i64 0)], r1.2)).bind fun r15 =>
 (AV.asSl (r15.1.getD 0 .u)).bind fun l16 =>
 (varint_All [(.sl l0.1 l0.2)] r15.2).bind fun r17 =>
 (AV.asSl r17.1).bind fun l18 =>
 (varint_Split [(.sl l18.1 l18.2)] r17.2).bind fun r19 =>
 (AV.asTup 2 r19.1).bind fun c20 =>
 (AV.asSl (c20.getD 0 .u)).bind fun l21 =>
 (AV.asI .i64 (c20.getD 1 .u)).bind fun n22 =>
 (r19.2.rdSl l18.1 l18.2 1).bind fun c23 =>
 (asBytes c23).bind fun s24 =>
 (r19.2.rdSl l16.1 l16.2 1).bind fun c25 =>
 (asBytes c25).bind fun s26 =>
 ((bif ((s24 == s26) == true) then
 (haymowref05_Same [(.sl l21.1 l21.2), (.sl l0.1 l0.2)] r19.2).bind fun r27 =>
 (AV.asB r27.1).bind fun b28 =>
 some ([(.b b28)], r27.2)
 else some ([(.b false)], r19.2)) : Option (List AV × AH O)).bind fun r29 =>
 (AV.asB (r29.1.getD 0 .u)).bind fun b30 =>
 ((bif (b30 == true) then
 some ([(.b ((n22 : Int) == 0))], r29.2)
 else some ([(.b false)], r29.2)) : Option (List AV × AH O)).bind fun r31 =>
 (AV.asB (r31.1.getD 0 .u)).bind fun b32 =>
 some ((.b b32), r31.2)))
 else none
theorem law05_VarintLists_run {O : Type} : run (O := O) Try.prog [(14, law05_awake), (31, haymowref05_Bytes), (43, varint_All), (40, varint_Split), (42, haymowref05_Same)] Try.f13 (.n .z (.n (.n .z (.n .z .z)) (.n (.n .z (.n .z .z)) (.n .z (.n (.n .z (.n (.lp false 0 [(3, .one .sl), (4, .one (.i .i64))] [(3, .one .sl)] (.n (.n .z .z) (.n .z .z))) .z)) (.n .z (.n .z (.n (.g [(5, 3, [(42, .one .b)]), (10, 2, [(46, .one .b)])]) .z)))))))) = law05_VarintLists := by kernel_rfl
theorem law05_VarintLists_sound {O : Type} {RO : O → Loc → (Nat → Option Obj) → Prop} : FSound RO Try.prog 13 law05_VarintLists :=
   law05_VarintLists_run ▸ run_sound (gcons law05_awake_ent law05_awake_sound <| gcons haymowref05_Bytes_ent haymowref05_Bytes_sound <| gcons varint_All_ent varint_All_sound <| gcons varint_Split_ent varint_Split_sound <| gcons haymowref05_Same_ent haymowref05_Same_sound <| gnil) mixed Try.func13 (by kernel_rfl) _
theorem law05_VarintLists_ent : Entered Try.prog 13 := Try.call13

end Go.Abs.Try
