/-
  What the functions of the program do, each as a function of Lean, and that it does so. No conditions.
-/
import Derived.Test.YtcjekncaflnhlaaS3h
import Derived.Test.YtcjekncaflnhlaaProg
import Derived.KernelRfl
set_option linter.unusedVariables false
set_option linter.unusedSimpArgs false
set_option linter.constructorNameAsVariable false
set_option maxRecDepth 100000
namespace Go.Abs.Try
open Go Go.Abs Go.Proofs

/-- haymow/frames.New -/
noncomputable def frames_New_c {O : Type} (k141 : Sm O) : Sm O := fun xs σ =>
 bif Nat.beq xs.length 1 then
 (AV.asP (xs.getD 0 .u)).bind fun p0 =>
 (bif (Option.isNone p0) then
 some ((.tup [(.p none), (.i .i64 1)]), σ)
 else (k141 [(.p p0), (.i .i64 0)] σ).bind fun r1 =>
 (AV.asTup 2 r1.1).bind fun c2 =>
 (AV.asI .i64 (c2.getD 0 .u)).bind fun n3 =>
 (AV.asI .i64 (c2.getD 1 .u)).bind fun n4 =>
 (bif ((n4 : Int) != 0) then
 some ((.tup [(.p none), (.i .i64 n4)]), r1.2)
 else let σ5 := r1.2.bump 1
 let σ6 := σ5.put r1.2.next (.cells true 250 [(.p p0), (.i .i64 n3), (.i .i64 0), (.i .i64 0), (.i .i64 0), (.i .i64 0), (.i .i64 0)])
 some ((.tup [(.p (some ((.n r1.2.next), 0))), (.i .i64 0)]), σ6)))
 else none
noncomputable def frames_New {O : Type} : Sm O := frames_New_c mem_Mem__Open
theorem frames_New_ent : Entered Try.prog 157 := Try.call157
theorem frames_New_run {O : Type} (k141 : Sm O) : run (O := O) Try.prog [(141, k141)] Try.f157 (.n .z (.n (.n .z (.n .z .z)) (.n .z (.n (.n .z (.n .z .z)) .z)))) = frames_New_c k141 := by kernel_rfl
theorem frames_New_sound {O : Type} {RO : O → Loc → (Nat → Option Obj) → Prop} : FSound RO Try.prog 157 (frames_New) :=
   have h : FSound RO Try.prog 157 (frames_New_c mem_Mem__Open) := (frames_New_run mem_Mem__Open) ▸ run_sound (gcons mem_Mem__Open_ent (mem_Mem__Open_sound) <| gnil) mixed Try.func157 (by kernel_rfl) _
   h

/-- haymow/roots.New -/
noncomputable def roots_New_c {O : Type} (k157 k21 : Sm O) : Sm O := fun xs σ =>
 bif Nat.beq xs.length 1 then
 (AV.asP (xs.getD 0 .u)).bind fun p0 =>
 (k157 [(.p p0)] σ).bind fun r1 =>
 (AV.asTup 2 r1.1).bind fun c2 =>
 (AV.asP (c2.getD 0 .u)).bind fun p3 =>
 (AV.asI .i64 (c2.getD 1 .u)).bind fun n4 =>
 (bif ((n4 : Int) != 0) then
 some ((.tup [(.p none), (.i .i64 n4)]), r1.2)
 else (k21 [(.p p0)] r1.2).bind fun r5 =>
 (AV.asTup 2 r5.1).bind fun c6 =>
 (AV.asP (c6.getD 0 .u)).bind fun p7 =>
 (AV.asI .i64 (c6.getD 1 .u)).bind fun n8 =>
 (bif ((n8 : Int) != 0) then
 some ((.tup [(.p none), (.i .i64 n8)]), r5.2)
 else (k21 [(.p p0)] r5.2).bind fun r9 =>
 (AV.asTup 2 r9.1).bind fun c10 =>
 (AV.asP (c10.getD 0 .u)).bind fun p11 =>
 (AV.asI .i64 (c10.getD 1 .u)).bind fun n12 =>
 (bif ((n12 : Int) != 0) then
 some ((.tup [(.p none), (.i .i64 n12)]), r9.2)
 else let σ13 := r9.2.bump 1
 let σ14 := σ13.put r9.2.next (.cells true 142 [(.p p3), (.p p7), (.p p11)])
 some ((.tup [(.p (some ((.n r9.2.next), 0))), (.i .i64 0)]), σ14))))
 else none
noncomputable def roots_New {O : Type} : Sm O := roots_New_c frames_New handles_New
theorem roots_New_ent : Entered Try.prog 67 := Try.call67
theorem roots_New_run {O : Type} (k157 k21 : Sm O) : run (O := O) Try.prog [(157, k157), (21, k21)] Try.f67 (.n .z (.n .z (.n (.n .z (.n .z .z)) (.n .z (.n (.n .z (.n .z .z)) (.n .z (.n (.n .z (.n .z .z)) .z))))))) = roots_New_c k157 k21 := by kernel_rfl
theorem roots_New_sound {O : Type} {RO : O → Loc → (Nat → Option Obj) → Prop} : FSound RO Try.prog 67 (roots_New) :=
   have h : FSound RO Try.prog 67 (roots_New_c frames_New handles_New) := (roots_New_run frames_New handles_New) ▸ run_sound (gcons frames_New_ent (frames_New_sound) <| gcons handles_New_ent (handles_New_sound) <| gnil) mixed Try.func67 (by kernel_rfl) _
   h

/-- haymow/haymowlaw19.made -/
noncomputable def law19_made_c {O : Type} (k111 k67 : Sm O) : Sm O := fun xs σ =>
 bif Nat.beq xs.length 0 then
 (k111 [] σ).bind fun r0 =>
 (AV.asP r0.1).bind fun p1 =>
 (bif (Option.isNone p1) then
 some ((.tup [(.p none), (.b false)]), r0.2)
 else (k67 [(.p p1)] r0.2).bind fun r2 =>
 (AV.asTup 2 r2.1).bind fun c3 =>
 (AV.asP (c3.getD 0 .u)).bind fun p4 =>
 (AV.asI .i64 (c3.getD 1 .u)).bind fun n5 =>
 ((bif ((!(Option.isNone p4)) == true) then
 some ([(.b ((n5 : Int) == 0))], r2.2)
 else some ([(.b false)], r2.2)) : Option (List AV × AH O)).bind fun r6 =>
 (AV.asB (r6.1.getD 0 .u)).bind fun b7 =>
 ((bif (b7 == true) then
 Option.bind p4 fun q8 =>
 (r6.2.ld q8.1 q8.2).bind fun w9 =>
 (AV.asP w9).bind fun p10 =>
 some ([(.b (!(Option.isNone p10)))], r6.2)
 else some ([(.b false)], r6.2)) : Option (List AV × AH O)).bind fun r11 =>
 (AV.asB (r11.1.getD 0 .u)).bind fun b12 =>
 some ((.tup [(.p p4), (.b b12)]), r11.2))
 else none
noncomputable def law19_made {O : Type} : Sm O := law19_made_c mem_New roots_New
theorem law19_made_ent : Entered Try.prog 68 := Try.call68
theorem law19_made_run {O : Type} (k111 k67 : Sm O) : run (O := O) Try.prog [(111, k111), (67, k67)] Try.f68 (.n .z (.n .z (.n (.n .z (.n .z .z)) (.n .z (.n (.d [(3, 2, [(19, .one .b)]), (7, 5, [(26, .one .b)])] [0, 1, 2, 3, 4, 5, 6, 7, 8, 9, 10, 11, 12, 13, 14, 15] [0, 0, 2, 6, 14, 30, 62, 126, 254, 510, 1022, 2046, 4094, 8190, 255, 32767]) .z))))) = law19_made_c k111 k67 := by kernel_rfl
theorem law19_made_sound {O : Type} {RO : O → Loc → (Nat → Option Obj) → Prop} : FSound RO Try.prog 68 (law19_made) :=
   have h : FSound RO Try.prog 68 (law19_made_c mem_New roots_New) := (law19_made_run mem_New roots_New) ▸ run_sound (gcons mem_New_ent (mem_New_sound) <| gcons roots_New_ent (roots_New_sound) <| gnil) mixed Try.func68 (by kernel_rfl) _
   h

/-- haymow/shape.Frame -/
noncomputable def shape_Frame_c {O : Type} : Sm O := fun xs σ =>
 bif Nat.beq xs.length 1 then
 (AV.asI .i64 (xs.getD 0 .u)).bind fun n0 =>
 ((bif ((decide (n0 < 0)) == false) then
 some ([(.b (decide (n0 > 256)))], σ)
 else some ([(.b true)], σ)) : Option (List AV × AH O)).bind fun r1 =>
 (AV.asB (r1.1.getD 0 .u)).bind fun b2 =>
 (bif b2 then
 some ((.i .i64 0), r1.2)
 else some ((.i .i64 (IntKind.i64.wrap (2 + n0))), r1.2))
 else none
noncomputable def shape_Frame {O : Type} : Sm O := shape_Frame_c
theorem shape_Frame_ent : Entered Try.prog 123 := Try.call123
theorem shape_Frame_run {O : Type} : run (O := O) Try.prog [] Try.f123 (.n .z (.n (.n (.g [(2, 2, [(8, .one .b)])]) (.n .z .z)) .z)) = shape_Frame_c  := by kernel_rfl
theorem shape_Frame_sound {O : Type} {RO : O → Loc → (Nat → Option Obj) → Prop} : FSound RO Try.prog 123 (shape_Frame) :=
   have h : FSound RO Try.prog 123 (shape_Frame_c) := (shape_Frame_run) ▸ run_sound (gnil) mixed Try.func123 (by kernel_rfl) _
   h

/-- (*haymow/frames.Frames).grow -/
noncomputable def frames_Frames__grow_L1 {O : Type} (n1 : Int) : List AV × AH O → Option ((List AV × AH O) ⊕ (List AV × AH O)) := (fun r5 =>
 (AV.asI .i64 (r5.1.getD 0 .u)).bind fun n6 =>
 (bif (decide (n6 < n1)) then
 some (Sum.inl ([(.i .i64 (IntKind.i64.wrap (n6 * 2)))], r5.2))
 else some (Sum.inr ([(.i .i64 n6)], r5.2))))
noncomputable def frames_Frames__grow_c {O : Type} (k243 : Sm O) : Sm O := fun xs σ =>
 bif Nat.beq xs.length 2 then
 (AV.asP (xs.getD 0 .u)).bind fun p0 =>
 (AV.asI .i64 (xs.getD 1 .u)).bind fun n1 =>
 Option.bind p0 fun q2 =>
 (σ.ld q2.1 (q2.2 + 2)).bind fun w3 =>
 (AV.asI .i64 w3).bind fun n4 =>
 (loopF (S := List AV × AH O) (T := List AV × AH O) (frames_Frames__grow_L1 n1) ([(.i .i64 (if 32 > n4 then 32 else n4))], σ)).bind fun r7 =>
 (AV.asI .i64 (r7.1.getD 0 .u)).bind fun n8 =>
 Option.bind p0 fun q9 =>
 (r7.2.ld q9.1 (q9.2 + 2)).bind fun w10 =>
 (AV.asI .i64 w10).bind fun n11 =>
 (bif ((n8 : Int) == n11) then
 some ((.i .i64 0), r7.2)
 else Option.bind p0 fun q12 =>
 (r7.2.ld q12.1 q12.2).bind fun w13 =>
 (AV.asP w13).bind fun p14 =>
 Option.bind p0 fun q15 =>
 (r7.2.ld q15.1 (q15.2 + 1)).bind fun w16 =>
 (AV.asI .i64 w16).bind fun n17 =>
 (k243 [(.p p14), (.i .i64 n17), (.i .i64 n8)] r7.2).bind fun r18 =>
 (AV.asI .i64 r18.1).bind fun n19 =>
 (bif ((n19 : Int) != 0) then
 some ((.i .i64 3), r18.2)
 else Option.bind p0 fun q20 =>
 (r18.2.st q20.1 (q20.2 + 2) [(.i .i64 n8)]).bind fun σ21 =>
 some ((.i .i64 0), σ21)))
 else none
noncomputable def frames_Frames__grow {O : Type} : Sm O := frames_Frames__grow_c mem_Mem__Grow
theorem frames_Frames__grow_ent : Entered Try.prog 158 := Try.call158
theorem frames_Frames__grow_run {O : Type} (k243 : Sm O) : run (O := O) Try.prog [(243, k243)] Try.f158 (.n .z (.n .z (.n (.n (.lp false 0 [(5, .one (.i .i64))] [(5, .one (.i .i64))] (.n (.n .z .z) .z)) .z) (.n (.n .z (.n .z .z)) (.n (.n (.d [] [0, 1, 2, 3, 4, 5, 6, 7, 8, 9, 10] [0, 1, 3, 7, 0, 16, 48, 112, 0, 511, 1023]) (.n .z .z)) (.n .z .z)))))) = frames_Frames__grow_c k243 := by kernel_rfl
theorem frames_Frames__grow_sound {O : Type} {RO : O → Loc → (Nat → Option Obj) → Prop} : FSound RO Try.prog 158 (frames_Frames__grow) :=
   have h : FSound RO Try.prog 158 (frames_Frames__grow_c mem_Mem__Grow) := (frames_Frames__grow_run mem_Mem__Grow) ▸ run_sound (gcons mem_Mem__Grow_ent (mem_Mem__Grow_sound) <| gnil) mixed Try.func158 (by kernel_rfl) _
   h

/-- (*haymow/frames.Frames).Push -/
noncomputable def frames_Frames__Push_c {O : Type} (k123 k158 k147 k159 : Sm O) : Sm O := fun xs σ =>
 bif Nat.beq xs.length 2 then
 (AV.asP (xs.getD 0 .u)).bind fun p0 =>
 (AV.asI .i64 (xs.getD 1 .u)).bind fun n1 =>
 (k123 [(.i .i64 n1)] σ).bind fun r2 =>
 (AV.asI .i64 r2.1).bind fun n3 =>
 (bif ((n3 : Int) == 0) then
 some ((.i .i64 1), r2.2)
 else Option.bind p0 fun q4 =>
 (r2.2.ld q4.1 (q4.2 + 3)).bind fun w5 =>
 (AV.asI .i64 w5).bind fun n6 =>
 (k158 [(.p p0), (.i .i64 (IntKind.i64.wrap (n6 + n3)))] r2.2).bind fun r7 =>
 (AV.asI .i64 r7.1).bind fun n8 =>
 (bif ((n8 : Int) != 0) then
 some ((.i .i64 n8), r7.2)
 else Option.bind p0 fun q9 =>
 (r7.2.ld q9.1 (q9.2 + 4)).bind fun w10 =>
 (AV.asI .i64 w10).bind fun n11 =>
 ((bif (decide (n11 > 0)) then
 Option.bind p0 fun q12 =>
 (r7.2.ld q12.1 (q12.2 + 5)).bind fun w13 =>
 (AV.asI .i64 w13).bind fun n14 =>
 some ([(.i .i64 (IntKind.i64.wrap (n14 + 1)))], r7.2)
 else some ([(.i .i64 0)], r7.2)) : Option (List AV × AH O)).bind fun r15 =>
 (AV.asI .i64 (r15.1.getD 0 .u)).bind fun n16 =>
 Option.bind p0 fun q17 =>
 (r15.2.ld q17.1 q17.2).bind fun w18 =>
 (AV.asP w18).bind fun p19 =>
 Option.bind p0 fun q20 =>
 (r15.2.ld q20.1 (q20.2 + 1)).bind fun w21 =>
 (AV.asI .i64 w21).bind fun n22 =>
 Option.bind p0 fun q23 =>
 (r15.2.ld q23.1 (q23.2 + 3)).bind fun w24 =>
 (AV.asI .i64 w24).bind fun n25 =>
 (k147 [(.p p19), (.i .i64 n22), (.i .i64 (IntKind.i64.wrap (n25 + 0))), (.i .u64 (IntKind.u64.wrap n16))] r15.2).bind fun r26 =>
 (AV.asI .i64 r26.1).bind fun n27 =>
 Option.bind p0 fun q28 =>
 (r26.2.ld q28.1 q28.2).bind fun w29 =>
 (AV.asP w29).bind fun p30 =>
 Option.bind p0 fun q31 =>
 (r26.2.ld q31.1 (q31.2 + 1)).bind fun w32 =>
 (AV.asI .i64 w32).bind fun n33 =>
 Option.bind p0 fun q34 =>
 (r26.2.ld q34.1 (q34.2 + 3)).bind fun w35 =>
 (AV.asI .i64 w35).bind fun n36 =>
 (k147 [(.p p30), (.i .i64 n33), (.i .i64 (IntKind.i64.wrap (n36 + 1))), (.i .u64 (IntKind.u64.wrap n1))] r26.2).bind fun r37 =>
 (AV.asI .i64 r37.1).bind fun n38 =>
 Option.bind p0 fun q39 =>
 (r37.2.ld q39.1 q39.2).bind fun w40 =>
 (AV.asP w40).bind fun p41 =>
 Option.bind p0 fun q42 =>
 (r37.2.ld q42.1 (q42.2 + 1)).bind fun w43 =>
 (AV.asI .i64 w43).bind fun n44 =>
 Option.bind p0 fun q45 =>
 (r37.2.ld q45.1 (q45.2 + 3)).bind fun w46 =>
 (AV.asI .i64 w46).bind fun n47 =>
 (k159 [(.p p41), (.i .i64 n44), (.i .i64 (IntKind.i64.wrap (n47 + 2))), (.i .i64 n1)] r37.2).bind fun r48 =>
 (AV.asI .i64 r48.1).bind fun n49 =>
 Option.bind p0 fun q50 =>
 (r48.2.ld q50.1 (q50.2 + 3)).bind fun w51 =>
 (AV.asI .i64 w51).bind fun n52 =>
 Option.bind p0 fun q53 =>
 (r48.2.st q53.1 (q53.2 + 5) [(.i .i64 n52), (.i .i64 n1)]).bind fun σ54 =>
 Option.bind p0 fun q55 =>
 (σ54.ld q55.1 (q55.2 + 3)).bind fun w56 =>
 (AV.asI .i64 w56).bind fun n57 =>
 Option.bind p0 fun q58 =>
 (σ54.st q58.1 (q58.2 + 3) [(.i .i64 (IntKind.i64.wrap (n57 + n3)))]).bind fun σ59 =>
 Option.bind p0 fun q60 =>
 (σ59.ld q60.1 (q60.2 + 4)).bind fun w61 =>
 (AV.asI .i64 w61).bind fun n62 =>
 Option.bind p0 fun q63 =>
 (σ59.st q63.1 (q63.2 + 4) [(.i .i64 (IntKind.i64.wrap (n62 + 1)))]).bind fun σ64 =>
 some ((.i .i64 0), σ64)))
 else none
noncomputable def frames_Frames__Push {O : Type} : Sm O := frames_Frames__Push_c shape_Frame frames_Frames__grow mem_Mem__Write mem_Mem__Zero
theorem frames_Frames__Push_ent : Entered Try.prog 69 := Try.call69
theorem frames_Frames__Push_run {O : Type} (k123 k158 k147 k159 : Sm O) : run (O := O) Try.prog [(123, k123), (158, k158), (147, k147), (159, k159)] Try.f69 (.n .z (.n .z (.n (.n .z (.n .z .z)) (.n (.n .z (.n .z (.n .z .z))) (.n .z (.n (.n .z (.j false [(7, .one (.i .i64))] .z .z)) (.n (.d [] [0, 1, 2, 3, 4, 5, 6, 7, 8, 9, 10, 11, 12, 13, 14, 15] [0, 1, 3, 7, 0, 16, 48, 112, 0, 256, 768, 1792, 3840, 0, 8192, 32767]) (.n (.d [] [0, 1, 2, 3, 4, 5, 6, 7, 8, 9, 10, 11, 12, 13, 14, 15] [0, 1, 3, 7, 0, 16, 48, 112, 0, 256, 768, 1792, 3840, 0, 8192, 32767]) (.n (.d [] [0, 1, 2, 3, 4, 5, 6, 7, 8, 9, 10, 11, 12, 13, 14] [0, 1, 3, 7, 0, 16, 48, 112, 0, 256, 768, 1792, 3840, 0, 16383]) (.n .z (.n .z (.n .z .z)))))))))))) = frames_Frames__Push_c k123 k158 k147 k159 := by kernel_rfl
theorem frames_Frames__Push_sound {O : Type} {RO : O → Loc → (Nat → Option Obj) → Prop} : FSound RO Try.prog 69 (frames_Frames__Push) :=
   have h : FSound RO Try.prog 69 (frames_Frames__Push_c shape_Frame frames_Frames__grow mem_Mem__Write mem_Mem__Zero) := (frames_Frames__Push_run shape_Frame frames_Frames__grow mem_Mem__Write mem_Mem__Zero) ▸ run_sound (gcons shape_Frame_ent (shape_Frame_sound) <| gcons frames_Frames__grow_ent (frames_Frames__grow_sound) <| gcons mem_Mem__Write_ent (mem_Mem__Write_sound) <| gcons mem_Mem__Zero_ent (mem_Mem__Zero_sound) <| gnil) mixed Try.func69 (by kernel_rfl) _
   h

/-- (*haymow/roots.Roots).Add -/
noncomputable def roots_Roots__Add_c {O : Type} (k24 : Sm O) : Sm O := fun xs σ =>
 bif Nat.beq xs.length 1 then
 (AV.asP (xs.getD 0 .u)).bind fun p0 =>
 Option.bind p0 fun q1 =>
 (σ.ld q1.1 (q1.2 + 1)).bind fun w2 =>
 (AV.asP w2).bind fun p3 =>
 (k24 [(.p p3), (.i .u64 0)] σ).bind fun r4 =>
 (AV.asTup 2 r4.1).bind fun c5 =>
 (AV.asI .i64 (c5.getD 0 .u)).bind fun n6 =>
 (AV.asI .i64 (c5.getD 1 .u)).bind fun n7 =>
 some ((.tup [(.i .i64 n6), (.i .i64 n7)]), r4.2)
 else none
noncomputable def roots_Roots__Add {O : Type} : Sm O := roots_Roots__Add_c handles_Handles__Add
theorem roots_Roots__Add_ent : Entered Try.prog 71 := Try.call71
theorem roots_Roots__Add_run {O : Type} (k24 : Sm O) : run (O := O) Try.prog [(24, k24)] Try.f71 (.n .z .z) = roots_Roots__Add_c k24 := by kernel_rfl
theorem roots_Roots__Add_sound {O : Type} {RO : O → Loc → (Nat → Option Obj) → Prop} : FSound RO Try.prog 71 (roots_Roots__Add) :=
   have h : FSound RO Try.prog 71 (roots_Roots__Add_c handles_Handles__Add) := (roots_Roots__Add_run handles_Handles__Add) ▸ run_sound (gcons handles_Handles__Add_ent (handles_Handles__Add_sound) <| gnil) mixed Try.func71 (by kernel_rfl) _
   h

/-- haymow/roots.Slot -/
noncomputable def roots_Slot_c {O : Type} : Sm O := fun xs σ =>
 bif Nat.beq xs.length 1 then
 (AV.asI .i64 (xs.getD 0 .u)).bind fun n0 =>
 some ((.i .i64 (IntKind.i64.wrap ((-1) - n0))), σ)
 else none
noncomputable def roots_Slot {O : Type} : Sm O := roots_Slot_c
theorem roots_Slot_ent : Entered Try.prog 70 := Try.call70
theorem roots_Slot_run {O : Type} : run (O := O) Try.prog [] Try.f70 (.n .z .z) = roots_Slot_c  := by kernel_rfl
theorem roots_Slot_sound {O : Type} {RO : O → Loc → (Nat → Option Obj) → Prop} : FSound RO Try.prog 70 (roots_Slot) :=
   have h : FSound RO Try.prog 70 (roots_Slot_c) := (roots_Slot_run) ▸ run_sound (gnil) mixed Try.func70 (by kernel_rfl) _
   h

/-- (*haymow/frames.Frames).check -/
noncomputable def frames_Frames__check_c {O : Type} : Sm O := fun xs σ =>
 bif Nat.beq xs.length 2 then
 (AV.asP (xs.getD 0 .u)).bind fun p0 =>
 (AV.asI .i64 (xs.getD 1 .u)).bind fun n1 =>
 Option.bind p0 fun q2 =>
 (σ.ld q2.1 (q2.2 + 4)).bind fun w3 =>
 (AV.asI .i64 w3).bind fun n4 =>
 (bif ((n4 : Int) == 0) then
 some ((.i .i64 33), σ)
 else ((bif ((decide (n1 < 0)) == false) then
 Option.bind p0 fun q5 =>
 (σ.ld q5.1 ((q5.2 + 5) + 1)).bind fun w6 =>
 (AV.asI .i64 w6).bind fun n7 =>
 some ([(.b (decide (n1 ≥ n7)))], σ)
 else some ([(.b true)], σ)) : Option (List AV × AH O)).bind fun r8 =>
 (AV.asB (r8.1.getD 0 .u)).bind fun b9 =>
 (bif b9 then
 some ((.i .i64 32), r8.2)
 else some ((.i .i64 0), r8.2)))
 else none
noncomputable def frames_Frames__check {O : Type} : Sm O := frames_Frames__check_c
theorem frames_Frames__check_ent : Entered Try.prog 244 := Try.call244
theorem frames_Frames__check_run {O : Type} : run (O := O) Try.prog [] Try.f244 (.n .z (.n (.n (.n .z (.n .z (.n (.g [(2, 7, [(22, .one .b)])]) (.n .z .z)))) .z) .z)) = frames_Frames__check_c  := by kernel_rfl
theorem frames_Frames__check_sound {O : Type} {RO : O → Loc → (Nat → Option Obj) → Prop} : FSound RO Try.prog 244 (frames_Frames__check) :=
   have h : FSound RO Try.prog 244 (frames_Frames__check_c) := (frames_Frames__check_run) ▸ run_sound (gnil) mixed Try.func244 (by kernel_rfl) _
   h

/-- (*haymow/frames.Frames).Set -/
noncomputable def frames_Frames__Set_c {O : Type} (k244 k147 : Sm O) : Sm O := fun xs σ =>
 bif Nat.beq xs.length 3 then
 (AV.asP (xs.getD 0 .u)).bind fun p0 =>
 (AV.asI .i64 (xs.getD 1 .u)).bind fun n1 =>
 (AV.asI .u64 (xs.getD 2 .u)).bind fun n2 =>
 (k244 [(.p p0), (.i .i64 n1)] σ).bind fun r3 =>
 (AV.asI .i64 r3.1).bind fun n4 =>
 (bif ((n4 : Int) != 0) then
 some ((.i .i64 n4), r3.2)
 else Option.bind p0 fun q5 =>
 (r3.2.ld q5.1 q5.2).bind fun w6 =>
 (AV.asP w6).bind fun p7 =>
 Option.bind p0 fun q8 =>
 (r3.2.ld q8.1 (q8.2 + 1)).bind fun w9 =>
 (AV.asI .i64 w9).bind fun n10 =>
 Option.bind p0 fun q11 =>
 (r3.2.ld q11.1 (q11.2 + 5)).bind fun w12 =>
 (AV.asI .i64 w12).bind fun n13 =>
 let v14 : Int := (IntKind.i64.wrap ((IntKind.i64.wrap (n13 + 2)) + n1))
 (k147 [(.p p7), (.i .i64 n10), (.i .i64 v14), (.i .u64 n2)] r3.2).bind fun r15 =>
 (AV.asI .i64 r15.1).bind fun n16 =>
 some ((.i .i64 n16), r15.2))
 else none
noncomputable def frames_Frames__Set {O : Type} : Sm O := frames_Frames__Set_c frames_Frames__check mem_Mem__Write
theorem frames_Frames__Set_ent : Entered Try.prog 160 := Try.call160
theorem frames_Frames__Set_run {O : Type} (k244 k147 : Sm O) : run (O := O) Try.prog [(244, k244), (147, k147)] Try.f160 (.n .z (.n (.n .z (.n .z (.n .z .z))) (.n (.d [] [0, 1, 2, 3, 4, 5, 6, 7, 8, 9, 10, 11, 12, 13, 14, 15, 16, 17, 18] [0, 1, 3, 7, 0, 16, 48, 112, 0, 256, 768, 1792, 3840, 7936, 0, 32512, 0, 131071, 262143]) .z))) = frames_Frames__Set_c k244 k147 := by kernel_rfl
theorem frames_Frames__Set_sound {O : Type} {RO : O → Loc → (Nat → Option Obj) → Prop} : FSound RO Try.prog 160 (frames_Frames__Set) :=
   have h : FSound RO Try.prog 160 (frames_Frames__Set_c frames_Frames__check mem_Mem__Write) := (frames_Frames__Set_run frames_Frames__check mem_Mem__Write) ▸ run_sound (gcons frames_Frames__check_ent (frames_Frames__check_sound) <| gcons mem_Mem__Write_ent (mem_Mem__Write_sound) <| gnil) mixed Try.func160 (by kernel_rfl) _
   h

/-- (*haymow/roots.Roots).Set -/
noncomputable def roots_Roots__Set_c {O : Type} (k27 k70 k160 : Sm O) : Sm O := fun xs σ =>
 bif Nat.beq xs.length 3 then
 (AV.asP (xs.getD 0 .u)).bind fun p0 =>
 (AV.asI .i64 (xs.getD 1 .u)).bind fun n1 =>
 (AV.asI .u64 (xs.getD 2 .u)).bind fun n2 =>
 (bif (decide (n1 ≥ 0)) then
 Option.bind p0 fun q3 =>
 (σ.ld q3.1 (q3.2 + 1)).bind fun w4 =>
 (AV.asP w4).bind fun p5 =>
 (k27 [(.p p5), (.i .i64 n1), (.i .u64 n2)] σ).bind fun r6 =>
 (AV.asI .i64 r6.1).bind fun n7 =>
 some ((.i .i64 n7), r6.2)
 else Option.bind p0 fun q8 =>
 (σ.ld q8.1 q8.2).bind fun w9 =>
 (AV.asP w9).bind fun p10 =>
 (k70 [(.i .i64 n1)] σ).bind fun r11 =>
 (AV.asI .i64 r11.1).bind fun n12 =>
 (chk (r11.2.ld q8.1 q8.2 = some (.p p10))).bind fun _ =>
 (k160 [(.p p10), (.i .i64 n12), (.i .u64 n2)] r11.2).bind fun r13 =>
 (AV.asI .i64 r13.1).bind fun n14 =>
 some ((.i .i64 n14), r13.2))
 else none
noncomputable def roots_Roots__Set {O : Type} : Sm O := roots_Roots__Set_c handles_Handles__Set roots_Slot frames_Frames__Set
theorem roots_Roots__Set_ent : Entered Try.prog 72 := Try.call72
theorem roots_Roots__Set_run {O : Type} (k27 k70 k160 : Sm O) : run (O := O) Try.prog [(27, k27), (70, k70), (160, k160)] Try.f72 (.n .z (.n (.n .z (.n .z .z)) (.n (.d [] [0, 1, 2, 3, 4, 6, 5, 7, 8] [0, 1, 3, 7, 0, 16, 0, 127, 255]) .z))) = roots_Roots__Set_c k27 k70 k160 := by kernel_rfl
theorem roots_Roots__Set_sound {O : Type} {RO : O → Loc → (Nat → Option Obj) → Prop} : FSound RO Try.prog 72 (roots_Roots__Set) :=
   have h : FSound RO Try.prog 72 (roots_Roots__Set_c handles_Handles__Set roots_Slot frames_Frames__Set) := (roots_Roots__Set_run handles_Handles__Set roots_Slot frames_Frames__Set) ▸ run_sound (gcons handles_Handles__Set_ent (handles_Handles__Set_sound) <| gcons roots_Slot_ent (roots_Slot_sound) <| gcons frames_Frames__Set_ent (frames_Frames__Set_sound) <| gnil) mixed Try.func72 (by kernel_rfl) _
   h

/-- (*haymow/frames.Frames).Get -/
noncomputable def frames_Frames__Get_c {O : Type} (k244 k149 : Sm O) : Sm O := fun xs σ =>
 bif Nat.beq xs.length 2 then
 (AV.asP (xs.getD 0 .u)).bind fun p0 =>
 (AV.asI .i64 (xs.getD 1 .u)).bind fun n1 =>
 (k244 [(.p p0), (.i .i64 n1)] σ).bind fun r2 =>
 (AV.asI .i64 r2.1).bind fun n3 =>
 (bif ((n3 : Int) != 0) then
 some ((.tup [(.i .u64 0), (.i .i64 n3)]), r2.2)
 else Option.bind p0 fun q4 =>
 (r2.2.ld q4.1 q4.2).bind fun w5 =>
 (AV.asP w5).bind fun p6 =>
 Option.bind p0 fun q7 =>
 (r2.2.ld q7.1 (q7.2 + 1)).bind fun w8 =>
 (AV.asI .i64 w8).bind fun n9 =>
 Option.bind p0 fun q10 =>
 (r2.2.ld q10.1 (q10.2 + 5)).bind fun w11 =>
 (AV.asI .i64 w11).bind fun n12 =>
 let v13 : Int := (IntKind.i64.wrap ((IntKind.i64.wrap (n12 + 2)) + n1))
 (k149 [(.p p6), (.i .i64 n9), (.i .i64 v13)] r2.2).bind fun r14 =>
 (AV.asTup 2 r14.1).bind fun c15 =>
 (AV.asI .u64 (c15.getD 0 .u)).bind fun n16 =>
 (AV.asI .i64 (c15.getD 1 .u)).bind fun n17 =>
 some ((.tup [(.i .u64 n16), (.i .i64 n17)]), r14.2))
 else none
noncomputable def frames_Frames__Get {O : Type} : Sm O := frames_Frames__Get_c frames_Frames__check mem_Mem__Read
theorem frames_Frames__Get_ent : Entered Try.prog 161 := Try.call161
theorem frames_Frames__Get_run {O : Type} (k244 k149 : Sm O) : run (O := O) Try.prog [(244, k244), (149, k149)] Try.f161 (.n .z (.n (.n .z (.n .z (.n .z .z))) (.n (.d [] [0, 1, 2, 3, 4, 5, 6, 7, 8, 9, 10, 11, 12, 13, 14, 15, 16, 17, 18, 19, 20, 21] [0, 1, 3, 7, 0, 16, 48, 112, 0, 256, 768, 1792, 3840, 7936, 0, 32512, 65535, 131071, 262143, 262143, 524287, 2097151]) .z))) = frames_Frames__Get_c k244 k149 := by kernel_rfl
theorem frames_Frames__Get_sound {O : Type} {RO : O → Loc → (Nat → Option Obj) → Prop} : FSound RO Try.prog 161 (frames_Frames__Get) :=
   have h : FSound RO Try.prog 161 (frames_Frames__Get_c frames_Frames__check mem_Mem__Read) := (frames_Frames__Get_run frames_Frames__check mem_Mem__Read) ▸ run_sound (gcons frames_Frames__check_ent (frames_Frames__check_sound) <| gcons mem_Mem__Read_ent (mem_Mem__Read_sound) <| gnil) mixed Try.func161 (by kernel_rfl) _
   h

/-- (*haymow/roots.Roots).Get -/
noncomputable def roots_Roots__Get_c {O : Type} (k26 k70 k161 : Sm O) : Sm O := fun xs σ =>
 bif Nat.beq xs.length 2 then
 (AV.asP (xs.getD 0 .u)).bind fun p0 =>
 (AV.asI .i64 (xs.getD 1 .u)).bind fun n1 =>
 (bif (decide (n1 ≥ 0)) then
 Option.bind p0 fun q2 =>
 (σ.ld q2.1 (q2.2 + 1)).bind fun w3 =>
 (AV.asP w3).bind fun p4 =>
 (k26 [(.p p4), (.i .i64 n1)] σ).bind fun r5 =>
 (AV.asTup 2 r5.1).bind fun c6 =>
 (AV.asI .u64 (c6.getD 0 .u)).bind fun n7 =>
 (AV.asI .i64 (c6.getD 1 .u)).bind fun n8 =>
 some ((.tup [(.i .u64 n7), (.i .i64 n8)]), r5.2)
 else Option.bind p0 fun q9 =>
 (σ.ld q9.1 q9.2).bind fun w10 =>
 (AV.asP w10).bind fun p11 =>
 (k70 [(.i .i64 n1)] σ).bind fun r12 =>
 (AV.asI .i64 r12.1).bind fun n13 =>
 (chk (r12.2.ld q9.1 q9.2 = some (.p p11))).bind fun _ =>
 (k161 [(.p p11), (.i .i64 n13)] r12.2).bind fun r14 =>
 (AV.asTup 2 r14.1).bind fun c15 =>
 (AV.asI .u64 (c15.getD 0 .u)).bind fun n16 =>
 (AV.asI .i64 (c15.getD 1 .u)).bind fun n17 =>
 some ((.tup [(.i .u64 n16), (.i .i64 n17)]), r14.2))
 else none
noncomputable def roots_Roots__Get {O : Type} : Sm O := roots_Roots__Get_c handles_Handles__Get roots_Slot frames_Frames__Get
theorem roots_Roots__Get_ent : Entered Try.prog 75 := Try.call75
theorem roots_Roots__Get_run {O : Type} (k26 k70 k161 : Sm O) : run (O := O) Try.prog [(26, k26), (70, k70), (161, k161)] Try.f75 (.n .z (.n (.n .z (.n .z .z)) (.n (.d [] [0, 1, 2, 3, 4, 5, 6, 7, 8, 9, 10] [0, 1, 3, 7, 0, 16, 63, 127, 127, 511, 1023]) .z))) = roots_Roots__Get_c k26 k70 k161 := by kernel_rfl
theorem roots_Roots__Get_sound {O : Type} {RO : O → Loc → (Nat → Option Obj) → Prop} : FSound RO Try.prog 75 (roots_Roots__Get) :=
   have h : FSound RO Try.prog 75 (roots_Roots__Get_c handles_Handles__Get roots_Slot frames_Frames__Get) := (roots_Roots__Get_run handles_Handles__Get roots_Slot frames_Frames__Get) ▸ run_sound (gcons handles_Handles__Get_ent (handles_Handles__Get_sound) <| gcons roots_Slot_ent (roots_Slot_sound) <| gcons frames_Frames__Get_ent (frames_Frames__Get_sound) <| gnil) mixed Try.func75 (by kernel_rfl) _
   h

/-- (*haymow/frames.Frames).Words -/
noncomputable def frames_Frames__Words_c {O : Type} : Sm O := fun xs σ =>
 bif Nat.beq xs.length 1 then
 (AV.asP (xs.getD 0 .u)).bind fun p0 =>
 Option.bind p0 fun q1 =>
 (σ.ld q1.1 (q1.2 + 3)).bind fun w2 =>
 (AV.asI .i64 w2).bind fun n3 =>
 some ((.i .i64 n3), σ)
 else none
noncomputable def frames_Frames__Words {O : Type} : Sm O := frames_Frames__Words_c
theorem frames_Frames__Words_ent : Entered Try.prog 242 := Try.call242
theorem frames_Frames__Words_run {O : Type} : run (O := O) Try.prog [] Try.f242 (.n .z .z) = frames_Frames__Words_c  := by kernel_rfl
theorem frames_Frames__Words_sound {O : Type} {RO : O → Loc → (Nat → Option Obj) → Prop} : FSound RO Try.prog 242 (frames_Frames__Words) :=
   have h : FSound RO Try.prog 242 (frames_Frames__Words_c) := (frames_Frames__Words_run) ▸ run_sound (gnil) mixed Try.func242 (by kernel_rfl) _
   h

/-- (*haymow/roots.Roots).Charge -/
noncomputable def roots_Roots__Charge_c {O : Type} (k242 k28 : Sm O) : Sm O := fun xs σ =>
 bif Nat.beq xs.length 1 then
 (AV.asP (xs.getD 0 .u)).bind fun p0 =>
 Option.bind p0 fun q1 =>
 (σ.ld q1.1 q1.2).bind fun w2 =>
 (AV.asP w2).bind fun p3 =>
 Option.bind p0 fun q4 =>
 (σ.ld q4.1 (q4.2 + 1)).bind fun w5 =>
 (AV.asP w5).bind fun p6 =>
 Option.bind p0 fun q7 =>
 (σ.ld q7.1 (q7.2 + 2)).bind fun w8 =>
 (AV.asP w8).bind fun p9 =>
 (k242 [(.p p3)] σ).bind fun r10 =>
 (AV.asI .i64 r10.1).bind fun n11 =>
 (chk (r10.2.ld q4.1 (q4.2 + 1) = some (.p p6))).bind fun _ =>
 (chk (r10.2.ld q7.1 (q7.2 + 2) = some (.p p9))).bind fun _ =>
 (k28 [(.p p6)] r10.2).bind fun r12 =>
 (AV.asI .i64 r12.1).bind fun n13 =>
 (chk (r12.2.ld q7.1 (q7.2 + 2) = some (.p p9))).bind fun _ =>
 (k28 [(.p p9)] r12.2).bind fun r14 =>
 (AV.asI .i64 r14.1).bind fun n15 =>
 let v16 : Int := (IntKind.i64.wrap (4 * (IntKind.i64.wrap (n13 + n15))))
 some ((.i .i64 (IntKind.i64.wrap (n11 + v16))), r14.2)
 else none
noncomputable def roots_Roots__Charge {O : Type} : Sm O := roots_Roots__Charge_c frames_Frames__Words handles_Handles__Count
theorem roots_Roots__Charge_ent : Entered Try.prog 156 := Try.call156
theorem roots_Roots__Charge_run {O : Type} (k242 k28 : Sm O) : run (O := O) Try.prog [(242, k242), (28, k28)] Try.f156 (.n .z (.n (.d [] [0, 1, 2, 3, 5, 6, 7, 8, 10, 11, 12, 13, 4, 9, 14, 15, 16, 17, 18] [0, 1, 3, 7, 15, 0, 32, 96, 224, 511, 0, 1024, 3072, 7168, 16383, 32767, 65535, 131071, 262143]) .z)) = roots_Roots__Charge_c k242 k28 := by kernel_rfl
theorem roots_Roots__Charge_sound {O : Type} {RO : O → Loc → (Nat → Option Obj) → Prop} : FSound RO Try.prog 156 (roots_Roots__Charge) :=
   have h : FSound RO Try.prog 156 (roots_Roots__Charge_c frames_Frames__Words handles_Handles__Count) := (roots_Roots__Charge_run frames_Frames__Words handles_Handles__Count) ▸ run_sound (gcons frames_Frames__Words_ent (frames_Frames__Words_sound) <| gcons handles_Handles__Count_ent (handles_Handles__Count_sound) <| gnil) mixed Try.func156 (by kernel_rfl) _
   h

/-- haymow/haymowlaw19.awake -/
noncomputable def law19_awake_c {O : Type} (k68 k69 k71 k72 k75 k156 k70 : Sm O) : Sm O := fun xs σ =>
 bif Nat.beq xs.length 0 then
 (k68 [] σ).bind fun r0 =>
 (AV.asTup 2 r0.1).bind fun c1 =>
 (AV.asP (c1.getD 0 .u)).bind fun p2 =>
 (AV.asB (c1.getD 1 .u)).bind fun b3 =>
 (bif (!b3) then
 some ((.b false), r0.2)
 else Option.bind p2 fun q4 =>
 (r0.2.ld q4.1 q4.2).bind fun w5 =>
 (AV.asP w5).bind fun p6 =>
 (k69 [(.p p6), (.i .i64 2)] r0.2).bind fun r7 =>
 (AV.asI .i64 r7.1).bind fun n8 =>
 (k71 [(.p p2)] r7.2).bind fun r9 =>
 (AV.asTup 2 r9.1).bind fun c10 =>
 (AV.asI .i64 (c10.getD 0 .u)).bind fun n11 =>
 (AV.asI .i64 (c10.getD 1 .u)).bind fun n12 =>
 (k72 [(.p p2), (.i .i64 (-2)), (.i .u64 5)] r9.2).bind fun r13 =>
 (AV.asI .i64 r13.1).bind fun n14 =>
 (k75 [(.p p2), (.i .i64 (-2))] r13.2).bind fun r15 =>
 (AV.asTup 2 r15.1).bind fun c16 =>
 (AV.asI .u64 (c16.getD 0 .u)).bind fun n17 =>
 (AV.asI .i64 (c16.getD 1 .u)).bind fun n18 =>
 ((bif (((n8 : Int) == 0) == true) then
 some ([(.b ((n11 : Int) == 0))], r15.2)
 else some ([(.b false)], r15.2)) : Option (List AV × AH O)).bind fun r19 =>
 (AV.asB (r19.1.getD 0 .u)).bind fun b20 =>
 ((bif (b20 == true) then
 some ([(.b ((n12 : Int) == 0))], r19.2)
 else some ([(.b false)], r19.2)) : Option (List AV × AH O)).bind fun r21 =>
 (AV.asB (r21.1.getD 0 .u)).bind fun b22 =>
 ((bif (b22 == true) then
 some ([(.b ((n14 : Int) == 0))], r21.2)
 else some ([(.b false)], r21.2)) : Option (List AV × AH O)).bind fun r23 =>
 (AV.asB (r23.1.getD 0 .u)).bind fun b24 =>
 ((bif (b24 == true) then
 some ([(.b ((n17 : Int) == 5))], r23.2)
 else some ([(.b false)], r23.2)) : Option (List AV × AH O)).bind fun r25 =>
 (AV.asB (r25.1.getD 0 .u)).bind fun b26 =>
 ((bif (b26 == true) then
 some ([(.b ((n18 : Int) == 0))], r25.2)
 else some ([(.b false)], r25.2)) : Option (List AV × AH O)).bind fun r27 =>
 (AV.asB (r27.1.getD 0 .u)).bind fun b28 =>
 ((bif (b28 == true) then
 (k156 [(.p p2)] r27.2).bind fun r29 =>
 (AV.asI .i64 r29.1).bind fun n30 =>
 some ([(.b ((n30 : Int) == 8))], r29.2)
 else some ([(.b false)], r27.2)) : Option (List AV × AH O)).bind fun r31 =>
 (AV.asB (r31.1.getD 0 .u)).bind fun b32 =>
 ((bif (b32 == true) then
 (k70 [(.i .i64 1)] r31.2).bind fun r33 =>
 (AV.asI .i64 r33.1).bind fun n34 =>
 some ([(.b ((n34 : Int) == (-2)))], r33.2)
 else some ([(.b false)], r31.2)) : Option (List AV × AH O)).bind fun r35 =>
 (AV.asB (r35.1.getD 0 .u)).bind fun b36 =>
 some ((.b b36), r35.2))
 else none
noncomputable def law19_awake {O : Type} : Sm O := law19_awake_c law19_made frames_Frames__Push roots_Roots__Add roots_Roots__Set roots_Roots__Get roots_Roots__Charge roots_Slot
theorem law19_awake_ent : Entered Try.prog 66 := Try.call66
theorem law19_awake_run {O : Type} (k68 k69 k71 k72 k75 k156 k70 : Sm O) : run (O := O) Try.prog [(68, k68), (69, k69), (71, k71), (72, k72), (75, k75), (156, k156), (70, k70)] Try.f66 (.n .z (.n .z (.n (.n .z (.n .z .z)) (.n .z (.n .z (.n .z (.n .z (.n (.g [(2, 2, [(37, .one .b)]), (6, 2, [(41, .one .b)]), (10, 2, [(45, .one .b)]), (14, 2, [(49, .one .b)]), (18, 2, [(53, .one .b)]), (22, 3, [(58, .one .b)]), (27, 2, [(62, .one .b)])]) .z)))))))) = law19_awake_c k68 k69 k71 k72 k75 k156 k70 := by kernel_rfl
theorem law19_awake_sound {O : Type} {RO : O → Loc → (Nat → Option Obj) → Prop} : FSound RO Try.prog 66 (law19_awake) :=
   have h : FSound RO Try.prog 66 (law19_awake_c law19_made frames_Frames__Push roots_Roots__Add roots_Roots__Set roots_Roots__Get roots_Roots__Charge roots_Slot) := (law19_awake_run law19_made frames_Frames__Push roots_Roots__Add roots_Roots__Set roots_Roots__Get roots_Roots__Charge roots_Slot) ▸ run_sound (gcons law19_made_ent (law19_made_sound) <| gcons frames_Frames__Push_ent (frames_Frames__Push_sound) <| gcons roots_Roots__Add_ent (roots_Roots__Add_sound) <| gcons roots_Roots__Set_ent (roots_Roots__Set_sound) <| gcons roots_Roots__Get_ent (roots_Roots__Get_sound) <| gcons roots_Roots__Charge_ent (roots_Roots__Charge_sound) <| gcons roots_Slot_ent (roots_Slot_sound) <| gnil) mixed Try.func66 (by kernel_rfl) _
   h

/-- (*haymow/roots.Roots).AddWeak -/
noncomputable def roots_Roots__AddWeak_c {O : Type} (k24 : Sm O) : Sm O := fun xs σ =>
 bif Nat.beq xs.length 2 then
 (AV.asP (xs.getD 0 .u)).bind fun p0 =>
 (AV.asI .u64 (xs.getD 1 .u)).bind fun n1 =>
 Option.bind p0 fun q2 =>
 (σ.ld q2.1 (q2.2 + 2)).bind fun w3 =>
 (AV.asP w3).bind fun p4 =>
 (k24 [(.p p4), (.i .u64 n1)] σ).bind fun r5 =>
 (AV.asTup 2 r5.1).bind fun c6 =>
 (AV.asI .i64 (c6.getD 0 .u)).bind fun n7 =>
 (AV.asI .i64 (c6.getD 1 .u)).bind fun n8 =>
 some ((.tup [(.i .i64 n7), (.i .i64 n8)]), r5.2)
 else none
noncomputable def roots_Roots__AddWeak {O : Type} : Sm O := roots_Roots__AddWeak_c handles_Handles__Add
theorem roots_Roots__AddWeak_ent : Entered Try.prog 73 := Try.call73
theorem roots_Roots__AddWeak_run {O : Type} (k24 : Sm O) : run (O := O) Try.prog [(24, k24)] Try.f73 (.n .z .z) = roots_Roots__AddWeak_c k24 := by kernel_rfl
theorem roots_Roots__AddWeak_sound {O : Type} {RO : O → Loc → (Nat → Option Obj) → Prop} : FSound RO Try.prog 73 (roots_Roots__AddWeak) :=
   have h : FSound RO Try.prog 73 (roots_Roots__AddWeak_c handles_Handles__Add) := (roots_Roots__AddWeak_run handles_Handles__Add) ▸ run_sound (gcons handles_Handles__Add_ent (handles_Handles__Add_sound) <| gnil) mixed Try.func73 (by kernel_rfl) _
   h

/-- (*haymow/roots.Roots).DropWeak -/
noncomputable def roots_Roots__DropWeak_c {O : Type} (k23 : Sm O) : Sm O := fun xs σ =>
 bif Nat.beq xs.length 2 then
 (AV.asP (xs.getD 0 .u)).bind fun p0 =>
 (AV.asI .i64 (xs.getD 1 .u)).bind fun n1 =>
 Option.bind p0 fun q2 =>
 (σ.ld q2.1 (q2.2 + 2)).bind fun w3 =>
 (AV.asP w3).bind fun p4 =>
 (k23 [(.p p4), (.i .i64 n1)] σ).bind fun r5 =>
 (AV.asI .i64 r5.1).bind fun n6 =>
 some ((.i .i64 n6), r5.2)
 else none
noncomputable def roots_Roots__DropWeak {O : Type} : Sm O := roots_Roots__DropWeak_c handles_Handles__Drop
theorem roots_Roots__DropWeak_ent : Entered Try.prog 74 := Try.call74
theorem roots_Roots__DropWeak_run {O : Type} (k23 : Sm O) : run (O := O) Try.prog [(23, k23)] Try.f74 (.n .z .z) = roots_Roots__DropWeak_c k23 := by kernel_rfl
theorem roots_Roots__DropWeak_sound {O : Type} {RO : O → Loc → (Nat → Option Obj) → Prop} : FSound RO Try.prog 74 (roots_Roots__DropWeak) :=
   have h : FSound RO Try.prog 74 (roots_Roots__DropWeak_c handles_Handles__Drop) := (roots_Roots__DropWeak_run handles_Handles__Drop) ▸ run_sound (gcons handles_Handles__Drop_ent (handles_Handles__Drop_sound) <| gnil) mixed Try.func74 (by kernel_rfl) _
   h

/-- haymow/haymowlaw19.RootsApart -/
noncomputable def law19_RootsApart_L3 {O : Type} (l56 : SA × Nat) (k75 : Sm O) (p18 : Option (Bid × Nat)) (n61 : Int) (n66 : Int) : List AV × AH O → Option ((List AV × AH O) ⊕ ((List AV × AH O) ⊕ (AV × AH O))) := (fun r99 =>
 (AV.asI .i64 (r99.1.getD 0 .u)).bind fun n100 =>
 (bif (decide (n100 < 10)) then
 (bif ((decide ((0 : Int) ≤ n100)) && (decide (n100 < (l56.2 : Int)))) then
 (SA.ref l56.1).bind fun q101 =>
 (r99.2.ld q101.1 (q101.2 + (n100.toNat * 1))).bind fun w102 =>
 (AV.asI .i64 w102).bind fun n103 =>
 (k75 [(.p p18), (.i .i64 n103)] r99.2).bind fun r104 =>
 (AV.asTup 2 r104.1).bind fun c105 =>
 (AV.asI .u64 (c105.getD 0 .u)).bind fun n106 =>
 (AV.asI .i64 (c105.getD 1 .u)).bind fun n107 =>
 ((bif (((n107 : Int) != 0) == false) then
 (bif ((decide ((0 : Int) ≤ n100)) && (decide (n100 < (l56.2 : Int)))) then
 (SA.ref l56.1).bind fun q108 =>
 (r104.2.ld q108.1 (q108.2 + (n100.toNat * 1))).bind fun w109 =>
 (AV.asI .i64 w109).bind fun n110 =>
 ((bif (((n110 : Int) != n61) == true) then
 (bif ((decide ((0 : Int) ≤ n100)) && (decide (n100 < (l56.2 : Int)))) then
 (SA.ref l56.1).bind fun q111 =>
 (r104.2.ld q111.1 (q111.2 + (n100.toNat * 1))).bind fun w112 =>
 (AV.asI .i64 w112).bind fun n113 =>
 some ([(.b ((n113 : Int) != n66))], r104.2)
 else none)
 else some ([(.b false)], r104.2)) : Option (List AV × AH O)).bind fun r114 =>
 (AV.asB (r114.1.getD 0 .u)).bind fun b115 =>
 ((bif (b115 == true) then
 some ([(.b ((n106 : Int) != 0))], r114.2)
 else some ([(.b false)], r114.2)) : Option (List AV × AH O)).bind fun r116 =>
 (AV.asB (r116.1.getD 0 .u)).bind fun b117 =>
 some ([(.b b117)], r116.2)
 else none)
 else some ([(.b true)], r104.2)) : Option (List AV × AH O)).bind fun r118 =>
 (AV.asB (r118.1.getD 0 .u)).bind fun b119 =>
 (bif b119 then
 ((some ((.b false), r118.2) : Option (AV × AH O)).map fun r => Sum.inr (Sum.inr r))
 else some (Sum.inl ([(.i .i64 (IntKind.i64.wrap (n100 + 1)))], r118.2)))
 else none)
 else some (Sum.inr (Sum.inl ([], r99.2)))))
noncomputable def law19_RootsApart_L2 {O : Type} (k71 : Sm O) (p18 : Option (Bid × Nat)) : List AV × AH O → Option ((List AV × AH O) ⊕ ((List AV × AH O) ⊕ (AV × AH O))) := (fun r43 =>
 (AV.asSl (r43.1.getD 0 .u)).bind fun l44 =>
 (AV.asI .i64 (r43.1.getD 1 .u)).bind fun n45 =>
 (bif (decide (n45 < 5)) then
 (k71 [(.p p18)] r43.2).bind fun r46 =>
 (AV.asTup 2 r46.1).bind fun c47 =>
 (AV.asI .i64 (c47.getD 0 .u)).bind fun n48 =>
 (AV.asI .i64 (c47.getD 1 .u)).bind fun n49 =>
 (bif ((n49 : Int) != 0) then
 ((some ((.b false), r46.2) : Option (AV × AH O)).map fun r => Sum.inr (Sum.inr r))
 else let σ50 := r46.2.bump 2
 let σ51 := σ50.put r46.2.next (.cells true 3 [(.i .i64 n48)])
 (σ51.rdSl (.loc (.n r46.2.next) 0 1) 1 1).bind fun new52 =>
 (bif (Nat.ble ((l44.2 + 1) * 9) 35184372088832) then
 (σ51.appSl (r46.2.next + 1) 3 1 l44.1 l44.2 1 new52).bind fun r53 =>
 (AV.asSl r53.1).bind fun l54 =>
 some (Sum.inl ([(.sl l54.1 l54.2), (.i .i64 (IntKind.i64.wrap (n45 + 1)))], r53.2))
 else none))
 else some (Sum.inr (Sum.inl ([(.sl l44.1 l44.2)], r43.2)))))
noncomputable def law19_RootsApart_L1 {O : Type} (k70 : Sm O) : List AV × AH O → Option ((List AV × AH O) ⊕ (List AV × AH O)) := (fun r31 =>
 (AV.asSl (r31.1.getD 0 .u)).bind fun l32 =>
 (AV.asI .i64 (r31.1.getD 1 .u)).bind fun n33 =>
 (bif (decide (n33 < 5)) then
 let σ34 := r31.2.bump 2
 (k70 [(.i .i64 n33)] σ34).bind fun r35 =>
 (AV.asI .i64 r35.1).bind fun n36 =>
 let σ37 := r35.2.put r31.2.next (.cells true 3 [(.i .i64 n36)])
 (σ37.rdSl (.loc (.n r31.2.next) 0 1) 1 1).bind fun new38 =>
 (bif (Nat.ble ((l32.2 + 1) * 9) 35184372088832) then
 (σ37.appSl (r31.2.next + 1) 3 1 l32.1 l32.2 1 new38).bind fun r39 =>
 (AV.asSl r39.1).bind fun l40 =>
 some (Sum.inl ([(.sl l40.1 l40.2), (.i .i64 (IntKind.i64.wrap (n33 + 1)))], r39.2))
 else none)
 else some (Sum.inr ([(.sl l32.1 l32.2)], r31.2))))
noncomputable def law19_RootsApart_c {O : Type} (k66 k67 k68 k69 k70 k71 k72 k73 k74 k75 : Sm O) : Sm O := fun xs σ =>
 bif Nat.beq xs.length 3 then
 (AV.asAgg 2 (xs.getD 0 .u)).bind fun c0 =>
 (AV.asI .u8 (c0.getD 0 .u)).bind fun n1 =>
 (AV.asI .u8 (c0.getD 1 .u)).bind fun n2 =>
 (AV.asAgg 2 (xs.getD 1 .u)).bind fun c3 =>
 (AV.asI .u64 (c3.getD 0 .u)).bind fun n4 =>
 (AV.asI .u64 (c3.getD 1 .u)).bind fun n5 =>
 (AV.asI .i64 (xs.getD 2 .u)).bind fun n6 =>
 let σ7 := σ.bump 2
 let σ8 := σ7.put σ.next (.cells true 133 [(.i .u8 n1), (.i .u8 n2)])
 let σ9 := σ8.put (σ.next + 1) (.cells true 134 [(.i .u64 n4), (.i .u64 n5)])
 (k66 [] σ9).bind fun r10 =>
 (AV.asB r10.1).bind fun b11 =>
 (bif (!b11) then
 some ((.b false), r10.2)
 else (k67 [(.p none)] r10.2).bind fun r12 =>
 (AV.asTup 2 r12.1).bind fun c13 =>
 (AV.asP (c13.getD 0 .u)).bind fun p14 =>
 (AV.asI .i64 (c13.getD 1 .u)).bind fun n15 =>
 (k68 [] r12.2).bind fun r16 =>
 (AV.asTup 2 r16.1).bind fun c17 =>
 (AV.asP (c17.getD 0 .u)).bind fun p18 =>
 (AV.asB (c17.getD 1 .u)).bind fun b19 =>
 ((bif ((!b19) == false) then
 some ([(.b (!(Option.isNone p14)))], r16.2)
 else some ([(.b true)], r16.2)) : Option (List AV × AH O)).bind fun r20 =>
 (AV.asB (r20.1.getD 0 .u)).bind fun b21 =>
 ((bif (b21 == false) then
 some ([(.b ((n15 : Int) != 1))], r20.2)
 else some ([(.b true)], r20.2)) : Option (List AV × AH O)).bind fun r22 =>
 (AV.asB (r22.1.getD 0 .u)).bind fun b23 =>
 ((bif (b23 == false) then
 Option.bind p18 fun q24 =>
 (r22.2.ld q24.1 q24.2).bind fun w25 =>
 (AV.asP w25).bind fun p26 =>
 (k69 [(.p p26), (.i .i64 5)] r22.2).bind fun r27 =>
 (AV.asI .i64 r27.1).bind fun n28 =>
 some ([(.b ((n28 : Int) != 0))], r27.2)
 else some ([(.b true)], r22.2)) : Option (List AV × AH O)).bind fun r29 =>
 (AV.asB (r29.1.getD 0 .u)).bind fun b30 =>
 (bif b30 then
 some ((.b false), r29.2)
 else (loopF (S := List AV × AH O) (T := List AV × AH O) (law19_RootsApart_L1 k70) ([(.sl .nil 0), (.i .i64 0)], r29.2)).bind fun r41 =>
 (AV.asSl (r41.1.getD 0 .u)).bind fun l42 =>
 bindS (S := List AV × AH O) (R := (AV × AH O)) (loopF (S := List AV × AH O) (T := (List AV × AH O) ⊕ (AV × AH O)) (law19_RootsApart_L2 k71 p18) ([(.sl l42.1 l42.2), (.i .i64 0)], r41.2)) fun r55 =>
 (AV.asSl (r55.1.getD 0 .u)).bind fun l56 =>
 (r55.2.ld (.n σ.next) 0).bind fun w57 =>
 (AV.asI .u8 w57).bind fun n58 =>
 (bif ((decide ((0 : Int) ≤ (Int.tmod (IntKind.i64.wrap n58) 10))) && (decide ((Int.tmod (IntKind.i64.wrap n58) 10) < (l56.2 : Int)))) then
 (SA.ref l56.1).bind fun q59 =>
 (r55.2.ld q59.1 (q59.2 + ((Int.tmod (IntKind.i64.wrap n58) 10).toNat * 1))).bind fun w60 =>
 (AV.asI .i64 w60).bind fun n61 =>
 (r55.2.ld (.n σ.next) 1).bind fun w62 =>
 (AV.asI .u8 w62).bind fun n63 =>
 (bif ((decide ((0 : Int) ≤ (Int.tmod (IntKind.i64.wrap n63) 10))) && (decide ((Int.tmod (IntKind.i64.wrap n63) 10) < (l56.2 : Int)))) then
 (SA.ref l56.1).bind fun q64 =>
 (r55.2.ld q64.1 (q64.2 + ((Int.tmod (IntKind.i64.wrap n63) 10).toNat * 1))).bind fun w65 =>
 (AV.asI .i64 w65).bind fun n66 =>
 (r55.2.ld (.n (σ.next + 1)) 0).bind fun w67 =>
 (AV.asI .u64 w67).bind fun n68 =>
 (k72 [(.p p18), (.i .i64 n61), (.i .u64 n68)] r55.2).bind fun r69 =>
 (AV.asI .i64 r69.1).bind fun n70 =>
 ((bif (((n70 : Int) != 0) == false) then
 (r69.2.ld (.n (σ.next + 1)) 1).bind fun w71 =>
 (AV.asI .u64 w71).bind fun n72 =>
 (k72 [(.p p18), (.i .i64 n66), (.i .u64 n72)] r69.2).bind fun r73 =>
 (AV.asI .i64 r73.1).bind fun n74 =>
 some ([(.b ((n74 : Int) != 0))], r73.2)
 else some ([(.b true)], r69.2)) : Option (List AV × AH O)).bind fun r75 =>
 (AV.asB (r75.1.getD 0 .u)).bind fun b76 =>
 (bif b76 then
 some ((.b false), r75.2)
 else (r75.2.ld (.n (σ.next + 1)) 0).bind fun w77 =>
 (AV.asI .u64 w77).bind fun n78 =>
 (k73 [(.p p18), (.i .u64 n78)] r75.2).bind fun r79 =>
 (AV.asTup 2 r79.1).bind fun c80 =>
 (AV.asI .i64 (c80.getD 0 .u)).bind fun n81 =>
 (AV.asI .i64 (c80.getD 1 .u)).bind fun n82 =>
 (k74 [(.p p18), (.i .i64 0)] r79.2).bind fun r83 =>
 (AV.asI .i64 r83.1).bind fun n84 =>
 (k75 [(.p p18), (.i .i64 n61)] r83.2).bind fun r85 =>
 (AV.asTup 2 r85.1).bind fun c86 =>
 (AV.asI .u64 (c86.getD 0 .u)).bind fun n87 =>
 (AV.asI .i64 (c86.getD 1 .u)).bind fun n88 =>
 (k75 [(.p p18), (.i .i64 n66)] r85.2).bind fun r89 =>
 (AV.asTup 2 r89.1).bind fun c90 =>
 (AV.asI .u64 (c90.getD 0 .u)).bind fun n91 =>
 (AV.asI .i64 (c90.getD 1 .u)).bind fun n92 =>
 (r89.2.ld (.n (σ.next + 1)) 0).bind fun w93 =>
 (AV.asI .u64 w93).bind fun n94 =>
 ((bif ((n61 : Int) == n66) then
 (r89.2.ld (.n (σ.next + 1)) 1).bind fun w95 =>
 (AV.asI .u64 w95).bind fun n96 =>
 some ([(.i .u64 n96)], r89.2)
 else some ([(.i .u64 n94)], r89.2)) : Option (List AV × AH O)).bind fun r97 =>
 (AV.asI .u64 (r97.1.getD 0 .u)).bind fun n98 =>
 bindS (S := List AV × AH O) (R := (AV × AH O)) (loopF (S := List AV × AH O) (T := (List AV × AH O) ⊕ (AV × AH O)) (law19_RootsApart_L3 l56 k75 p18 n61 n66) ([(.i .i64 0)], r97.2)) fun r120 =>
 ((bif (((n87 : Int) == n98) == true) then
 (r120.2.ld (.n (σ.next + 1)) 1).bind fun w121 =>
 (AV.asI .u64 w121).bind fun n122 =>
 some ([(.b ((n91 : Int) == n122))], r120.2)
 else some ([(.b false)], r120.2)) : Option (List AV × AH O)).bind fun r123 =>
 (AV.asB (r123.1.getD 0 .u)).bind fun b124 =>
 ((bif (b124 == true) then
 some ([(.b ((n88 : Int) == 0))], r123.2)
 else some ([(.b false)], r123.2)) : Option (List AV × AH O)).bind fun r125 =>
 (AV.asB (r125.1.getD 0 .u)).bind fun b126 =>
 ((bif (b126 == true) then
 some ([(.b ((n92 : Int) == 0))], r125.2)
 else some ([(.b false)], r125.2)) : Option (List AV × AH O)).bind fun r127 =>
 (AV.asB (r127.1.getD 0 .u)).bind fun b128 =>
 ((bif (b128 == true) then
 (k70 [(.i .i64 n6)] r127.2).bind fun r129 =>
 (AV.asI .i64 r129.1).bind fun n130 =>
 (k70 [(.i .i64 n130)] r129.2).bind fun r131 =>
 (AV.asI .i64 r131.1).bind fun n132 =>
 some ([(.b ((n132 : Int) == n6))], r131.2)
 else some ([(.b false)], r127.2)) : Option (List AV × AH O)).bind fun r133 =>
 (AV.asB (r133.1.getD 0 .u)).bind fun b134 =>
 some ((.b b134), r133.2))
 else none)
 else none)))
 else none
noncomputable def law19_RootsApart {O : Type} : Sm O := law19_RootsApart_c law19_awake roots_New law19_made frames_Frames__Push roots_Slot roots_Roots__Add roots_Roots__Set roots_Roots__AddWeak roots_Roots__DropWeak roots_Roots__Get
theorem law19_RootsApart_ent : Entered Try.prog 10 := Try.call10
theorem law19_RootsApart_run {O : Type} (k66 k67 k68 k69 k70 k71 k72 k73 k74 k75 : Sm O) : run (O := O) Try.prog [(66, k66), (67, k67), (68, k68), (69, k69), (70, k70), (71, k71), (72, k72), (73, k73), (74, k74), (75, k75)] Try.f10 (.n .z (.n (.n .z (.n .z .z)) (.n .z (.n .z (.n (.n (.g [(2, 2, [(41, .one .b)]), (6, 2, [(45, .one .b)]), (10, 6, [(53, .one .b)])]) (.n .z .z)) (.n .z (.n (.n .z (.n (.lp false 0 [(11, .one .sl), (12, .one (.i .i64))] [(11, .one .sl)] (.n (.n .z .z) (.n .z .z))) .z)) (.n (.n .z (.n (.lp true 2 [(11, .one .sl), (13, .one (.i .i64))] [(11, .one .sl)] (.n (.n .z .z) (.n (.n (.n .z (.n (.n .z (.n .z .z)) .z)) .z) .z))) .z)) (.n (.d [] [0, 1, 2, 3, 4, 5, 6, 7, 8, 9, 10, 11, 12, 13, 14, 15] [0, 0, 2, 6, 14, 31, 63, 0, 0, 256, 768, 1792, 3968, 8064, 127, 32767]) (.n (.n (.g [(6, 6, [(105, .one .b)])]) (.n .z .z)) (.n .z (.n .z (.n .z (.n .z (.n .z (.n (.n .z (.j false [(22, .one (.i .u64))] .z .z)) (.n (.n .z (.n (.lp true 4 [(23, .one (.i .i64))] [] (.n (.n .z .z) (.n (.n (.n .z (.n (.g [(2, 18, [(165, .one .b)]), (9, 6, [(160, .one .b)]), (17, 2, [(164, .one .b)])]) (.n .z .z))) .z) .z))) .z)) (.n (.g [(3, 4, [(174, .one .b)]), (9, 2, [(178, .one .b)]), (13, 2, [(182, .one .b)]), (17, 5, [(189, .one .b)])]) .z)))))))))))))))))) = law19_RootsApart_c k66 k67 k68 k69 k70 k71 k72 k73 k74 k75 := by kernel_rfl
theorem law19_RootsApart_sound {O : Type} {RO : O → Loc → (Nat → Option Obj) → Prop} : FSound RO Try.prog 10 (law19_RootsApart) :=
   have h : FSound RO Try.prog 10 (law19_RootsApart_c law19_awake roots_New law19_made frames_Frames__Push roots_Slot roots_Roots__Add roots_Roots__Set roots_Roots__AddWeak roots_Roots__DropWeak roots_Roots__Get) := (law19_RootsApart_run law19_awake roots_New law19_made frames_Frames__Push roots_Slot roots_Roots__Add roots_Roots__Set roots_Roots__AddWeak roots_Roots__DropWeak roots_Roots__Get) ▸ run_sound (gcons law19_awake_ent (law19_awake_sound) <| gcons roots_New_ent (roots_New_sound) <| gcons law19_made_ent (law19_made_sound) <| gcons frames_Frames__Push_ent (frames_Frames__Push_sound) <| gcons roots_Slot_ent (roots_Slot_sound) <| gcons roots_Roots__Add_ent (roots_Roots__Add_sound) <| gcons roots_Roots__Set_ent (roots_Roots__Set_sound) <| gcons roots_Roots__AddWeak_ent (roots_Roots__AddWeak_sound) <| gcons roots_Roots__DropWeak_ent (roots_Roots__DropWeak_sound) <| gcons roots_Roots__Get_ent (roots_Roots__Get_sound) <| gnil) mixed Try.func10 (by kernel_rfl) _
   h

end Go.Abs.Try
