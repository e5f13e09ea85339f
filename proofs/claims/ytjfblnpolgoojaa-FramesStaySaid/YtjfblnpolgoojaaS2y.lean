/-
  What the functions of the program do, each as a function of Lean, and that it does so. No conditions.
-/
import Derived.Test.YtjfblnpolgoojaaS2x9
import Derived.Test.YtjfblnpolgoojaaProg
import Derived.KernelRfl
set_option linter.unusedVariables false
set_option linter.unusedSimpArgs false
set_option linter.constructorNameAsVariable false
set_option maxRecDepth 100000
namespace Go.Abs.Try
open Go Go.Abs Go.Proofs

/-- haymow/semi.New -/
noncomputable def semi_New_c {O : Type} (k36 : Sm O) : Sm O := fun xs σ =>
 bif Nat.beq xs.length 2 then
 (AV.asP (xs.getD 0 .u)).bind fun p0 =>
 (AV.asI .i64 (xs.getD 1 .u)).bind fun n1 =>
 (bif (Option.isNone p0) then
 some ((.tup [(.p none), (.i .i64 1)]), σ)
 else (k36 [(.p p0), (.i .i64 n1)] σ).bind fun r2 =>
 (AV.asTup 2 r2.1).bind fun c3 =>
 (AV.asI .i64 (c3.getD 0 .u)).bind fun n4 =>
 (AV.asI .i64 (c3.getD 1 .u)).bind fun n5 =>
 (bif ((n5 : Int) != 0) then
 some ((.tup [(.p none), (.i .i64 n5)]), r2.2)
 else let σ6 := r2.2.bump 1
 let σ7 := σ6.put r2.2.next (.cells true 195 [(.p p0), (.i .i64 n4), (.i .i64 0), (.i .i64 0), (.i .i64 0), (.b false)])
 some ((.tup [(.p (some ((.n r2.2.next), 0))), (.i .i64 0)]), σ7)))
 else none
noncomputable def semi_New {O : Type} : Sm O := semi_New_c mem_Mem__Open
theorem semi_New_ent : Entered Try.prog 50 := Try.call50
theorem semi_New_run {O : Type} (k36 : Sm O) : run (O := O) Try.prog [(36, k36)] Try.f50 (.n .z (.n (.n .z (.n .z .z)) (.n .z (.n (.n .z (.n .z .z)) .z)))) = semi_New_c k36 := by kernel_rfl
theorem semi_New_sound {O : Type} {RO : O → Loc → (Nat → Option Obj) → Prop} : FSound RO Try.prog 50 (semi_New) :=
   have h : FSound RO Try.prog 50 (semi_New_c mem_Mem__Open) := (semi_New_run mem_Mem__Open) ▸ run_sound (gcons mem_Mem__Open_ent (mem_Mem__Open_sound) <| gnil) mixed Try.func50 (by kernel_rfl) _
   h

/-- haymow/haymowlaw14.made -/
noncomputable def law14_made_c {O : Type} (k35 k50 : Sm O) : Sm O := fun xs σ =>
 bif Nat.beq xs.length 1 then
 (AV.asI .i64 (xs.getD 0 .u)).bind fun n0 =>
 (k35 [] σ).bind fun r1 =>
 (AV.asP r1.1).bind fun p2 =>
 (bif (Option.isNone p2) then
 some ((.tup [(.p none), (.p none), (.b false)]), r1.2)
 else (k50 [(.p p2), (.i .i64 n0)] r1.2).bind fun r3 =>
 (AV.asTup 2 r3.1).bind fun c4 =>
 (AV.asP (c4.getD 0 .u)).bind fun p5 =>
 (AV.asI .i64 (c4.getD 1 .u)).bind fun n6 =>
 ((bif ((!(Option.isNone p5)) == true) then
 some ([(.b ((n6 : Int) == 0))], r3.2)
 else some ([(.b false)], r3.2)) : Option (List AV × AH O)).bind fun r7 =>
 (AV.asB (r7.1.getD 0 .u)).bind fun b8 =>
 some ((.tup [(.p p2), (.p p5), (.b b8)]), r7.2))
 else none
noncomputable def law14_made {O : Type} : Sm O := law14_made_c mem_New semi_New
theorem law14_made_ent : Entered Try.prog 49 := Try.call49
theorem law14_made_run {O : Type} (k35 k50 : Sm O) : run (O := O) Try.prog [(35, k35), (50, k50)] Try.f49 (.n .z (.n .z (.n (.n .z (.n .z .z)) (.n .z (.n (.g [(4, 2, [(24, .one .b)])]) .z))))) = law14_made_c k35 k50 := by kernel_rfl
theorem law14_made_sound {O : Type} {RO : O → Loc → (Nat → Option Obj) → Prop} : FSound RO Try.prog 49 (law14_made) :=
   have h : FSound RO Try.prog 49 (law14_made_c mem_New semi_New) := (law14_made_run mem_New semi_New) ▸ run_sound (gcons mem_New_ent (mem_New_sound) <| gcons semi_New_ent (semi_New_sound) <| gnil) mixed Try.func49 (by kernel_rfl) _
   h

/-- (*haymow/semi.Semi).Size -/
noncomputable def semi_Semi__Size_c {O : Type} (k124 : Sm O) : Sm O := fun xs σ =>
 bif Nat.beq xs.length 1 then
 (AV.asP (xs.getD 0 .u)).bind fun p0 =>
 Option.bind p0 fun q1 =>
 (σ.ld q1.1 q1.2).bind fun w2 =>
 (AV.asP w2).bind fun p3 =>
 Option.bind p0 fun q4 =>
 (σ.ld q4.1 (q4.2 + 1)).bind fun w5 =>
 (AV.asI .i64 w5).bind fun n6 =>
 (k124 [(.p p3), (.i .i64 n6)] σ).bind fun r7 =>
 (AV.asTup 2 r7.1).bind fun c8 =>
 (AV.asI .i64 (c8.getD 0 .u)).bind fun n9 =>
 (AV.asI .i64 (c8.getD 1 .u)).bind fun n10 =>
 some ((.i .i64 n9), r7.2)
 else none
noncomputable def semi_Semi__Size {O : Type} : Sm O := semi_Semi__Size_c mem_Mem__Size
theorem semi_Semi__Size_ent : Entered Try.prog 157 := Try.call157
theorem semi_Semi__Size_run {O : Type} (k124 : Sm O) : run (O := O) Try.prog [(124, k124)] Try.f157 (.n .z (.n (.d [] [0, 1, 2, 3, 4, 5, 6, 7, 8, 9, 10, 11, 12, 13, 14] [0, 1, 3, 7, 0, 16, 48, 112, 240, 511, 1023, 2047, 2047, 4095, 16383]) .z)) = semi_Semi__Size_c k124 := by kernel_rfl
theorem semi_Semi__Size_sound {O : Type} {RO : O → Loc → (Nat → Option Obj) → Prop} : FSound RO Try.prog 157 (semi_Semi__Size) :=
   have h : FSound RO Try.prog 157 (semi_Semi__Size_c mem_Mem__Size) := (semi_Semi__Size_run mem_Mem__Size) ▸ run_sound (gcons mem_Mem__Size_ent (mem_Mem__Size_sound) <| gnil) mixed Try.func157 (by kernel_rfl) _
   h

/-- (*haymow/semi.Semi).Room -/
noncomputable def semi_Semi__Room_c {O : Type} (k157 : Sm O) : Sm O := fun xs σ =>
 bif Nat.beq xs.length 1 then
 (AV.asP (xs.getD 0 .u)).bind fun p0 =>
 Option.bind p0 fun q1 =>
 (σ.ld q1.1 ((q1.2 + 1) + 1)).bind fun w2 =>
 (AV.asI .i64 w2).bind fun n3 =>
 (k157 [(.p p0)] σ).bind fun r4 =>
 (AV.asI .i64 r4.1).bind fun n5 =>
 (chk (r4.2.ld q1.1 ((q1.2 + 1) + 1) = some (.i .i64 n3))).bind fun _ =>
 some ((.i .i64 (IntKind.i64.wrap (n5 - n3))), r4.2)
 else none
noncomputable def semi_Semi__Room {O : Type} : Sm O := semi_Semi__Room_c semi_Semi__Size
theorem semi_Semi__Room_ent : Entered Try.prog 115 := Try.call115
theorem semi_Semi__Room_run {O : Type} (k157 : Sm O) : run (O := O) Try.prog [(157, k157)] Try.f115 (.n .z (.n (.d [] [0, 2, 3, 4, 5, 6, 1, 7, 8] [0, 1, 0, 4, 12, 28, 60, 127, 255]) .z)) = semi_Semi__Room_c k157 := by kernel_rfl
theorem semi_Semi__Room_sound {O : Type} {RO : O → Loc → (Nat → Option Obj) → Prop} : FSound RO Try.prog 115 (semi_Semi__Room) :=
   have h : FSound RO Try.prog 115 (semi_Semi__Room_c semi_Semi__Size) := (semi_Semi__Room_run semi_Semi__Size) ▸ run_sound (gcons semi_Semi__Size_ent (semi_Semi__Size_sound) <| gnil) mixed Try.func115 (by kernel_rfl) _
   h

/-- (*haymow/semi.Semi).Take -/
noncomputable def semi_Semi__Take_c {O : Type} (k115 : Sm O) : Sm O := fun xs σ =>
 bif Nat.beq xs.length 2 then
 (AV.asP (xs.getD 0 .u)).bind fun p0 =>
 (AV.asI .i64 (xs.getD 1 .u)).bind fun n1 =>
 (bif (decide (n1 < 1)) then
 some ((.tup [(.i .i64 0), (.i .i64 1)]), σ)
 else (k115 [(.p p0)] σ).bind fun r2 =>
 (AV.asI .i64 r2.1).bind fun n3 =>
 (bif (decide (n1 > n3)) then
 some ((.tup [(.i .i64 0), (.i .i64 3)]), r2.2)
 else Option.bind p0 fun q4 =>
 (r2.2.ld q4.1 ((q4.2 + 1) + 1)).bind fun w5 =>
 (AV.asI .i64 w5).bind fun n6 =>
 Option.bind p0 fun q7 =>
 (r2.2.ld q7.1 ((q7.2 + 1) + 1)).bind fun w8 =>
 (AV.asI .i64 w8).bind fun n9 =>
 Option.bind p0 fun q10 =>
 (r2.2.st q10.1 ((q10.2 + 1) + 1) [(.i .i64 (IntKind.i64.wrap (n9 + n1)))]).bind fun σ11 =>
 some ((.tup [(.i .i64 n6), (.i .i64 0)]), σ11)))
 else none
noncomputable def semi_Semi__Take {O : Type} : Sm O := semi_Semi__Take_c semi_Semi__Room
theorem semi_Semi__Take_ent : Entered Try.prog 51 := Try.call51
theorem semi_Semi__Take_run {O : Type} (k115 : Sm O) : run (O := O) Try.prog [(115, k115)] Try.f51 (.n .z (.n (.n (.n .z (.n .z (.n .z (.n .z .z)))) .z) (.n .z (.n .z .z)))) = semi_Semi__Take_c k115 := by kernel_rfl
theorem semi_Semi__Take_sound {O : Type} {RO : O → Loc → (Nat → Option Obj) → Prop} : FSound RO Try.prog 51 (semi_Semi__Take) :=
   have h : FSound RO Try.prog 51 (semi_Semi__Take_c semi_Semi__Room) := (semi_Semi__Take_run semi_Semi__Room) ▸ run_sound (gcons semi_Semi__Room_ent (semi_Semi__Room_sound) <| gnil) mixed Try.func51 (by kernel_rfl) _
   h

/-- (*haymow/semi.Semi).Flip -/
noncomputable def semi_Semi__Flip_c {O : Type} (k36 : Sm O) : Sm O := fun xs σ =>
 bif Nat.beq xs.length 2 then
 (AV.asP (xs.getD 0 .u)).bind fun p0 =>
 (AV.asI .i64 (xs.getD 1 .u)).bind fun n1 =>
 Option.bind p0 fun q2 =>
 (σ.ld q2.1 (q2.2 + 5)).bind fun w3 =>
 (AV.asB w3).bind fun b4 =>
 (bif b4 then
 some ((.i .i64 1), σ)
 else Option.bind p0 fun q5 =>
 (σ.ld q5.1 q5.2).bind fun w6 =>
 (AV.asP w6).bind fun p7 =>
 (k36 [(.p p7), (.i .i64 n1)] σ).bind fun r8 =>
 (AV.asTup 2 r8.1).bind fun c9 =>
 (AV.asI .i64 (c9.getD 0 .u)).bind fun n10 =>
 (AV.asI .i64 (c9.getD 1 .u)).bind fun n11 =>
 (bif ((n11 : Int) != 0) then
 some ((.i .i64 n11), r8.2)
 else Option.bind p0 fun q12 =>
 (r8.2.ld q12.1 (q12.2 + 1)).bind fun w13 =>
 (AV.asI .i64 w13).bind fun n14 =>
 (r8.2.ld q12.1 ((q12.2 + 1) + 1)).bind fun w15 =>
 (AV.asI .i64 w15).bind fun n16 =>
 Option.bind p0 fun q17 =>
 (r8.2.st q17.1 (q17.2 + 3) [(.i .i64 n14), (.i .i64 n16)]).bind fun σ18 =>
 Option.bind p0 fun q19 =>
 (σ18.st q19.1 (q19.2 + 1) [(.i .i64 n10), (.i .i64 0)]).bind fun σ20 =>
 Option.bind p0 fun q21 =>
 (σ20.st q21.1 (q21.2 + 5) [(.b true)]).bind fun σ22 =>
 some ((.i .i64 0), σ22)))
 else none
noncomputable def semi_Semi__Flip {O : Type} : Sm O := semi_Semi__Flip_c mem_Mem__Open
theorem semi_Semi__Flip_ent : Entered Try.prog 77 := Try.call77
theorem semi_Semi__Flip_run {O : Type} (k36 : Sm O) : run (O := O) Try.prog [(36, k36)] Try.f77 (.n .z (.n (.n .z (.n .z .z)) (.n .z (.n (.n .z (.n .z .z)) (.n .z .z))))) = semi_Semi__Flip_c k36 := by kernel_rfl
theorem semi_Semi__Flip_sound {O : Type} {RO : O → Loc → (Nat → Option Obj) → Prop} : FSound RO Try.prog 77 (semi_Semi__Flip) :=
   have h : FSound RO Try.prog 77 (semi_Semi__Flip_c mem_Mem__Open) := (semi_Semi__Flip_run mem_Mem__Open) ▸ run_sound (gcons mem_Mem__Open_ent (mem_Mem__Open_sound) <| gnil) mixed Try.func77 (by kernel_rfl) _
   h

/-- (haymow/semi.side).within -/
noncomputable def semi_side__within_c {O : Type} : Sm O := fun xs σ =>
 bif Nat.beq xs.length 3 then
 (AV.asAgg 2 (xs.getD 0 .u)).bind fun c0 =>
 (AV.asI .i64 (c0.getD 0 .u)).bind fun n1 =>
 (AV.asI .i64 (c0.getD 1 .u)).bind fun n2 =>
 (AV.asI .i64 (xs.getD 1 .u)).bind fun n3 =>
 (AV.asI .i64 (xs.getD 2 .u)).bind fun n4 =>
 let σ5 := σ.bump 1
 let σ6 := σ5.put σ.next (.cells true 193 [(.i .i64 n1), (.i .i64 n2)])
 ((bif ((decide (n4 ≥ 0)) == true) then
 some ([(.b (decide (n3 ≥ 0)))], σ6)
 else some ([(.b false)], σ6)) : Option (List AV × AH O)).bind fun r7 =>
 (AV.asB (r7.1.getD 0 .u)).bind fun b8 =>
 ((bif (b8 == true) then
 (r7.2.ld (.n σ.next) 1).bind fun w9 =>
 (AV.asI .i64 w9).bind fun n10 =>
 some ([(.b (decide (n3 ≤ n10)))], r7.2)
 else some ([(.b false)], r7.2)) : Option (List AV × AH O)).bind fun r11 =>
 (AV.asB (r11.1.getD 0 .u)).bind fun b12 =>
 ((bif (b12 == true) then
 (r11.2.ld (.n σ.next) 1).bind fun w13 =>
 (AV.asI .i64 w13).bind fun n14 =>
 some ([(.b (decide (n4 ≤ (IntKind.i64.wrap (n14 - n3)))))], r11.2)
 else some ([(.b false)], r11.2)) : Option (List AV × AH O)).bind fun r15 =>
 (AV.asB (r15.1.getD 0 .u)).bind fun b16 =>
 some ((.b b16), r15.2)
 else none
noncomputable def semi_side__within {O : Type} : Sm O := semi_side__within_c
theorem semi_side__within_ent : Entered Try.prog 116 := Try.call116
theorem semi_side__within_run {O : Type} : run (O := O) Try.prog [] Try.f116 (.n .z (.n (.g [(2, 2, [(12, .one .b)]), (6, 4, [(18, .one .b)]), (12, 6, [(26, .one .b)])]) .z)) = semi_side__within_c  := by kernel_rfl
theorem semi_side__within_sound {O : Type} {RO : O → Loc → (Nat → Option Obj) → Prop} : FSound RO Try.prog 116 (semi_side__within) :=
   have h : FSound RO Try.prog 116 (semi_side__within_c) := (semi_side__within_run) ▸ run_sound (gnil) mixed Try.func116 (by kernel_rfl) _
   h

/-- (*haymow/semi.Semi).past -/
noncomputable def semi_Semi__past_c {O : Type} (k116 : Sm O) : Sm O := fun xs σ =>
 bif Nat.beq xs.length 3 then
 (AV.asP (xs.getD 0 .u)).bind fun p0 =>
 (AV.asI .i64 (xs.getD 1 .u)).bind fun n1 =>
 (AV.asI .i64 (xs.getD 2 .u)).bind fun n2 =>
 Option.bind p0 fun q3 =>
 (σ.ld q3.1 (q3.2 + 5)).bind fun w4 =>
 (AV.asB w4).bind fun b5 =>
 (bif (!b5) then
 some ((.i .i64 4), σ)
 else Option.bind p0 fun q6 =>
 (σ.ld q6.1 (q6.2 + 3)).bind fun w7 =>
 (AV.asI .i64 w7).bind fun n8 =>
 (σ.ld q6.1 ((q6.2 + 3) + 1)).bind fun w9 =>
 (AV.asI .i64 w9).bind fun n10 =>
 (k116 [(.agg [(.i .i64 n8), (.i .i64 n10)]), (.i .i64 n1), (.i .i64 n2)] σ).bind fun r11 =>
 (AV.asB r11.1).bind fun b12 =>
 (bif (!b12) then
 some ((.i .i64 11), r11.2)
 else some ((.i .i64 0), r11.2)))
 else none
noncomputable def semi_Semi__past {O : Type} : Sm O := semi_Semi__past_c semi_side__within
theorem semi_Semi__past_ent : Entered Try.prog 136 := Try.call136
theorem semi_Semi__past_run {O : Type} (k116 : Sm O) : run (O := O) Try.prog [(116, k116)] Try.f136 (.n .z (.n (.n (.n .z (.n .z (.n .z (.n .z .z)))) .z) .z)) = semi_Semi__past_c k116 := by kernel_rfl
theorem semi_Semi__past_sound {O : Type} {RO : O → Loc → (Nat → Option Obj) → Prop} : FSound RO Try.prog 136 (semi_Semi__past) :=
   have h : FSound RO Try.prog 136 (semi_Semi__past_c semi_side__within) := (semi_Semi__past_run semi_side__within) ▸ run_sound (gcons semi_side__within_ent (semi_side__within_sound) <| gnil) mixed Try.func136 (by kernel_rfl) _
   h

/-- (*haymow/semi.Semi).Move -/
noncomputable def semi_Semi__Move_c {O : Type} (k136 k51 k46 : Sm O) : Sm O := fun xs σ =>
 bif Nat.beq xs.length 3 then
 (AV.asP (xs.getD 0 .u)).bind fun p0 =>
 (AV.asI .i64 (xs.getD 1 .u)).bind fun n1 =>
 (AV.asI .i64 (xs.getD 2 .u)).bind fun n2 =>
 (k136 [(.p p0), (.i .i64 n1), (.i .i64 n2)] σ).bind fun r3 =>
 (AV.asI .i64 r3.1).bind fun n4 =>
 (bif ((n4 : Int) != 0) then
 some ((.tup [(.i .i64 0), (.i .i64 n4)]), r3.2)
 else (k51 [(.p p0), (.i .i64 n2)] r3.2).bind fun r5 =>
 (AV.asTup 2 r5.1).bind fun c6 =>
 (AV.asI .i64 (c6.getD 0 .u)).bind fun n7 =>
 (AV.asI .i64 (c6.getD 1 .u)).bind fun n8 =>
 (bif ((n8 : Int) != 0) then
 some ((.tup [(.i .i64 0), (.i .i64 n8)]), r5.2)
 else Option.bind p0 fun q9 =>
 (r5.2.ld q9.1 q9.2).bind fun w10 =>
 (AV.asP w10).bind fun p11 =>
 Option.bind p0 fun q12 =>
 (r5.2.ld q12.1 (q12.2 + 3)).bind fun w13 =>
 (AV.asI .i64 w13).bind fun n14 =>
 Option.bind p0 fun q15 =>
 (r5.2.ld q15.1 (q15.2 + 1)).bind fun w16 =>
 (AV.asI .i64 w16).bind fun n17 =>
 (k46 [(.p p11), (.i .i64 n14), (.i .i64 n1), (.i .i64 n17), (.i .i64 n7), (.i .i64 n2)] r5.2).bind fun r18 =>
 (AV.asI .i64 r18.1).bind fun n19 =>
 some ((.tup [(.i .i64 n7), (.i .i64 n19)]), r18.2)))
 else none
noncomputable def semi_Semi__Move {O : Type} : Sm O := semi_Semi__Move_c semi_Semi__past semi_Semi__Take mem_Mem__Copy
theorem semi_Semi__Move_ent : Entered Try.prog 78 := Try.call78
theorem semi_Semi__Move_run {O : Type} (k136 k51 k46 : Sm O) : run (O := O) Try.prog [(136, k136), (51, k51), (46, k46)] Try.f78 (.n .z (.n (.n .z (.n .z (.n .z .z))) (.n .z (.n (.n .z (.n .z .z)) (.n (.d [] [0, 1, 2, 3, 4, 5, 6, 7, 8, 9, 10, 11, 12, 13, 14, 15, 16, 17, 18, 19, 20] [0, 0, 2, 6, 14, 0, 32, 96, 224, 480, 0, 0, 2048, 6144, 14336, 30720, 0, 0, 262142, 524287, 1048575]) .z))))) = semi_Semi__Move_c k136 k51 k46 := by kernel_rfl
theorem semi_Semi__Move_sound {O : Type} {RO : O → Loc → (Nat → Option Obj) → Prop} : FSound RO Try.prog 78 (semi_Semi__Move) :=
   have h : FSound RO Try.prog 78 (semi_Semi__Move_c semi_Semi__past semi_Semi__Take mem_Mem__Copy) := (semi_Semi__Move_run semi_Semi__past semi_Semi__Take mem_Mem__Copy) ▸ run_sound (gcons semi_Semi__past_ent (semi_Semi__past_sound) <| gcons semi_Semi__Take_ent (semi_Semi__Take_sound) <| gcons mem_Mem__Copy_ent (mem_Mem__Copy_sound) <| gnil) mixed Try.func78 (by kernel_rfl) _
   h

/-- (*haymow/semi.Semi).Top -/
noncomputable def semi_Semi__Top_c {O : Type} : Sm O := fun xs σ =>
 bif Nat.beq xs.length 1 then
 (AV.asP (xs.getD 0 .u)).bind fun p0 =>
 Option.bind p0 fun q1 =>
 (σ.ld q1.1 ((q1.2 + 1) + 1)).bind fun w2 =>
 (AV.asI .i64 w2).bind fun n3 =>
 some ((.i .i64 n3), σ)
 else none
noncomputable def semi_Semi__Top {O : Type} : Sm O := semi_Semi__Top_c
theorem semi_Semi__Top_ent : Entered Try.prog 54 := Try.call54
theorem semi_Semi__Top_run {O : Type} : run (O := O) Try.prog [] Try.f54 (.n .z .z) = semi_Semi__Top_c  := by kernel_rfl
theorem semi_Semi__Top_sound {O : Type} {RO : O → Loc → (Nat → Option Obj) → Prop} : FSound RO Try.prog 54 (semi_Semi__Top) :=
   have h : FSound RO Try.prog 54 (semi_Semi__Top_c) := (semi_Semi__Top_run) ▸ run_sound (gnil) mixed Try.func54 (by kernel_rfl) _
   h

/-- (*haymow/semi.Semi).Turning -/
noncomputable def semi_Semi__Turning_c {O : Type} : Sm O := fun xs σ =>
 bif Nat.beq xs.length 1 then
 (AV.asP (xs.getD 0 .u)).bind fun p0 =>
 Option.bind p0 fun q1 =>
 (σ.ld q1.1 (q1.2 + 5)).bind fun w2 =>
 (AV.asB w2).bind fun b3 =>
 some ((.b b3), σ)
 else none
noncomputable def semi_Semi__Turning {O : Type} : Sm O := semi_Semi__Turning_c
theorem semi_Semi__Turning_ent : Entered Try.prog 114 := Try.call114
theorem semi_Semi__Turning_run {O : Type} : run (O := O) Try.prog [] Try.f114 (.n .z .z) = semi_Semi__Turning_c  := by kernel_rfl
theorem semi_Semi__Turning_sound {O : Type} {RO : O → Loc → (Nat → Option Obj) → Prop} : FSound RO Try.prog 114 (semi_Semi__Turning) :=
   have h : FSound RO Try.prog 114 (semi_Semi__Turning_c) := (semi_Semi__Turning_run) ▸ run_sound (gnil) mixed Try.func114 (by kernel_rfl) _
   h

/-- haymow/haymowlaw14.awake -/
noncomputable def law14_awake_c {O : Type} (k49 k51 k77 k78 k54 k114 : Sm O) : Sm O := fun xs σ =>
 bif Nat.beq xs.length 0 then
 (k49 [(.i .i64 4)] σ).bind fun r0 =>
 (AV.asTup 3 r0.1).bind fun c1 =>
 (AV.asP (c1.getD 0 .u)).bind fun p2 =>
 (AV.asP (c1.getD 1 .u)).bind fun p3 =>
 (AV.asB (c1.getD 2 .u)).bind fun b4 =>
 (bif (!b4) then
 some ((.b false), r0.2)
 else (k51 [(.p p3), (.i .i64 3)] r0.2).bind fun r5 =>
 (AV.asTup 2 r5.1).bind fun c6 =>
 (AV.asI .i64 (c6.getD 0 .u)).bind fun n7 =>
 (AV.asI .i64 (c6.getD 1 .u)).bind fun n8 =>
 (k51 [(.p p3), (.i .i64 2)] r5.2).bind fun r9 =>
 (AV.asTup 2 r9.1).bind fun c10 =>
 (AV.asI .i64 (c10.getD 0 .u)).bind fun n11 =>
 (AV.asI .i64 (c10.getD 1 .u)).bind fun n12 =>
 (k77 [(.p p3), (.i .i64 4)] r9.2).bind fun r13 =>
 (AV.asI .i64 r13.1).bind fun n14 =>
 (k78 [(.p p3), (.i .i64 1), (.i .i64 2)] r13.2).bind fun r15 =>
 (AV.asTup 2 r15.1).bind fun c16 =>
 (AV.asI .i64 (c16.getD 0 .u)).bind fun n17 =>
 (AV.asI .i64 (c16.getD 1 .u)).bind fun n18 =>
 ((bif (((n7 : Int) == 0) == true) then
 some ([(.b ((n8 : Int) == 0))], r15.2)
 else some ([(.b false)], r15.2)) : Option (List AV × AH O)).bind fun r19 =>
 (AV.asB (r19.1.getD 0 .u)).bind fun b20 =>
 ((bif (b20 == true) then
 some ([(.b ((n12 : Int) == 3))], r19.2)
 else some ([(.b false)], r19.2)) : Option (List AV × AH O)).bind fun r21 =>
 (AV.asB (r21.1.getD 0 .u)).bind fun b22 =>
 ((bif (b22 == true) then
 some ([(.b ((n14 : Int) == 0))], r21.2)
 else some ([(.b false)], r21.2)) : Option (List AV × AH O)).bind fun r23 =>
 (AV.asB (r23.1.getD 0 .u)).bind fun b24 =>
 ((bif (b24 == true) then
 some ([(.b ((n17 : Int) == 0))], r23.2)
 else some ([(.b false)], r23.2)) : Option (List AV × AH O)).bind fun r25 =>
 (AV.asB (r25.1.getD 0 .u)).bind fun b26 =>
 ((bif (b26 == true) then
 some ([(.b ((n18 : Int) == 0))], r25.2)
 else some ([(.b false)], r25.2)) : Option (List AV × AH O)).bind fun r27 =>
 (AV.asB (r27.1.getD 0 .u)).bind fun b28 =>
 ((bif (b28 == true) then
 (k54 [(.p p3)] r27.2).bind fun r29 =>
 (AV.asI .i64 r29.1).bind fun n30 =>
 some ([(.b ((n30 : Int) == 2))], r29.2)
 else some ([(.b false)], r27.2)) : Option (List AV × AH O)).bind fun r31 =>
 (AV.asB (r31.1.getD 0 .u)).bind fun b32 =>
 ((bif (b32 == true) then
 (k114 [(.p p3)] r31.2).bind fun r33 =>
 (AV.asB r33.1).bind fun b34 =>
 some ([(.b b34)], r33.2)
 else some ([(.b false)], r31.2)) : Option (List AV × AH O)).bind fun r35 =>
 (AV.asB (r35.1.getD 0 .u)).bind fun b36 =>
 some ((.b b36), r35.2))
 else none
noncomputable def law14_awake {O : Type} : Sm O := law14_awake_c law14_made semi_Semi__Take semi_Semi__Flip semi_Semi__Move semi_Semi__Top semi_Semi__Turning
theorem law14_awake_ent : Entered Try.prog 48 := Try.call48
theorem law14_awake_run {O : Type} (k49 k51 k77 k78 k54 k114 : Sm O) : run (O := O) Try.prog [(49, k49), (51, k51), (77, k77), (78, k78), (54, k54), (114, k114)] Try.f48 (.n .z (.n .z (.n (.n .z (.n .z .z)) (.n .z (.n .z (.n .z (.n .z (.n (.g [(2, 2, [(40, .one .b)]), (6, 2, [(44, .one .b)]), (10, 2, [(48, .one .b)]), (14, 2, [(52, .one .b)]), (18, 2, [(56, .one .b)]), (22, 3, [(61, .one .b)]), (27, 2, [(65, .one .b)])]) .z)))))))) = law14_awake_c k49 k51 k77 k78 k54 k114 := by kernel_rfl
theorem law14_awake_sound {O : Type} {RO : O → Loc → (Nat → Option Obj) → Prop} : FSound RO Try.prog 48 (law14_awake) :=
   have h : FSound RO Try.prog 48 (law14_awake_c law14_made semi_Semi__Take semi_Semi__Flip semi_Semi__Move semi_Semi__Top semi_Semi__Turning) := (law14_awake_run law14_made semi_Semi__Take semi_Semi__Flip semi_Semi__Move semi_Semi__Top semi_Semi__Turning) ▸ run_sound (gcons law14_made_ent (law14_made_sound) <| gcons semi_Semi__Take_ent (semi_Semi__Take_sound) <| gcons semi_Semi__Flip_ent (semi_Semi__Flip_sound) <| gcons semi_Semi__Move_ent (semi_Semi__Move_sound) <| gcons semi_Semi__Top_ent (semi_Semi__Top_sound) <| gcons semi_Semi__Turning_ent (semi_Semi__Turning_sound) <| gnil) mixed Try.func48 (by kernel_rfl) _
   h

/-- (*haymow/semi.Semi).Read -/
noncomputable def semi_Semi__Read_c {O : Type} (k116 k47 : Sm O) : Sm O := fun xs σ =>
 bif Nat.beq xs.length 2 then
 (AV.asP (xs.getD 0 .u)).bind fun p0 =>
 (AV.asI .i64 (xs.getD 1 .u)).bind fun n1 =>
 Option.bind p0 fun q2 =>
 (σ.ld q2.1 (q2.2 + 1)).bind fun w3 =>
 (AV.asI .i64 w3).bind fun n4 =>
 (σ.ld q2.1 ((q2.2 + 1) + 1)).bind fun w5 =>
 (AV.asI .i64 w5).bind fun n6 =>
 (k116 [(.agg [(.i .i64 n4), (.i .i64 n6)]), (.i .i64 n1), (.i .i64 1)] σ).bind fun r7 =>
 (AV.asB r7.1).bind fun b8 =>
 (bif (!b8) then
 some ((.tup [(.i .u64 0), (.i .i64 11)]), r7.2)
 else Option.bind p0 fun q9 =>
 (r7.2.ld q9.1 q9.2).bind fun w10 =>
 (AV.asP w10).bind fun p11 =>
 Option.bind p0 fun q12 =>
 (r7.2.ld q12.1 (q12.2 + 1)).bind fun w13 =>
 (AV.asI .i64 w13).bind fun n14 =>
 (k47 [(.p p11), (.i .i64 n14), (.i .i64 n1)] r7.2).bind fun r15 =>
 (AV.asTup 2 r15.1).bind fun c16 =>
 (AV.asI .u64 (c16.getD 0 .u)).bind fun n17 =>
 (AV.asI .i64 (c16.getD 1 .u)).bind fun n18 =>
 some ((.tup [(.i .u64 n17), (.i .i64 n18)]), r15.2))
 else none
noncomputable def semi_Semi__Read {O : Type} : Sm O := semi_Semi__Read_c semi_side__within mem_Mem__Read
theorem semi_Semi__Read_ent : Entered Try.prog 52 := Try.call52
theorem semi_Semi__Read_run {O : Type} (k116 k47 : Sm O) : run (O := O) Try.prog [(116, k116), (47, k47)] Try.f52 (.n .z (.n (.n .z (.n .z .z)) (.n (.d [] [0, 1, 2, 3, 4, 5, 6, 7, 8, 9, 10, 11, 12, 13, 14] [0, 1, 3, 7, 0, 16, 48, 112, 240, 0, 1023, 2047, 2047, 8191, 16383]) .z))) = semi_Semi__Read_c k116 k47 := by kernel_rfl
theorem semi_Semi__Read_sound {O : Type} {RO : O → Loc → (Nat → Option Obj) → Prop} : FSound RO Try.prog 52 (semi_Semi__Read) :=
   have h : FSound RO Try.prog 52 (semi_Semi__Read_c semi_side__within mem_Mem__Read) := (semi_Semi__Read_run semi_side__within mem_Mem__Read) ▸ run_sound (gcons semi_side__within_ent (semi_side__within_sound) <| gcons mem_Mem__Read_ent (mem_Mem__Read_sound) <| gnil) mixed Try.func52 (by kernel_rfl) _
   h

/-- (*haymow/semi.Semi).Write -/
noncomputable def semi_Semi__Write_c {O : Type} (k116 k43 : Sm O) : Sm O := fun xs σ =>
 bif Nat.beq xs.length 3 then
 (AV.asP (xs.getD 0 .u)).bind fun p0 =>
 (AV.asI .i64 (xs.getD 1 .u)).bind fun n1 =>
 (AV.asI .u64 (xs.getD 2 .u)).bind fun n2 =>
 Option.bind p0 fun q3 =>
 (σ.ld q3.1 (q3.2 + 1)).bind fun w4 =>
 (AV.asI .i64 w4).bind fun n5 =>
 (σ.ld q3.1 ((q3.2 + 1) + 1)).bind fun w6 =>
 (AV.asI .i64 w6).bind fun n7 =>
 (k116 [(.agg [(.i .i64 n5), (.i .i64 n7)]), (.i .i64 n1), (.i .i64 1)] σ).bind fun r8 =>
 (AV.asB r8.1).bind fun b9 =>
 (bif (!b9) then
 some ((.i .i64 11), r8.2)
 else Option.bind p0 fun q10 =>
 (r8.2.ld q10.1 q10.2).bind fun w11 =>
 (AV.asP w11).bind fun p12 =>
 Option.bind p0 fun q13 =>
 (r8.2.ld q13.1 (q13.2 + 1)).bind fun w14 =>
 (AV.asI .i64 w14).bind fun n15 =>
 (k43 [(.p p12), (.i .i64 n15), (.i .i64 n1), (.i .u64 n2)] r8.2).bind fun r16 =>
 (AV.asI .i64 r16.1).bind fun n17 =>
 some ((.i .i64 n17), r16.2))
 else none
noncomputable def semi_Semi__Write {O : Type} : Sm O := semi_Semi__Write_c semi_side__within mem_Mem__Write
theorem semi_Semi__Write_ent : Entered Try.prog 53 := Try.call53
theorem semi_Semi__Write_run {O : Type} (k116 k43 : Sm O) : run (O := O) Try.prog [(116, k116), (43, k43)] Try.f53 (.n .z (.n (.n .z (.n .z .z)) (.n (.d [] [0, 1, 2, 3, 4, 5, 6, 7, 8, 9, 10, 11, 12] [0, 1, 3, 7, 0, 16, 48, 112, 240, 0, 0, 2047, 4095]) .z))) = semi_Semi__Write_c k116 k43 := by kernel_rfl
theorem semi_Semi__Write_sound {O : Type} {RO : O → Loc → (Nat → Option Obj) → Prop} : FSound RO Try.prog 53 (semi_Semi__Write) :=
   have h : FSound RO Try.prog 53 (semi_Semi__Write_c semi_side__within mem_Mem__Write) := (semi_Semi__Write_run semi_side__within mem_Mem__Write) ▸ run_sound (gcons semi_side__within_ent (semi_side__within_sound) <| gcons mem_Mem__Write_ent (mem_Mem__Write_sound) <| gnil) mixed Try.func53 (by kernel_rfl) _
   h

/-- haymow/haymowlaw14.SemiTakes -/
noncomputable def law14_SemiTakes_L2 {O : Type} (n23 : Int) (k52 : Sm O) (p8 : Option (Bid × Nat)) (n26 : Int) (k53 : Sm O) : List AV × AH O → Option ((List AV × AH O) ⊕ ((List AV × AH O) ⊕ ((List AV × AH O) ⊕ ((List AV × AH O) ⊕ ((List AV × AH O) ⊕ (AV × AH O)))))) := (fun r33 =>
 (AV.asI .i64 (r33.1.getD 0 .u)).bind fun n34 =>
 (bif (decide (n34 < (IntKind.i64.wrap n23))) then
 (k52 [(.p p8), (.i .i64 (IntKind.i64.wrap (n26 + n34)))] r33.2).bind fun r35 =>
 (AV.asTup 2 r35.1).bind fun c36 =>
 (AV.asI .u64 (c36.getD 0 .u)).bind fun n37 =>
 (AV.asI .i64 (c36.getD 1 .u)).bind fun n38 =>
 ((bif (((n37 : Int) != 0) == false) then
 some ([(.b ((n38 : Int) != 0))], r35.2)
 else some ([(.b true)], r35.2)) : Option (List AV × AH O)).bind fun r39 =>
 (AV.asB (r39.1.getD 0 .u)).bind fun b40 =>
 (bif b40 then
 ((((((some ((.b false), r39.2) : Option (AV × AH O)).map fun r => Sum.inr (Sum.inr r)) : Option ((List AV × AH O) ⊕ ((List AV × AH O) ⊕ (AV × AH O)))).map Sum.inr) : Option ((List AV × AH O) ⊕ ((List AV × AH O) ⊕ ((List AV × AH O) ⊕ (AV × AH O))))).map fun r => Sum.inr (Sum.inr r))
 else (k53 [(.p p8), (.i .i64 (IntKind.i64.wrap (n26 + n34))), (.i .u64 1)] r39.2).bind fun r41 =>
 (AV.asI .i64 r41.1).bind fun n42 =>
 some (Sum.inl ([(.i .i64 (IntKind.i64.wrap (n34 + 1)))], r41.2)))
 else some (Sum.inr (Sum.inl ([], r33.2)))))
noncomputable def law14_SemiTakes_L1 {O : Type} (l1 : SA × Nat) (k51 : Sm O) (p8 : Option (Bid × Nat)) (n0 : Int) (k52 : Sm O) (k53 : Sm O) : List AV × AH O → Option ((List AV × AH O) ⊕ ((List AV × AH O) ⊕ (AV × AH O))) := (fun r18 =>
 (AV.asI .i64 (r18.1.getD 0 .u)).bind fun n19 =>
 (AV.asI .i64 (r18.1.getD 1 .u)).bind fun n20 =>
 (bif (decide (n20 < (l1.2 : Int))) then
 bindS (S := List AV × AH O) (R := ((List AV × AH O) ⊕ ((List AV × AH O) ⊕ (AV × AH O)))) ((bif ((decide ((0 : Int) ≤ n20)) && (decide (n20 < (l1.2 : Int)))) then
 (SA.ref l1.1).bind fun q21 =>
 (r18.2.ld q21.1 (q21.2 + (n20.toNat * 1))).bind fun w22 =>
 (AV.asI .i8 w22).bind fun n23 =>
 (k51 [(.p p8), (.i .i64 (IntKind.i64.wrap n23))] r18.2).bind fun r24 =>
 (AV.asTup 2 r24.1).bind fun c25 =>
 (AV.asI .i64 (c25.getD 0 .u)).bind fun n26 =>
 (AV.asI .i64 (c25.getD 1 .u)).bind fun n27 =>
 (bif (decide ((IntKind.i64.wrap n23) < 1)) then
 ((bif (((n26 : Int) != 0) == false) then
 some ([(.b ((n27 : Int) != 1))], r24.2)
 else some ([(.b true)], r24.2)) : Option (List AV × AH O)).bind fun r28 =>
 (AV.asB (r28.1.getD 0 .u)).bind fun b29 =>
 (bif b29 then
 ((((some ((.b false), r28.2) : Option (AV × AH O)).map fun r => Sum.inr (Sum.inr r)) : Option ((List AV × AH O) ⊕ ((List AV × AH O) ⊕ (AV × AH O)))).map Sum.inr)
 else some (Sum.inl ([(.i .i64 n19)], r28.2)))
 else let c30 : Bool := (decide ((IntKind.i64.wrap n23) > (IntKind.i64.wrap ((IntKind.i64.wrap n0) - n19))))
 (bif c30 then
 ((bif (((n26 : Int) != 0) == false) then
 some ([(.b ((n27 : Int) != 3))], r24.2)
 else some ([(.b true)], r24.2)) : Option (List AV × AH O)).bind fun r31 =>
 (AV.asB (r31.1.getD 0 .u)).bind fun b32 =>
 (bif b32 then
 ((((some ((.b false), r31.2) : Option (AV × AH O)).map fun r => Sum.inr (Sum.inr r)) : Option ((List AV × AH O) ⊕ ((List AV × AH O) ⊕ (AV × AH O)))).map Sum.inr)
 else some (Sum.inl ([(.i .i64 n19)], r31.2)))
 else bindS (S := List AV × AH O) (R := ((List AV × AH O) ⊕ ((List AV × AH O) ⊕ ((List AV × AH O) ⊕ (AV × AH O))))) (loopF (S := List AV × AH O) (T := (List AV × AH O) ⊕ ((List AV × AH O) ⊕ ((List AV × AH O) ⊕ ((List AV × AH O) ⊕ (AV × AH O))))) (law14_SemiTakes_L2 n23 k52 p8 n26 k53) ([(.i .i64 0)], r24.2)) fun r43 =>
 ((bif (((n26 : Int) != n19) == false) then
 some ([(.b ((n27 : Int) != 0))], r43.2)
 else some ([(.b true)], r43.2)) : Option (List AV × AH O)).bind fun r44 =>
 (AV.asB (r44.1.getD 0 .u)).bind fun b45 =>
 (bif b45 then
 ((((some ((.b false), r44.2) : Option (AV × AH O)).map fun r => Sum.inr (Sum.inr r)) : Option ((List AV × AH O) ⊕ ((List AV × AH O) ⊕ (AV × AH O)))).map Sum.inr)
 else let v46 : Int := (IntKind.i64.wrap (n19 + (IntKind.i64.wrap n23)))
 some (Sum.inl ([(.i .i64 v46)], r44.2)))))
 else none)) fun r47 =>
 (AV.asI .i64 (r47.1.getD 0 .u)).bind fun n48 =>
 some (Sum.inl ([(.i .i64 n48), (.i .i64 (IntKind.i64.wrap (n20 + 1)))], r47.2))
 else some (Sum.inr (Sum.inl ([(.i .i64 n19)], r18.2)))))
noncomputable def law14_SemiTakes_c {O : Type} (k48 k49 k50 k51 k52 k53 k54 k35 : Sm O) : Sm O := fun xs σ =>
 bif Nat.beq xs.length 3 then
 (AV.asI .u8 (xs.getD 0 .u)).bind fun n0 =>
 (AV.asSl (xs.getD 1 .u)).bind fun l1 =>
 (AV.asI .i64 (xs.getD 2 .u)).bind fun n2 =>
 (k48 [] σ).bind fun r3 =>
 (AV.asB r3.1).bind fun b4 =>
 (bif (!b4) then
 some ((.b false), r3.2)
 else (bif (decide ((l1.2 : Int) > 60)) then
 some ((.b true), r3.2)
 else (k49 [(.i .i64 (IntKind.i64.wrap n0))] r3.2).bind fun r5 =>
 (AV.asTup 3 r5.1).bind fun c6 =>
 (AV.asP (c6.getD 0 .u)).bind fun p7 =>
 (AV.asP (c6.getD 1 .u)).bind fun p8 =>
 (AV.asB (c6.getD 2 .u)).bind fun b9 =>
 (k50 [(.p none), (.i .i64 1)] r5.2).bind fun r10 =>
 (AV.asTup 2 r10.1).bind fun c11 =>
 (AV.asP (c11.getD 0 .u)).bind fun p12 =>
 (AV.asI .i64 (c11.getD 1 .u)).bind fun n13 =>
 ((bif ((!b9) == false) then
 some ([(.b (!(Option.isNone p12)))], r10.2)
 else some ([(.b true)], r10.2)) : Option (List AV × AH O)).bind fun r14 =>
 (AV.asB (r14.1.getD 0 .u)).bind fun b15 =>
 ((bif (b15 == false) then
 some ([(.b ((n13 : Int) != 1))], r14.2)
 else some ([(.b true)], r14.2)) : Option (List AV × AH O)).bind fun r16 =>
 (AV.asB (r16.1.getD 0 .u)).bind fun b17 =>
 (bif b17 then
 some ((.b false), r16.2)
 else bindS (S := List AV × AH O) (R := (AV × AH O)) (loopF (S := List AV × AH O) (T := (List AV × AH O) ⊕ (AV × AH O)) (law14_SemiTakes_L1 l1 k51 p8 n0 k52 k53) ([(.i .i64 0), (.i .i64 0)], r16.2)) fun r49 =>
 (AV.asI .i64 (r49.1.getD 0 .u)).bind fun n50 =>
 ((bif ((decide (n2 ≥ 0)) == true) then
 some ([(.b (decide (n2 ≤ 4194304)))], r49.2)
 else some ([(.b false)], r49.2)) : Option (List AV × AH O)).bind fun r51 =>
 (AV.asB (r51.1.getD 0 .u)).bind fun b52 =>
 (bif b52 then
 (k54 [(.p p8)] r51.2).bind fun r53 =>
 (AV.asI .i64 r53.1).bind fun n54 =>
 some ((.b ((n54 : Int) == n50)), r53.2)
 else (k35 [] r51.2).bind fun r55 =>
 (AV.asP r55.1).bind fun p56 =>
 (k50 [(.p p56), (.i .i64 n2)] r55.2).bind fun r57 =>
 (AV.asTup 2 r57.1).bind fun c58 =>
 (AV.asP (c58.getD 0 .u)).bind fun p59 =>
 (AV.asI .i64 (c58.getD 1 .u)).bind fun n60 =>
 (k54 [(.p p8)] r57.2).bind fun r61 =>
 (AV.asI .i64 r61.1).bind fun n62 =>
 ((bif (((n62 : Int) == n50) == true) then
 some ([(.b (Option.isNone p59))], r61.2)
 else some ([(.b false)], r61.2)) : Option (List AV × AH O)).bind fun r63 =>
 (AV.asB (r63.1.getD 0 .u)).bind fun b64 =>
 ((bif (b64 == true) then
 some ([(.b ((n60 : Int) != 0))], r63.2)
 else some ([(.b false)], r63.2)) : Option (List AV × AH O)).bind fun r65 =>
 (AV.asB (r65.1.getD 0 .u)).bind fun b66 =>
 some ((.b b66), r65.2)))))
 else none
noncomputable def law14_SemiTakes {O : Type} : Sm O := law14_SemiTakes_c law14_awake law14_made semi_New semi_Semi__Take semi_Semi__Read semi_Semi__Write semi_Semi__Top mem_New
theorem law14_SemiTakes_ent : Entered Try.prog 8 := Try.call8
theorem law14_SemiTakes_run {O : Type} (k48 k49 k50 k51 k52 k53 k54 k35 : Sm O) : run (O := O) Try.prog [(48, k48), (49, k49), (50, k50), (51, k51), (52, k52), (53, k53), (54, k54), (35, k35)] Try.f8 (.n .z (.n (.n .z (.n .z .z)) (.n (.n .z (.n .z .z)) (.n .z (.n .z (.n (.n (.g [(2, 2, [(43, .one .b)]), (6, 2, [(47, .one .b)])]) (.n .z .z)) (.n .z (.n (.n .z (.n (.lp true 0 [(12, .one (.i .i64)), (13, .one (.i .i64))] [(12, .one (.i .i64))] (.n (.n .z .z) (.n (.j true [(12, .one (.i .i64))] (.n .z (.n .z (.n (.n .z (.n (.n (.n (.g [(2, 2, [(72, .one .b)])]) (.n .z .z)) .z) .z)) (.n (.n .z (.n (.n (.n (.g [(2, 2, [(84, .one .b)])]) (.n .z .z)) .z) .z)) (.n (.n .z (.n (.lp true 2 [(17, .one (.i .i64))] [] (.n (.n .z .z) (.n (.n (.n .z (.n (.n (.g [(2, 2, [(103, .one .b)])]) (.n .z .z)) .z)) .z) .z))) .z)) (.n (.n (.g [(3, 2, [(115, .one .b)])]) (.n .z .z)) .z)))))) .z) .z))) .z)) (.n (.n (.g [(2, 2, [(124, .one .b)])]) (.n .z .z)) (.n .z (.n (.g [(4, 2, [(142, .one .b)]), (8, 2, [(146, .one .b)])]) .z))))))))))) = law14_SemiTakes_c k48 k49 k50 k51 k52 k53 k54 k35 := by kernel_rfl
theorem law14_SemiTakes_sound {O : Type} {RO : O → Loc → (Nat → Option Obj) → Prop} : FSound RO Try.prog 8 (law14_SemiTakes) :=
   have h : FSound RO Try.prog 8 (law14_SemiTakes_c law14_awake law14_made semi_New semi_Semi__Take semi_Semi__Read semi_Semi__Write semi_Semi__Top mem_New) := (law14_SemiTakes_run law14_awake law14_made semi_New semi_Semi__Take semi_Semi__Read semi_Semi__Write semi_Semi__Top mem_New) ▸ run_sound (gcons law14_awake_ent (law14_awake_sound) <| gcons law14_made_ent (law14_made_sound) <| gcons semi_New_ent (semi_New_sound) <| gcons semi_Semi__Take_ent (semi_Semi__Take_sound) <| gcons semi_Semi__Read_ent (semi_Semi__Read_sound) <| gcons semi_Semi__Write_ent (semi_Semi__Write_sound) <| gcons semi_Semi__Top_ent (semi_Semi__Top_sound) <| gcons mem_New_ent (mem_New_sound) <| gnil) mixed Try.func8 (by kernel_rfl) _
   h

/-- (*haymow/semi.Semi).End -/
noncomputable def semi_Semi__End_c {O : Type} (k39 : Sm O) : Sm O := fun xs σ =>
 bif Nat.beq xs.length 1 then
 (AV.asP (xs.getD 0 .u)).bind fun p0 =>
 Option.bind p0 fun q1 =>
 (σ.ld q1.1 (q1.2 + 5)).bind fun w2 =>
 (AV.asB w2).bind fun b3 =>
 (bif (!b3) then
 some ((.i .i64 4), σ)
 else Option.bind p0 fun q4 =>
 (σ.ld q4.1 q4.2).bind fun w5 =>
 (AV.asP w5).bind fun p6 =>
 Option.bind p0 fun q7 =>
 (σ.ld q7.1 (q7.2 + 3)).bind fun w8 =>
 (AV.asI .i64 w8).bind fun n9 =>
 (k39 [(.p p6), (.i .i64 n9)] σ).bind fun r10 =>
 (AV.asI .i64 r10.1).bind fun n11 =>
 Option.bind p0 fun q12 =>
 (r10.2.st q12.1 (q12.2 + 3) [(.i .i64 0), (.i .i64 0)]).bind fun σ13 =>
 Option.bind p0 fun q14 =>
 (σ13.st q14.1 (q14.2 + 5) [(.b false)]).bind fun σ15 =>
 some ((.i .i64 0), σ15))
 else none
noncomputable def semi_Semi__End {O : Type} : Sm O := semi_Semi__End_c mem_Mem__Close
theorem semi_Semi__End_ent : Entered Try.prog 79 := Try.call79
theorem semi_Semi__End_run {O : Type} (k39 : Sm O) : run (O := O) Try.prog [(39, k39)] Try.f79 (.n .z (.n (.n .z (.n .z .z)) (.n (.d [] [0, 1, 2, 3, 4, 5, 6, 7, 8, 9] [0, 1, 3, 7, 0, 16, 48, 112, 240, 511]) (.n .z .z)))) = semi_Semi__End_c k39 := by kernel_rfl
theorem semi_Semi__End_sound {O : Type} {RO : O → Loc → (Nat → Option Obj) → Prop} : FSound RO Try.prog 79 (semi_Semi__End) :=
   have h : FSound RO Try.prog 79 (semi_Semi__End_c mem_Mem__Close) := (semi_Semi__End_run mem_Mem__Close) ▸ run_sound (gcons mem_Mem__Close_ent (mem_Mem__Close_sound) <| gnil) mixed Try.func79 (by kernel_rfl) _
   h

/-- haymow/haymowlaw14.SemiTurns -/
noncomputable def law14_SemiTurns_L3 {O : Type} (l57 : SA × Nat) (k52 : Sm O) (p10 : Option (Bid × Nat)) : List AV × AH O → Option ((List AV × AH O) ⊕ ((List AV × AH O) ⊕ (AV × AH O))) := (fun r75 =>
 (AV.asI .i64 (r75.1.getD 0 .u)).bind fun n76 =>
 (bif (decide (n76 < (l57.2 : Int))) then
 (k52 [(.p p10), (.i .i64 n76)] r75.2).bind fun r77 =>
 (AV.asTup 2 r77.1).bind fun c78 =>
 (AV.asI .u64 (c78.getD 0 .u)).bind fun n79 =>
 (AV.asI .i64 (c78.getD 1 .u)).bind fun n80 =>
 (bif ((decide ((0 : Int) ≤ n76)) && (decide (n76 < (l57.2 : Int)))) then
 (SA.ref l57.1).bind fun q81 =>
 (r77.2.ld q81.1 (q81.2 + (n76.toNat * 1))).bind fun w82 =>
 (AV.asI .u64 w82).bind fun n83 =>
 ((bif (((n79 : Int) != n83) == false) then
 some ([(.b ((n80 : Int) != 0))], r77.2)
 else some ([(.b true)], r77.2)) : Option (List AV × AH O)).bind fun r84 =>
 (AV.asB (r84.1.getD 0 .u)).bind fun b85 =>
 (bif b85 then
 ((some ((.b false), r84.2) : Option (AV × AH O)).map fun r => Sum.inr (Sum.inr r))
 else some (Sum.inl ([(.i .i64 (IntKind.i64.wrap (n76 + 1)))], r84.2)))
 else none)
 else some (Sum.inr (Sum.inl ([], r75.2)))))
noncomputable def law14_SemiTurns_L2 {O : Type} (l1 : SA × Nat) (l0 : SA × Nat) (k78 : Sm O) (p10 : Option (Bid × Nat)) (v25 : Int) : List AV × AH O → Option ((List AV × AH O) ⊕ ((List AV × AH O) ⊕ (AV × AH O))) := (fun r28 =>
 (AV.asSl (r28.1.getD 0 .u)).bind fun l29 =>
 (AV.asI .i64 (r28.1.getD 1 .u)).bind fun n30 =>
 ((bif ((decide (n30 < (l1.2 : Int))) == true) then
 some ([(.b (decide ((l0.2 : Int) > 0)))], r28.2)
 else some ([(.b false)], r28.2)) : Option (List AV × AH O)).bind fun r31 =>
 (AV.asB (r31.1.getD 0 .u)).bind fun b32 =>
 (bif b32 then
 bindS (S := List AV × AH O) (R := ((List AV × AH O) ⊕ ((List AV × AH O) ⊕ (AV × AH O)))) ((bif ((decide ((0 : Int) ≤ n30)) && (decide (n30 < (l1.2 : Int)))) then
 (SA.ref l1.1).bind fun q33 =>
 (r31.2.ld q33.1 (q33.2 + (n30.toNat * 2))).bind fun w34 =>
 (AV.asI .u8 w34).bind fun n35 =>
 (bif ((l0.2 : Int) == 0) then
 none
 else (bif ((decide ((0 : Int) ≤ n30)) && (decide (n30 < (l1.2 : Int)))) then
 (SA.ref l1.1).bind fun q36 =>
 (r31.2.ld q36.1 ((q36.2 + (n30.toNat * 2)) + 1)).bind fun w37 =>
 (AV.asI .u8 w37).bind fun n38 =>
 let v39 : Int := (IntKind.i64.wrap ((l0.2 : Int) - (Int.tmod (IntKind.i64.wrap n35) (l0.2 : Int))))
 (bif (v39 == 0) then
 none
 else let v40 : Int := (IntKind.i64.wrap (1 + (Int.tmod (IntKind.i64.wrap n38) v39)))
 (k78 [(.p p10), (.i .i64 (Int.tmod (IntKind.i64.wrap n35) (l0.2 : Int))), (.i .i64 v40)] r31.2).bind fun r41 =>
 (AV.asTup 2 r41.1).bind fun c42 =>
 (AV.asI .i64 (c42.getD 0 .u)).bind fun n43 =>
 (AV.asI .i64 (c42.getD 1 .u)).bind fun n44 =>
 let c45 : Bool := (decide ((IntKind.i64.wrap ((l29.2 : Int) + v40)) > v25))
 (bif c45 then
 (bif ((n44 : Int) != 3) then
 ((((some ((.b false), r41.2) : Option (AV × AH O)).map fun r => Sum.inr (Sum.inr r)) : Option ((List AV × AH O) ⊕ ((List AV × AH O) ⊕ (AV × AH O)))).map Sum.inr)
 else some (Sum.inl ([(.sl l29.1 l29.2)], r41.2)))
 else ((bif (((n43 : Int) != (l29.2 : Int)) == false) then
 some ([(.b ((n44 : Int) != 0))], r41.2)
 else some ([(.b true)], r41.2)) : Option (List AV × AH O)).bind fun r46 =>
 (AV.asB (r46.1.getD 0 .u)).bind fun b47 =>
 (bif b47 then
 ((((some ((.b false), r46.2) : Option (AV × AH O)).map fun r => Sum.inr (Sum.inr r)) : Option ((List AV × AH O) ⊕ ((List AV × AH O) ⊕ (AV × AH O)))).map Sum.inr)
 else let σ48 := r46.2.bump 1
 let v49 : Int := (IntKind.i64.wrap ((Int.tmod (IntKind.i64.wrap n35) (l0.2 : Int)) + v40))
 (bif (((decide ((0 : Int) ≤ (Int.tmod (IntKind.i64.wrap n35) (l0.2 : Int)))) && (decide ((Int.tmod (IntKind.i64.wrap n35) (l0.2 : Int)) ≤ v49))) && (decide (v49 ≤ (l0.2 : Int)))) then
 (SA.adv l0.1 (Int.tmod (IntKind.i64.wrap n35) (l0.2 : Int)).toNat 1).bind fun a50 =>
 (σ48.rdSl a50 (v49.toNat - (Int.tmod (IntKind.i64.wrap n35) (l0.2 : Int)).toNat) 1).bind fun new51 =>
 (bif (Nat.ble ((l29.2 + (v49.toNat - (Int.tmod (IntKind.i64.wrap n35) (l0.2 : Int)).toNat)) * 9) 35184372088832) then
 (σ48.appSl r46.2.next 22 1 l29.1 l29.2 (v49.toNat - (Int.tmod (IntKind.i64.wrap n35) (l0.2 : Int)).toNat) new51).bind fun r52 =>
 (AV.asSl r52.1).bind fun l53 =>
 some (Sum.inl ([(.sl l53.1 l53.2)], r52.2))
 else none)
 else none))))
 else none))
 else none)) fun r54 =>
 (AV.asSl (r54.1.getD 0 .u)).bind fun l55 =>
 some (Sum.inl ([(.sl l55.1 l55.2), (.i .i64 (IntKind.i64.wrap (n30 + 1)))], r54.2))
 else some (Sum.inr (Sum.inl ([(.sl l29.1 l29.2)], r31.2)))))
noncomputable def law14_SemiTurns_L1 {O : Type} (l0 : SA × Nat) (k53 : Sm O) (p10 : Option (Bid × Nat)) : List AV × AH O → Option ((List AV × AH O) ⊕ (List AV × AH O)) := (fun r17 =>
 (AV.asI .i64 (r17.1.getD 0 .u)).bind fun n18 =>
 (bif (decide (n18 < (l0.2 : Int))) then
 (bif ((decide ((0 : Int) ≤ n18)) && (decide (n18 < (l0.2 : Int)))) then
 (SA.ref l0.1).bind fun q19 =>
 (r17.2.ld q19.1 (q19.2 + (n18.toNat * 1))).bind fun w20 =>
 (AV.asI .u64 w20).bind fun n21 =>
 (k53 [(.p p10), (.i .i64 n18), (.i .u64 n21)] r17.2).bind fun r22 =>
 (AV.asI .i64 r22.1).bind fun n23 =>
 some (Sum.inl ([(.i .i64 (IntKind.i64.wrap (n18 + 1)))], r22.2))
 else none)
 else some (Sum.inr ([], r17.2))))
noncomputable def law14_SemiTurns_c {O : Type} (k48 k49 k51 k53 k77 k78 k79 k37 k54 k52 : Sm O) : Sm O := fun xs σ =>
 bif Nat.beq xs.length 3 then
 (AV.asSl (xs.getD 0 .u)).bind fun l0 =>
 (AV.asSl (xs.getD 1 .u)).bind fun l1 =>
 (AV.asI .u8 (xs.getD 2 .u)).bind fun n2 =>
 (k48 [] σ).bind fun r3 =>
 (AV.asB r3.1).bind fun b4 =>
 (bif (!b4) then
 some ((.b false), r3.2)
 else ((bif ((decide ((l0.2 : Int) > 60)) == false) then
 some ([(.b (decide ((l1.2 : Int) > 20)))], r3.2)
 else some ([(.b true)], r3.2)) : Option (List AV × AH O)).bind fun r5 =>
 (AV.asB (r5.1.getD 0 .u)).bind fun b6 =>
 (bif b6 then
 some ((.b true), r5.2)
 else (k49 [(.i .i64 (l0.2 : Int))] r5.2).bind fun r7 =>
 (AV.asTup 3 r7.1).bind fun c8 =>
 (AV.asP (c8.getD 0 .u)).bind fun p9 =>
 (AV.asP (c8.getD 1 .u)).bind fun p10 =>
 (AV.asB (c8.getD 2 .u)).bind fun b11 =>
 (bif (!b11) then
 some ((.b false), r7.2)
 else ((bif (decide ((l0.2 : Int) > 0)) then
 (k51 [(.p p10), (.i .i64 (l0.2 : Int))] r7.2).bind fun r12 =>
 (AV.asTup 2 r12.1).bind fun c13 =>
 (AV.asI .i64 (c13.getD 0 .u)).bind fun n14 =>
 (AV.asI .i64 (c13.getD 1 .u)).bind fun n15 =>
 some ([], r12.2)
 else some ([], r7.2)) : Option (List AV × AH O)).bind fun r16 =>
 (loopF (S := List AV × AH O) (T := List AV × AH O) (law14_SemiTurns_L1 l0 k53 p10) ([(.i .i64 0)], r16.2)).bind fun r24 =>
 let v25 : Int := (IntKind.i64.wrap ((l0.2 : Int) + (IntKind.i64.wrap n2)))
 (k77 [(.p p10), (.i .i64 v25)] r24.2).bind fun r26 =>
 (AV.asI .i64 r26.1).bind fun n27 =>
 (bif ((n27 : Int) != 0) then
 some ((.b false), r26.2)
 else bindS (S := List AV × AH O) (R := (AV × AH O)) (loopF (S := List AV × AH O) (T := (List AV × AH O) ⊕ (AV × AH O)) (law14_SemiTurns_L2 l1 l0 k78 p10 v25) ([(.sl .nil 0), (.i .i64 0)], r26.2)) fun r56 =>
 (AV.asSl (r56.1.getD 0 .u)).bind fun l57 =>
 (k79 [(.p p10)] r56.2).bind fun r58 =>
 (AV.asI .i64 r58.1).bind fun n59 =>
 ((bif (((n59 : Int) != 0) == false) then
 (k79 [(.p p10)] r58.2).bind fun r60 =>
 (AV.asI .i64 r60.1).bind fun n61 =>
 some ([(.b ((n61 : Int) != 4))], r60.2)
 else some ([(.b true)], r58.2)) : Option (List AV × AH O)).bind fun r62 =>
 (AV.asB (r62.1.getD 0 .u)).bind fun b63 =>
 ((bif (b63 == false) then
 Option.bind p9 fun q64 =>
 (r62.2.ld q64.1 q64.2).bind fun w65 =>
 (AV.asP w65).bind fun p66 =>
 (k37 [(.p p66)] r62.2).bind fun r67 =>
 (AV.asI .i64 r67.1).bind fun n68 =>
 some ([(.b ((n68 : Int) != v25))], r67.2)
 else some ([(.b true)], r62.2)) : Option (List AV × AH O)).bind fun r69 =>
 (AV.asB (r69.1.getD 0 .u)).bind fun b70 =>
 ((bif (b70 == false) then
 (k54 [(.p p10)] r69.2).bind fun r71 =>
 (AV.asI .i64 r71.1).bind fun n72 =>
 some ([(.b ((n72 : Int) != (l57.2 : Int)))], r71.2)
 else some ([(.b true)], r69.2)) : Option (List AV × AH O)).bind fun r73 =>
 (AV.asB (r73.1.getD 0 .u)).bind fun b74 =>
 (bif b74 then
 some ((.b false), r73.2)
 else bindS (S := List AV × AH O) (R := (AV × AH O)) (loopF (S := List AV × AH O) (T := (List AV × AH O) ⊕ (AV × AH O)) (law14_SemiTurns_L3 l57 k52 p10) ([(.i .i64 0)], r73.2)) fun r86 =>
 some ((.b true), r86.2))))))
 else none
noncomputable def law14_SemiTurns {O : Type} : Sm O := law14_SemiTurns_c law14_awake law14_made semi_Semi__Take semi_Semi__Write semi_Semi__Flip semi_Semi__Move semi_Semi__End meter_Meter__Held semi_Semi__Top semi_Semi__Read
theorem law14_SemiTurns_ent : Entered Try.prog 12 := Try.call12
theorem law14_SemiTurns_run {O : Type} (k48 k49 k51 k53 k77 k78 k79 k37 k54 k52 : Sm O) : run (O := O) Try.prog [(48, k48), (49, k49), (51, k51), (53, k53), (77, k77), (78, k78), (79, k79), (37, k37), (54, k54), (52, k52)] Try.f12 (.n .z (.n (.n .z (.n .z .z)) (.n (.n (.g [(3, 3, [(30, .one .b)])]) (.n .z .z)) (.n .z (.n (.n .z (.n .z .z)) (.n (.n .z (.j false [] .z .z)) (.n (.n .z (.n (.lp false 0 [(10, .one (.i .i64))] [] (.n (.n .z .z) (.n .z .z))) .z)) (.n .z (.n (.n .z (.n .z .z)) (.n .z (.n (.n .z (.n (.lp true 2 [(12, .one .sl), (13, .one (.i .i64))] [(12, .one .sl)] (.n (.n (.g [(4, 3, [(77, .one .b)])]) .z) (.n (.j true [(12, .one .sl)] (.n .z (.n .z (.n .z (.n (.n .z (.n (.n (.n .z (.n .z .z)) .z) .z)) (.n (.n (.g [(4, 2, [(123, .one .b)])]) (.n .z .z)) .z))))) .z) .z))) .z)) (.n (.n (.g [(3, 3, [(139, .one .b)]), (8, 7, [(148, .one .b)]), (17, 5, [(155, .one .b)])]) (.n .z .z)) (.n (.n .z (.n (.lp true 4 [(18, .one (.i .i64))] [] (.n (.n .z .z) (.n (.n (.n .z (.n (.g [(6, 2, [(177, .one .b)])]) (.n .z .z))) .z) .z))) .z)) .z))))))))))))) = law14_SemiTurns_c k48 k49 k51 k53 k77 k78 k79 k37 k54 k52 := by kernel_rfl
theorem law14_SemiTurns_sound {O : Type} {RO : O → Loc → (Nat → Option Obj) → Prop} : FSound RO Try.prog 12 (law14_SemiTurns) :=
   have h : FSound RO Try.prog 12 (law14_SemiTurns_c law14_awake law14_made semi_Semi__Take semi_Semi__Write semi_Semi__Flip semi_Semi__Move semi_Semi__End meter_Meter__Held semi_Semi__Top semi_Semi__Read) := (law14_SemiTurns_run law14_awake law14_made semi_Semi__Take semi_Semi__Write semi_Semi__Flip semi_Semi__Move semi_Semi__End meter_Meter__Held semi_Semi__Top semi_Semi__Read) ▸ run_sound (gcons law14_awake_ent (law14_awake_sound) <| gcons law14_made_ent (law14_made_sound) <| gcons semi_Semi__Take_ent (semi_Semi__Take_sound) <| gcons semi_Semi__Write_ent (semi_Semi__Write_sound) <| gcons semi_Semi__Flip_ent (semi_Semi__Flip_sound) <| gcons semi_Semi__Move_ent (semi_Semi__Move_sound) <| gcons semi_Semi__End_ent (semi_Semi__End_sound) <| gcons meter_Meter__Held_ent (meter_Meter__Held_sound) <| gcons semi_Semi__Top_ent (semi_Semi__Top_sound) <| gcons semi_Semi__Read_ent (semi_Semi__Read_sound) <| gnil) mixed Try.func12 (by kernel_rfl) _
   h

/-- haymow/frames.New -/
noncomputable def frames_New_c {O : Type} (k36 : Sm O) : Sm O := fun xs σ =>
 bif Nat.beq xs.length 1 then
 (AV.asP (xs.getD 0 .u)).bind fun p0 =>
 (bif (Option.isNone p0) then
 some ((.tup [(.p none), (.i .i64 1)]), σ)
 else (k36 [(.p p0), (.i .i64 0)] σ).bind fun r1 =>
 (AV.asTup 2 r1.1).bind fun c2 =>
 (AV.asI .i64 (c2.getD 0 .u)).bind fun n3 =>
 (AV.asI .i64 (c2.getD 1 .u)).bind fun n4 =>
 (bif ((n4 : Int) != 0) then
 some ((.tup [(.p none), (.i .i64 n4)]), r1.2)
 else let σ5 := r1.2.bump 1
 let σ6 := σ5.put r1.2.next (.cells true 215 [(.p p0), (.i .i64 n3), (.i .i64 0), (.i .i64 0), (.i .i64 0), (.i .i64 0), (.i .i64 0)])
 some ((.tup [(.p (some ((.n r1.2.next), 0))), (.i .i64 0)]), σ6)))
 else none
noncomputable def frames_New {O : Type} : Sm O := frames_New_c mem_Mem__Open
theorem frames_New_ent : Entered Try.prog 59 := Try.call59
theorem frames_New_run {O : Type} (k36 : Sm O) : run (O := O) Try.prog [(36, k36)] Try.f59 (.n .z (.n (.n .z (.n .z .z)) (.n .z (.n (.n .z (.n .z .z)) .z)))) = frames_New_c k36 := by kernel_rfl
theorem frames_New_sound {O : Type} {RO : O → Loc → (Nat → Option Obj) → Prop} : FSound RO Try.prog 59 (frames_New) :=
   have h : FSound RO Try.prog 59 (frames_New_c mem_Mem__Open) := (frames_New_run mem_Mem__Open) ▸ run_sound (gcons mem_Mem__Open_ent (mem_Mem__Open_sound) <| gnil) mixed Try.func59 (by kernel_rfl) _
   h

/-- haymow/haymowlaw17.made -/
noncomputable def law17_made_c {O : Type} (k35 k59 : Sm O) : Sm O := fun xs σ =>
 bif Nat.beq xs.length 0 then
 (k35 [] σ).bind fun r0 =>
 (AV.asP r0.1).bind fun p1 =>
 (bif (Option.isNone p1) then
 some ((.tup [(.p none), (.p none), (.b false)]), r0.2)
 else (k59 [(.p p1)] r0.2).bind fun r2 =>
 (AV.asTup 2 r2.1).bind fun c3 =>
 (AV.asP (c3.getD 0 .u)).bind fun p4 =>
 (AV.asI .i64 (c3.getD 1 .u)).bind fun n5 =>
 ((bif ((!(Option.isNone p4)) == true) then
 some ([(.b ((n5 : Int) == 0))], r2.2)
 else some ([(.b false)], r2.2)) : Option (List AV × AH O)).bind fun r6 =>
 (AV.asB (r6.1.getD 0 .u)).bind fun b7 =>
 some ((.tup [(.p p1), (.p p4), (.b b7)]), r6.2))
 else none
noncomputable def law17_made {O : Type} : Sm O := law17_made_c mem_New frames_New
theorem law17_made_ent : Entered Try.prog 60 := Try.call60
theorem law17_made_run {O : Type} (k35 k59 : Sm O) : run (O := O) Try.prog [(35, k35), (59, k59)] Try.f60 (.n .z (.n .z (.n (.n .z (.n .z .z)) (.n .z (.n (.g [(4, 2, [(21, .one .b)])]) .z))))) = law17_made_c k35 k59 := by kernel_rfl
theorem law17_made_sound {O : Type} {RO : O → Loc → (Nat → Option Obj) → Prop} : FSound RO Try.prog 60 (law17_made) :=
   have h : FSound RO Try.prog 60 (law17_made_c mem_New frames_New) := (law17_made_run mem_New frames_New) ▸ run_sound (gcons mem_New_ent (mem_New_sound) <| gcons frames_New_ent (frames_New_sound) <| gnil) mixed Try.func60 (by kernel_rfl) _
   h

/-- haymow/shape.Frame -/
noncomputable def shape_Frame_c {O : Type} : Sm O := fun xs σ =>
 bif Nat.beq xs.length 1 then
 (AV.asI .i64 (xs.getD 0 .u)).bind fun n0 =>
 ((bif ((decide (n0 < 0)) == false) then
 some ([(.b (decide (n0 > 256)))], σ)
 else some ([(.b true)], σ)) : Option (List AV × AH O)).bind fun r1 =>
 (AV.asB (r1.1.getD 0 .u)).bind fun b2 =>
 (bif b2 then
 some ((.i .i64 0), r1.2)
 else some ((.i .i64 (IntKind.i64.wrap (2 + n0))), r1.2))
 else none
noncomputable def shape_Frame {O : Type} : Sm O := shape_Frame_c
theorem shape_Frame_ent : Entered Try.prog 128 := Try.call128
theorem shape_Frame_run {O : Type} : run (O := O) Try.prog [] Try.f128 (.n .z (.n (.n (.g [(2, 2, [(8, .one .b)])]) (.n .z .z)) .z)) = shape_Frame_c  := by kernel_rfl
theorem shape_Frame_sound {O : Type} {RO : O → Loc → (Nat → Option Obj) → Prop} : FSound RO Try.prog 128 (shape_Frame) :=
   have h : FSound RO Try.prog 128 (shape_Frame_c) := (shape_Frame_run) ▸ run_sound (gnil) mixed Try.func128 (by kernel_rfl) _
   h

/-- (*haymow/frames.Frames).grow -/
noncomputable def frames_Frames__grow_L1 {O : Type} (n1 : Int) : List AV × AH O → Option ((List AV × AH O) ⊕ (List AV × AH O)) := (fun r5 =>
 (AV.asI .i64 (r5.1.getD 0 .u)).bind fun n6 =>
 (bif (decide (n6 < n1)) then
 some (Sum.inl ([(.i .i64 (IntKind.i64.wrap (n6 * 2)))], r5.2))
 else some (Sum.inr ([(.i .i64 n6)], r5.2))))
noncomputable def frames_Frames__grow_c {O : Type} (k44 : Sm O) : Sm O := fun xs σ =>
 bif Nat.beq xs.length 2 then
 (AV.asP (xs.getD 0 .u)).bind fun p0 =>
 (AV.asI .i64 (xs.getD 1 .u)).bind fun n1 =>
 Option.bind p0 fun q2 =>
 (σ.ld q2.1 (q2.2 + 2)).bind fun w3 =>
 (AV.asI .i64 w3).bind fun n4 =>
 (loopF (S := List AV × AH O) (T := List AV × AH O) (frames_Frames__grow_L1 n1) ([(.i .i64 (if 32 > n4 then 32 else n4))], σ)).bind fun r7 =>
 (AV.asI .i64 (r7.1.getD 0 .u)).bind fun n8 =>
 Option.bind p0 fun q9 =>
 (r7.2.ld q9.1 (q9.2 + 2)).bind fun w10 =>
 (AV.asI .i64 w10).bind fun n11 =>
 (bif ((n8 : Int) == n11) then
 some ((.i .i64 0), r7.2)
 else Option.bind p0 fun q12 =>
 (r7.2.ld q12.1 q12.2).bind fun w13 =>
 (AV.asP w13).bind fun p14 =>
 Option.bind p0 fun q15 =>
 (r7.2.ld q15.1 (q15.2 + 1)).bind fun w16 =>
 (AV.asI .i64 w16).bind fun n17 =>
 (k44 [(.p p14), (.i .i64 n17), (.i .i64 n8)] r7.2).bind fun r18 =>
 (AV.asI .i64 r18.1).bind fun n19 =>
 (bif ((n19 : Int) != 0) then
 some ((.i .i64 3), r18.2)
 else Option.bind p0 fun q20 =>
 (r18.2.st q20.1 (q20.2 + 2) [(.i .i64 n8)]).bind fun σ21 =>
 some ((.i .i64 0), σ21)))
 else none
noncomputable def frames_Frames__grow {O : Type} : Sm O := frames_Frames__grow_c mem_Mem__Grow
theorem frames_Frames__grow_ent : Entered Try.prog 129 := Try.call129
theorem frames_Frames__grow_run {O : Type} (k44 : Sm O) : run (O := O) Try.prog [(44, k44)] Try.f129 (.n .z (.n .z (.n (.n (.lp false 0 [(5, .one (.i .i64))] [(5, .one (.i .i64))] (.n (.n .z .z) .z)) .z) (.n (.n .z (.n .z .z)) (.n (.n (.d [] [0, 1, 2, 3, 4, 5, 6, 7, 8, 9, 10] [0, 1, 3, 7, 0, 16, 48, 112, 0, 511, 1023]) (.n .z .z)) (.n .z .z)))))) = frames_Frames__grow_c k44 := by kernel_rfl
theorem frames_Frames__grow_sound {O : Type} {RO : O → Loc → (Nat → Option Obj) → Prop} : FSound RO Try.prog 129 (frames_Frames__grow) :=
   have h : FSound RO Try.prog 129 (frames_Frames__grow_c mem_Mem__Grow) := (frames_Frames__grow_run mem_Mem__Grow) ▸ run_sound (gcons mem_Mem__Grow_ent (mem_Mem__Grow_sound) <| gnil) mixed Try.func129 (by kernel_rfl) _
   h

/-- (*haymow/frames.Frames).Push -/
noncomputable def frames_Frames__Push_c {O : Type} (k128 k129 k43 k45 : Sm O) : Sm O := fun xs σ =>
 bif Nat.beq xs.length 2 then
 (AV.asP (xs.getD 0 .u)).bind fun p0 =>
 (AV.asI .i64 (xs.getD 1 .u)).bind fun n1 =>
 (k128 [(.i .i64 n1)] σ).bind fun r2 =>
 (AV.asI .i64 r2.1).bind fun n3 =>
 (bif ((n3 : Int) == 0) then
 some ((.i .i64 1), r2.2)
 else Option.bind p0 fun q4 =>
 (r2.2.ld q4.1 (q4.2 + 3)).bind fun w5 =>
 (AV.asI .i64 w5).bind fun n6 =>
 (k129 [(.p p0), (.i .i64 (IntKind.i64.wrap (n6 + n3)))] r2.2).bind fun r7 =>
 (AV.asI .i64 r7.1).bind fun n8 =>
 (bif ((n8 : Int) != 0) then
 some ((.i .i64 n8), r7.2)
 else Option.bind p0 fun q9 =>
 (r7.2.ld q9.1 (q9.2 + 4)).bind fun w10 =>
 (AV.asI .i64 w10).bind fun n11 =>
 ((bif (decide (n11 > 0)) then
 Option.bind p0 fun q12 =>
 (r7.2.ld q12.1 (q12.2 + 5)).bind fun w13 =>
 (AV.asI .i64 w13).bind fun n14 =>
 some ([(.i .i64 (IntKind.i64.wrap (n14 + 1)))], r7.2)
 else some ([(.i .i64 0)], r7.2)) : Option (List AV × AH O)).bind fun r15 =>
 (AV.asI .i64 (r15.1.getD 0 .u)).bind fun n16 =>
 Option.bind p0 fun q17 =>
 (r15.2.ld q17.1 q17.2).bind fun w18 =>
 (AV.asP w18).bind fun p19 =>
 Option.bind p0 fun q20 =>
 (r15.2.ld q20.1 (q20.2 + 1)).bind fun w21 =>
 (AV.asI .i64 w21).bind fun n22 =>
 Option.bind p0 fun q23 =>
 (r15.2.ld q23.1 (q23.2 + 3)).bind fun w24 =>
 (AV.asI .i64 w24).bind fun n25 =>
 (k43 [(.p p19), (.i .i64 n22), (.i .i64 (IntKind.i64.wrap (n25 + 0))), (.i .u64 (IntKind.u64.wrap n16))] r15.2).bind fun r26 =>
 (AV.asI .i64 r26.1).bind fun n27 =>
 Option.bind p0 fun q28 =>
 (r26.2.ld q28.1 q28.2).bind fun w29 =>
 (AV.asP w29).bind fun p30 =>
 Option.bind p0 fun q31 =>
 (r26.2.ld q31.1 (q31.2 + 1)).bind fun w32 =>
 (AV.asI .i64 w32).bind fun n33 =>
 Option.bind p0 fun q34 =>
 (r26.2.ld q34.1 (q34.2 + 3)).bind fun w35 =>
 (AV.asI .i64 w35).bind fun n36 =>
 (k43 [(.p p30), (.i .i64 n33), (.i .i64 (IntKind.i64.wrap (n36 + 1))), (.i .u64 (IntKind.u64.wrap n1))] r26.2).bind fun r37 =>
 (AV.asI .i64 r37.1).bind fun n38 =>
 Option.bind p0 fun q39 =>
 (r37.2.ld q39.1 q39.2).bind fun w40 =>
 (AV.asP w40).bind fun p41 =>
 Option.bind p0 fun q42 =>
 (r37.2.ld q42.1 (q42.2 + 1)).bind fun w43 =>
 (AV.asI .i64 w43).bind fun n44 =>
 Option.bind p0 fun q45 =>
 (r37.2.ld q45.1 (q45.2 + 3)).bind fun w46 =>
 (AV.asI .i64 w46).bind fun n47 =>
 (k45 [(.p p41), (.i .i64 n44), (.i .i64 (IntKind.i64.wrap (n47 + 2))), (.i .i64 n1)] r37.2).bind fun r48 =>
 (AV.asI .i64 r48.1).bind fun n49 =>
 Option.bind p0 fun q50 =>
 (r48.2.ld q50.1 (q50.2 + 3)).bind fun w51 =>
 (AV.asI .i64 w51).bind fun n52 =>
 Option.bind p0 fun q53 =>
 (r48.2.st q53.1 (q53.2 + 5) [(.i .i64 n52), (.i .i64 n1)]).bind fun σ54 =>
 Option.bind p0 fun q55 =>
 (σ54.ld q55.1 (q55.2 + 3)).bind fun w56 =>
 (AV.asI .i64 w56).bind fun n57 =>
 Option.bind p0 fun q58 =>
 (σ54.st q58.1 (q58.2 + 3) [(.i .i64 (IntKind.i64.wrap (n57 + n3)))]).bind fun σ59 =>
 Option.bind p0 fun q60 =>
 (σ59.ld q60.1 (q60.2 + 4)).bind fun w61 =>
 (AV.asI .i64 w61).bind fun n62 =>
 Option.bind p0 fun q63 =>
 (σ59.st q63.1 (q63.2 + 4) [(.i .i64 (IntKind.i64.wrap (n62 + 1)))]).bind fun σ64 =>
 some ((.i .i64 0), σ64)))
 else none
noncomputable def frames_Frames__Push {O : Type} : Sm O := frames_Frames__Push_c shape_Frame frames_Frames__grow mem_Mem__Write mem_Mem__Zero
theorem frames_Frames__Push_ent : Entered Try.prog 61 := Try.call61
theorem frames_Frames__Push_run {O : Type} (k128 k129 k43 k45 : Sm O) : run (O := O) Try.prog [(128, k128), (129, k129), (43, k43), (45, k45)] Try.f61 (.n .z (.n .z (.n (.n .z (.n .z .z)) (.n (.n .z (.n .z (.n .z .z))) (.n .z (.n (.n .z (.j false [(7, .one (.i .i64))] .z .z)) (.n (.d [] [0, 1, 2, 3, 4, 5, 6, 7, 8, 9, 10, 11, 12, 13, 14, 15] [0, 1, 3, 7, 0, 16, 48, 112, 0, 256, 768, 1792, 3840, 0, 8192, 32767]) (.n (.d [] [0, 1, 2, 3, 4, 5, 6, 7, 8, 9, 10, 11, 12, 13, 14, 15] [0, 1, 3, 7, 0, 16, 48, 112, 0, 256, 768, 1792, 3840, 0, 8192, 32767]) (.n (.d [] [0, 1, 2, 3, 4, 5, 6, 7, 8, 9, 10, 11, 12, 13, 14] [0, 1, 3, 7, 0, 16, 48, 112, 0, 256, 768, 1792, 3840, 0, 16383]) (.n .z (.n .z (.n .z .z)))))))))))) = frames_Frames__Push_c k128 k129 k43 k45 := by kernel_rfl
theorem frames_Frames__Push_sound {O : Type} {RO : O → Loc → (Nat → Option Obj) → Prop} : FSound RO Try.prog 61 (frames_Frames__Push) :=
   have h : FSound RO Try.prog 61 (frames_Frames__Push_c shape_Frame frames_Frames__grow mem_Mem__Write mem_Mem__Zero) := (frames_Frames__Push_run shape_Frame frames_Frames__grow mem_Mem__Write mem_Mem__Zero) ▸ run_sound (gcons shape_Frame_ent (shape_Frame_sound) <| gcons frames_Frames__grow_ent (frames_Frames__grow_sound) <| gcons mem_Mem__Write_ent (mem_Mem__Write_sound) <| gcons mem_Mem__Zero_ent (mem_Mem__Zero_sound) <| gnil) mixed Try.func61 (by kernel_rfl) _
   h

/-- (*haymow/frames.Frames).check -/
noncomputable def frames_Frames__check_c {O : Type} : Sm O := fun xs σ =>
 bif Nat.beq xs.length 2 then
 (AV.asP (xs.getD 0 .u)).bind fun p0 =>
 (AV.asI .i64 (xs.getD 1 .u)).bind fun n1 =>
 Option.bind p0 fun q2 =>
 (σ.ld q2.1 (q2.2 + 4)).bind fun w3 =>
 (AV.asI .i64 w3).bind fun n4 =>
 (bif ((n4 : Int) == 0) then
 some ((.i .i64 33), σ)
 else ((bif ((decide (n1 < 0)) == false) then
 Option.bind p0 fun q5 =>
 (σ.ld q5.1 ((q5.2 + 5) + 1)).bind fun w6 =>
 (AV.asI .i64 w6).bind fun n7 =>
 some ([(.b (decide (n1 ≥ n7)))], σ)
 else some ([(.b true)], σ)) : Option (List AV × AH O)).bind fun r8 =>
 (AV.asB (r8.1.getD 0 .u)).bind fun b9 =>
 (bif b9 then
 some ((.i .i64 32), r8.2)
 else some ((.i .i64 0), r8.2)))
 else none
noncomputable def frames_Frames__check {O : Type} : Sm O := frames_Frames__check_c
theorem frames_Frames__check_ent : Entered Try.prog 130 := Try.call130
theorem frames_Frames__check_run {O : Type} : run (O := O) Try.prog [] Try.f130 (.n .z (.n (.n (.n .z (.n .z (.n (.g [(2, 7, [(22, .one .b)])]) (.n .z .z)))) .z) .z)) = frames_Frames__check_c  := by kernel_rfl
theorem frames_Frames__check_sound {O : Type} {RO : O → Loc → (Nat → Option Obj) → Prop} : FSound RO Try.prog 130 (frames_Frames__check) :=
   have h : FSound RO Try.prog 130 (frames_Frames__check_c) := (frames_Frames__check_run) ▸ run_sound (gnil) mixed Try.func130 (by kernel_rfl) _
   h

/-- (*haymow/frames.Frames).Set -/
noncomputable def frames_Frames__Set_c {O : Type} (k130 k43 : Sm O) : Sm O := fun xs σ =>
 bif Nat.beq xs.length 3 then
 (AV.asP (xs.getD 0 .u)).bind fun p0 =>
 (AV.asI .i64 (xs.getD 1 .u)).bind fun n1 =>
 (AV.asI .u64 (xs.getD 2 .u)).bind fun n2 =>
 (k130 [(.p p0), (.i .i64 n1)] σ).bind fun r3 =>
 (AV.asI .i64 r3.1).bind fun n4 =>
 (bif ((n4 : Int) != 0) then
 some ((.i .i64 n4), r3.2)
 else Option.bind p0 fun q5 =>
 (r3.2.ld q5.1 q5.2).bind fun w6 =>
 (AV.asP w6).bind fun p7 =>
 Option.bind p0 fun q8 =>
 (r3.2.ld q8.1 (q8.2 + 1)).bind fun w9 =>
 (AV.asI .i64 w9).bind fun n10 =>
 Option.bind p0 fun q11 =>
 (r3.2.ld q11.1 (q11.2 + 5)).bind fun w12 =>
 (AV.asI .i64 w12).bind fun n13 =>
 let v14 : Int := (IntKind.i64.wrap ((IntKind.i64.wrap (n13 + 2)) + n1))
 (k43 [(.p p7), (.i .i64 n10), (.i .i64 v14), (.i .u64 n2)] r3.2).bind fun r15 =>
 (AV.asI .i64 r15.1).bind fun n16 =>
 some ((.i .i64 n16), r15.2))
 else none
noncomputable def frames_Frames__Set {O : Type} : Sm O := frames_Frames__Set_c frames_Frames__check mem_Mem__Write
theorem frames_Frames__Set_ent : Entered Try.prog 62 := Try.call62
theorem frames_Frames__Set_run {O : Type} (k130 k43 : Sm O) : run (O := O) Try.prog [(130, k130), (43, k43)] Try.f62 (.n .z (.n (.n .z (.n .z (.n .z .z))) (.n (.d [] [0, 1, 2, 3, 4, 5, 6, 7, 8, 9, 10, 11, 12, 13, 14, 15, 16, 17, 18] [0, 1, 3, 7, 0, 16, 48, 112, 0, 256, 768, 1792, 3840, 7936, 0, 32512, 0, 131071, 262143]) .z))) = frames_Frames__Set_c k130 k43 := by kernel_rfl
theorem frames_Frames__Set_sound {O : Type} {RO : O → Loc → (Nat → Option Obj) → Prop} : FSound RO Try.prog 62 (frames_Frames__Set) :=
   have h : FSound RO Try.prog 62 (frames_Frames__Set_c frames_Frames__check mem_Mem__Write) := (frames_Frames__Set_run frames_Frames__check mem_Mem__Write) ▸ run_sound (gcons frames_Frames__check_ent (frames_Frames__check_sound) <| gcons mem_Mem__Write_ent (mem_Mem__Write_sound) <| gnil) mixed Try.func62 (by kernel_rfl) _
   h

/-- (*haymow/frames.Frames).under -/
noncomputable def frames_Frames__under_c {O : Type} (k47 : Sm O) : Sm O := fun xs σ =>
 bif Nat.beq xs.length 2 then
 (AV.asP (xs.getD 0 .u)).bind fun p0 =>
 (AV.asI .i64 (xs.getD 1 .u)).bind fun n1 =>
 let σ2 := σ.bump 1
 let σ3 := σ2.put σ.next (.cells true 213 [(.i .i64 0), (.i .i64 0)])
 Option.bind p0 fun q4 =>
 (σ3.ld q4.1 q4.2).bind fun w5 =>
 (AV.asP w5).bind fun p6 =>
 Option.bind p0 fun q7 =>
 (σ3.ld q7.1 (q7.2 + 1)).bind fun w8 =>
 (AV.asI .i64 w8).bind fun n9 =>
 (k47 [(.p p6), (.i .i64 n9), (.i .i64 (IntKind.i64.wrap (n1 + 0)))] σ3).bind fun r10 =>
 (AV.asTup 2 r10.1).bind fun c11 =>
 (AV.asI .u64 (c11.getD 0 .u)).bind fun n12 =>
 (AV.asI .i64 (c11.getD 1 .u)).bind fun n13 =>
 (bif ((n12 : Int) == 0) then
 (r10.2.st (.n σ.next) 0 [(.i .i64 0), (.i .i64 0)]).bind fun σ14 =>
 (σ14.ld (.n σ.next) 0).bind fun w15 =>
 (AV.asI .i64 w15).bind fun n16 =>
 (σ14.ld (.n σ.next) 1).bind fun w17 =>
 (AV.asI .i64 w17).bind fun n18 =>
 some ((.tup [(.agg [(.i .i64 n16), (.i .i64 n18)]), (.b false)]), σ14)
 else Option.bind p0 fun q19 =>
 (r10.2.ld q19.1 q19.2).bind fun w20 =>
 (AV.asP w20).bind fun p21 =>
 Option.bind p0 fun q22 =>
 (r10.2.ld q22.1 (q22.2 + 1)).bind fun w23 =>
 (AV.asI .i64 w23).bind fun n24 =>
 let v25 : Int := (IntKind.i64.wrap ((IntKind.i64.wrap ((IntKind.i64.wrap n12) - 1)) + 1))
 (k47 [(.p p21), (.i .i64 n24), (.i .i64 v25)] r10.2).bind fun r26 =>
 (AV.asTup 2 r26.1).bind fun c27 =>
 (AV.asI .u64 (c27.getD 0 .u)).bind fun n28 =>
 (AV.asI .i64 (c27.getD 1 .u)).bind fun n29 =>
 (r26.2.st (.n σ.next) 0 [(.i .i64 (IntKind.i64.wrap ((IntKind.i64.wrap n12) - 1))), (.i .i64 (IntKind.i64.wrap n28))]).bind fun σ30 =>
 (σ30.ld (.n σ.next) 0).bind fun w31 =>
 (AV.asI .i64 w31).bind fun n32 =>
 (σ30.ld (.n σ.next) 1).bind fun w33 =>
 (AV.asI .i64 w33).bind fun n34 =>
 some ((.tup [(.agg [(.i .i64 n32), (.i .i64 n34)]), (.b true)]), σ30))
 else none
noncomputable def frames_Frames__under {O : Type} : Sm O := frames_Frames__under_c mem_Mem__Read
theorem frames_Frames__under_ent : Entered Try.prog 131 := Try.call131
theorem frames_Frames__under_run {O : Type} (k47 : Sm O) : run (O := O) Try.prog [(47, k47)] Try.f131 (.n .z (.n (.d [] [0, 1, 2, 3, 4, 5, 6, 7, 8, 9, 10, 11, 12, 13, 14, 15] [0, 1, 3, 7, 0, 16, 48, 112, 0, 256, 1023, 2047, 4095, 4095, 8191, 32767]) (.n (.n .z (.n .z .z)) (.n (.d [] [0, 1, 2, 3, 4, 5, 6, 7, 8, 9, 10, 11, 12, 13, 14, 15, 16, 17] [0, 1, 3, 7, 0, 16, 48, 112, 0, 256, 768, 1792, 4095, 8191, 16383, 16383, 32767, 131071]) .z)))) = frames_Frames__under_c k47 := by kernel_rfl
theorem frames_Frames__under_sound {O : Type} {RO : O → Loc → (Nat → Option Obj) → Prop} : FSound RO Try.prog 131 (frames_Frames__under) :=
   have h : FSound RO Try.prog 131 (frames_Frames__under_c mem_Mem__Read) := (frames_Frames__under_run mem_Mem__Read) ▸ run_sound (gcons mem_Mem__Read_ent (mem_Mem__Read_sound) <| gnil) mixed Try.func131 (by kernel_rfl) _
   h

/-- (*haymow/frames.Frames).Pop -/
noncomputable def frames_Frames__Pop_c {O : Type} (k131 : Sm O) : Sm O := fun xs σ =>
 bif Nat.beq xs.length 1 then
 (AV.asP (xs.getD 0 .u)).bind fun p0 =>
 Option.bind p0 fun q1 =>
 (σ.ld q1.1 (q1.2 + 4)).bind fun w2 =>
 (AV.asI .i64 w2).bind fun n3 =>
 (bif ((n3 : Int) == 0) then
 some ((.i .i64 33), σ)
 else let σ4 := σ.bump 1
 Option.bind p0 fun q5 =>
 (σ4.ld q5.1 (q5.2 + 5)).bind fun w6 =>
 (AV.asI .i64 w6).bind fun n7 =>
 (k131 [(.p p0), (.i .i64 n7)] σ4).bind fun r8 =>
 (AV.asTup 2 r8.1).bind fun c9 =>
 (AV.asAgg 2 (c9.getD 0 .u)).bind fun c10 =>
 (AV.asI .i64 (c10.getD 0 .u)).bind fun n11 =>
 (AV.asI .i64 (c10.getD 1 .u)).bind fun n12 =>
 (AV.asB (c9.getD 1 .u)).bind fun b13 =>
 let σ14 := r8.2.put σ.next (.cells true 213 [(.i .i64 0), (.i .i64 0)])
 (σ14.st (.n σ.next) 0 [(.i .i64 n11), (.i .i64 n12)]).bind fun σ15 =>
 Option.bind p0 fun q16 =>
 (σ15.ld q16.1 (q16.2 + 5)).bind fun w17 =>
 (AV.asI .i64 w17).bind fun n18 =>
 Option.bind p0 fun q19 =>
 (σ15.st q19.1 (q19.2 + 3) [(.i .i64 n18)]).bind fun σ20 =>
 (σ20.ld (.n σ.next) 0).bind fun w21 =>
 (AV.asI .i64 w21).bind fun n22 =>
 (σ20.ld (.n σ.next) 1).bind fun w23 =>
 (AV.asI .i64 w23).bind fun n24 =>
 Option.bind p0 fun q25 =>
 (σ20.st q25.1 (q25.2 + 5) [(.i .i64 n22), (.i .i64 n24)]).bind fun σ26 =>
 Option.bind p0 fun q27 =>
 (σ26.ld q27.1 (q27.2 + 4)).bind fun w28 =>
 (AV.asI .i64 w28).bind fun n29 =>
 Option.bind p0 fun q30 =>
 (σ26.st q30.1 (q30.2 + 4) [(.i .i64 (IntKind.i64.wrap (n29 - 1)))]).bind fun σ31 =>
 some ((.i .i64 0), σ31))
 else none
noncomputable def frames_Frames__Pop {O : Type} : Sm O := frames_Frames__Pop_c frames_Frames__under
theorem frames_Frames__Pop_ent : Entered Try.prog 63 := Try.call63
theorem frames_Frames__Pop_run {O : Type} (k131 : Sm O) : run (O := O) Try.prog [(131, k131)] Try.f63 (.n .z (.n (.n .z (.n .z .z)) (.n .z (.n .z (.n .z (.n .z .z)))))) = frames_Frames__Pop_c k131 := by kernel_rfl
theorem frames_Frames__Pop_sound {O : Type} {RO : O → Loc → (Nat → Option Obj) → Prop} : FSound RO Try.prog 63 (frames_Frames__Pop) :=
   have h : FSound RO Try.prog 63 (frames_Frames__Pop_c frames_Frames__under) := (frames_Frames__Pop_run frames_Frames__under) ▸ run_sound (gcons frames_Frames__under_ent (frames_Frames__under_sound) <| gnil) mixed Try.func63 (by kernel_rfl) _
   h

/-- (*haymow/frames.Frames).Get -/
noncomputable def frames_Frames__Get_c {O : Type} (k130 k47 : Sm O) : Sm O := fun xs σ =>
 bif Nat.beq xs.length 2 then
 (AV.asP (xs.getD 0 .u)).bind fun p0 =>
 (AV.asI .i64 (xs.getD 1 .u)).bind fun n1 =>
 (k130 [(.p p0), (.i .i64 n1)] σ).bind fun r2 =>
 (AV.asI .i64 r2.1).bind fun n3 =>
 (bif ((n3 : Int) != 0) then
 some ((.tup [(.i .u64 0), (.i .i64 n3)]), r2.2)
 else Option.bind p0 fun q4 =>
 (r2.2.ld q4.1 q4.2).bind fun w5 =>
 (AV.asP w5).bind fun p6 =>
 Option.bind p0 fun q7 =>
 (r2.2.ld q7.1 (q7.2 + 1)).bind fun w8 =>
 (AV.asI .i64 w8).bind fun n9 =>
 Option.bind p0 fun q10 =>
 (r2.2.ld q10.1 (q10.2 + 5)).bind fun w11 =>
 (AV.asI .i64 w11).bind fun n12 =>
 let v13 : Int := (IntKind.i64.wrap ((IntKind.i64.wrap (n12 + 2)) + n1))
 (k47 [(.p p6), (.i .i64 n9), (.i .i64 v13)] r2.2).bind fun r14 =>
 (AV.asTup 2 r14.1).bind fun c15 =>
 (AV.asI .u64 (c15.getD 0 .u)).bind fun n16 =>
 (AV.asI .i64 (c15.getD 1 .u)).bind fun n17 =>
 some ((.tup [(.i .u64 n16), (.i .i64 n17)]), r14.2))
 else none
noncomputable def frames_Frames__Get {O : Type} : Sm O := frames_Frames__Get_c frames_Frames__check mem_Mem__Read
theorem frames_Frames__Get_ent : Entered Try.prog 65 := Try.call65
theorem frames_Frames__Get_run {O : Type} (k130 k47 : Sm O) : run (O := O) Try.prog [(130, k130), (47, k47)] Try.f65 (.n .z (.n (.n .z (.n .z (.n .z .z))) (.n (.d [] [0, 1, 2, 3, 4, 5, 6, 7, 8, 9, 10, 11, 12, 13, 14, 15, 16, 17, 18, 19, 20, 21] [0, 1, 3, 7, 0, 16, 48, 112, 0, 256, 768, 1792, 3840, 7936, 0, 32512, 65535, 131071, 262143, 262143, 524287, 2097151]) .z))) = frames_Frames__Get_c k130 k47 := by kernel_rfl
theorem frames_Frames__Get_sound {O : Type} {RO : O → Loc → (Nat → Option Obj) → Prop} : FSound RO Try.prog 65 (frames_Frames__Get) :=
   have h : FSound RO Try.prog 65 (frames_Frames__Get_c frames_Frames__check mem_Mem__Read) := (frames_Frames__Get_run frames_Frames__check mem_Mem__Read) ▸ run_sound (gcons frames_Frames__check_ent (frames_Frames__check_sound) <| gcons mem_Mem__Read_ent (mem_Mem__Read_sound) <| gnil) mixed Try.func65 (by kernel_rfl) _
   h

/-- (*haymow/frames.Frames).Words -/
noncomputable def frames_Frames__Words_c {O : Type} : Sm O := fun xs σ =>
 bif Nat.beq xs.length 1 then
 (AV.asP (xs.getD 0 .u)).bind fun p0 =>
 Option.bind p0 fun q1 =>
 (σ.ld q1.1 (q1.2 + 3)).bind fun w2 =>
 (AV.asI .i64 w2).bind fun n3 =>
 some ((.i .i64 n3), σ)
 else none
noncomputable def frames_Frames__Words {O : Type} : Sm O := frames_Frames__Words_c
theorem frames_Frames__Words_ent : Entered Try.prog 67 := Try.call67
theorem frames_Frames__Words_run {O : Type} : run (O := O) Try.prog [] Try.f67 (.n .z .z) = frames_Frames__Words_c  := by kernel_rfl
theorem frames_Frames__Words_sound {O : Type} {RO : O → Loc → (Nat → Option Obj) → Prop} : FSound RO Try.prog 67 (frames_Frames__Words) :=
   have h : FSound RO Try.prog 67 (frames_Frames__Words_c) := (frames_Frames__Words_run) ▸ run_sound (gnil) mixed Try.func67 (by kernel_rfl) _
   h

/-- (*haymow/frames.Frames).Depth -/
noncomputable def frames_Frames__Depth_c {O : Type} : Sm O := fun xs σ =>
 bif Nat.beq xs.length 1 then
 (AV.asP (xs.getD 0 .u)).bind fun p0 =>
 Option.bind p0 fun q1 =>
 (σ.ld q1.1 (q1.2 + 4)).bind fun w2 =>
 (AV.asI .i64 w2).bind fun n3 =>
 some ((.i .i64 n3), σ)
 else none
noncomputable def frames_Frames__Depth {O : Type} : Sm O := frames_Frames__Depth_c
theorem frames_Frames__Depth_ent : Entered Try.prog 64 := Try.call64
theorem frames_Frames__Depth_run {O : Type} : run (O := O) Try.prog [] Try.f64 (.n .z .z) = frames_Frames__Depth_c  := by kernel_rfl
theorem frames_Frames__Depth_sound {O : Type} {RO : O → Loc → (Nat → Option Obj) → Prop} : FSound RO Try.prog 64 (frames_Frames__Depth) :=
   have h : FSound RO Try.prog 64 (frames_Frames__Depth_c) := (frames_Frames__Depth_run) ▸ run_sound (gnil) mixed Try.func64 (by kernel_rfl) _
   h

/-- haymow/haymowlaw17.awake -/
noncomputable def law17_awake_c {O : Type} (k60 k61 k62 k63 k65 k67 k64 : Sm O) : Sm O := fun xs σ =>
 bif Nat.beq xs.length 0 then
 (k60 [] σ).bind fun r0 =>
 (AV.asTup 3 r0.1).bind fun c1 =>
 (AV.asP (c1.getD 0 .u)).bind fun p2 =>
 (AV.asP (c1.getD 1 .u)).bind fun p3 =>
 (AV.asB (c1.getD 2 .u)).bind fun b4 =>
 (bif (!b4) then
 some ((.b false), r0.2)
 else (k61 [(.p p3), (.i .i64 2)] r0.2).bind fun r5 =>
 (AV.asI .i64 r5.1).bind fun n6 =>
 (k62 [(.p p3), (.i .i64 1), (.i .u64 11)] r5.2).bind fun r7 =>
 (AV.asI .i64 r7.1).bind fun n8 =>
 (k61 [(.p p3), (.i .i64 0)] r7.2).bind fun r9 =>
 (AV.asI .i64 r9.1).bind fun n10 =>
 (k63 [(.p p3)] r9.2).bind fun r11 =>
 (AV.asI .i64 r11.1).bind fun n12 =>
 (k65 [(.p p3), (.i .i64 1)] r11.2).bind fun r13 =>
 (AV.asTup 2 r13.1).bind fun c14 =>
 (AV.asI .u64 (c14.getD 0 .u)).bind fun n15 =>
 (AV.asI .i64 (c14.getD 1 .u)).bind fun n16 =>
 ((bif (((n12 : Int) == 0) == true) then
 some ([(.b ((n15 : Int) == 11))], r13.2)
 else some ([(.b false)], r13.2)) : Option (List AV × AH O)).bind fun r17 =>
 (AV.asB (r17.1.getD 0 .u)).bind fun b18 =>
 ((bif (b18 == true) then
 some ([(.b ((n16 : Int) == 0))], r17.2)
 else some ([(.b false)], r17.2)) : Option (List AV × AH O)).bind fun r19 =>
 (AV.asB (r19.1.getD 0 .u)).bind fun b20 =>
 ((bif (b20 == true) then
 (k67 [(.p p3)] r19.2).bind fun r21 =>
 (AV.asI .i64 r21.1).bind fun n22 =>
 some ([(.b ((n22 : Int) == 4))], r21.2)
 else some ([(.b false)], r19.2)) : Option (List AV × AH O)).bind fun r23 =>
 (AV.asB (r23.1.getD 0 .u)).bind fun b24 =>
 ((bif (b24 == true) then
 (k64 [(.p p3)] r23.2).bind fun r25 =>
 (AV.asI .i64 r25.1).bind fun n26 =>
 some ([(.b ((n26 : Int) == 1))], r25.2)
 else some ([(.b false)], r23.2)) : Option (List AV × AH O)).bind fun r27 =>
 (AV.asB (r27.1.getD 0 .u)).bind fun b28 =>
 some ((.b b28), r27.2))
 else none
noncomputable def law17_awake {O : Type} : Sm O := law17_awake_c law17_made frames_Frames__Push frames_Frames__Set frames_Frames__Pop frames_Frames__Get frames_Frames__Words frames_Frames__Depth
theorem law17_awake_ent : Entered Try.prog 58 := Try.call58
theorem law17_awake_run {O : Type} (k60 k61 k62 k63 k65 k67 k64 : Sm O) : run (O := O) Try.prog [(60, k60), (61, k61), (62, k62), (63, k63), (65, k65), (67, k67), (64, k64)] Try.f58 (.n .z (.n .z (.n (.n .z (.n .z .z)) (.n .z (.n .z (.n .z (.n .z (.n .z (.n (.g [(2, 2, [(32, .one .b)]), (6, 2, [(36, .one .b)]), (10, 3, [(41, .one .b)]), (15, 3, [(46, .one .b)])]) .z))))))))) = law17_awake_c k60 k61 k62 k63 k65 k67 k64 := by kernel_rfl
theorem law17_awake_sound {O : Type} {RO : O → Loc → (Nat → Option Obj) → Prop} : FSound RO Try.prog 58 (law17_awake) :=
   have h : FSound RO Try.prog 58 (law17_awake_c law17_made frames_Frames__Push frames_Frames__Set frames_Frames__Pop frames_Frames__Get frames_Frames__Words frames_Frames__Depth) := (law17_awake_run law17_made frames_Frames__Push frames_Frames__Set frames_Frames__Pop frames_Frames__Get frames_Frames__Words frames_Frames__Depth) ▸ run_sound (gcons law17_made_ent (law17_made_sound) <| gcons frames_Frames__Push_ent (frames_Frames__Push_sound) <| gcons frames_Frames__Set_ent (frames_Frames__Set_sound) <| gcons frames_Frames__Pop_ent (frames_Frames__Pop_sound) <| gcons frames_Frames__Get_ent (frames_Frames__Get_sound) <| gcons frames_Frames__Words_ent (frames_Frames__Words_sound) <| gcons frames_Frames__Depth_ent (frames_Frames__Depth_sound) <| gnil) mixed Try.func58 (by kernel_rfl) _
   h

/-- (*haymow/frames.Frames).Slots -/
noncomputable def frames_Frames__Slots_c {O : Type} : Sm O := fun xs σ =>
 bif Nat.beq xs.length 1 then
 (AV.asP (xs.getD 0 .u)).bind fun p0 =>
 Option.bind p0 fun q1 =>
 (σ.ld q1.1 ((q1.2 + 5) + 1)).bind fun w2 =>
 (AV.asI .i64 w2).bind fun n3 =>
 some ((.i .i64 n3), σ)
 else none
noncomputable def frames_Frames__Slots {O : Type} : Sm O := frames_Frames__Slots_c
theorem frames_Frames__Slots_ent : Entered Try.prog 66 := Try.call66
theorem frames_Frames__Slots_run {O : Type} : run (O := O) Try.prog [] Try.f66 (.n .z .z) = frames_Frames__Slots_c  := by kernel_rfl
theorem frames_Frames__Slots_sound {O : Type} {RO : O → Loc → (Nat → Option Obj) → Prop} : FSound RO Try.prog 66 (frames_Frames__Slots) :=
   have h : FSound RO Try.prog 66 (frames_Frames__Slots_c) := (frames_Frames__Slots_run) ▸ run_sound (gnil) mixed Try.func66 (by kernel_rfl) _
   h

/-- haymow/haymowlaw17.FramesStay -/
noncomputable def law17_FramesStay_L4 {O : Type} (l0 : SA × Nat) (k65 : Sm O) (p13 : Option (Bid × Nat)) : List AV × AH O → Option ((List AV × AH O) ⊕ ((List AV × AH O) ⊕ (AV × AH O))) := (fun r74 =>
 (AV.asI .i64 (r74.1.getD 0 .u)).bind fun n75 =>
 (bif (decide (n75 < (l0.2 : Int))) then
 (k65 [(.p p13), (.i .i64 n75)] r74.2).bind fun r76 =>
 (AV.asTup 2 r76.1).bind fun c77 =>
 (AV.asI .u64 (c77.getD 0 .u)).bind fun n78 =>
 (AV.asI .i64 (c77.getD 1 .u)).bind fun n79 =>
 (bif ((decide ((0 : Int) ≤ n75)) && (decide (n75 < (l0.2 : Int)))) then
 (SA.ref l0.1).bind fun q80 =>
 (r76.2.ld q80.1 (q80.2 + (n75.toNat * 1))).bind fun w81 =>
 (AV.asI .u64 w81).bind fun n82 =>
 ((bif (((n78 : Int) != n82) == false) then
 some ([(.b ((n79 : Int) != 0))], r76.2)
 else some ([(.b true)], r76.2)) : Option (List AV × AH O)).bind fun r83 =>
 (AV.asB (r83.1.getD 0 .u)).bind fun b84 =>
 (bif b84 then
 ((some ((.b false), r83.2) : Option (AV × AH O)).map fun r => Sum.inr (Sum.inr r))
 else some (Sum.inl ([(.i .i64 (IntKind.i64.wrap (n75 + 1)))], r83.2)))
 else none)
 else some (Sum.inr (Sum.inl ([], r74.2)))))
noncomputable def law17_FramesStay_L3 {O : Type} (k64 : Sm O) (p13 : Option (Bid × Nat)) (k63 : Sm O) : List AV × AH O → Option ((List AV × AH O) ⊕ (List AV × AH O)) := (fun r65 =>
 (AV.asI .i64 (r65.1.getD 0 .u)).bind fun n66 =>
 (k64 [(.p p13)] r65.2).bind fun r67 =>
 (AV.asI .i64 r67.1).bind fun n68 =>
 ((bif ((decide (n68 > 1)) == true) then
 some ([(.b (decide (n66 > 0)))], r67.2)
 else some ([(.b false)], r67.2)) : Option (List AV × AH O)).bind fun r69 =>
 (AV.asB (r69.1.getD 0 .u)).bind fun b70 =>
 (bif b70 then
 (k63 [(.p p13)] r69.2).bind fun r71 =>
 (AV.asI .i64 r71.1).bind fun n72 =>
 some (Sum.inl ([(.i .i64 (IntKind.i64.wrap (n66 - 1)))], r71.2))
 else some (Sum.inr ([], r69.2))))
noncomputable def law17_FramesStay_L2 {O : Type} (l1 : SA × Nat) (k61 : Sm O) (p13 : Option (Bid × Nat)) (k63 : Sm O) (k62 : Sm O) : List AV × AH O → Option ((List AV × AH O) ⊕ (List AV × AH O)) := (fun r31 =>
 (AV.asI .i64 (r31.1.getD 0 .u)).bind fun n32 =>
 (AV.asI .i64 (r31.1.getD 1 .u)).bind fun n33 =>
 (bif (decide (n33 < (l1.2 : Int))) then
 (bif ((decide ((0 : Int) ≤ n33)) && (decide (n33 < (l1.2 : Int)))) then
 (SA.ref l1.1).bind fun q34 =>
 (r31.2.ld q34.1 (q34.2 + (n33.toNat * 3))).bind fun w35 =>
 (AV.asI .i64 w35).bind fun n36 =>
 ((bif ((n36 : Int) == 0) then
 (bif ((decide ((0 : Int) ≤ n33)) && (decide (n33 < (l1.2 : Int)))) then
 (SA.ref l1.1).bind fun q37 =>
 (r31.2.ld q37.1 ((q37.2 + (n33.toNat * 3)) + 1)).bind fun w38 =>
 (AV.asI .i64 w38).bind fun n39 =>
 (k61 [(.p p13), (.i .i64 n39)] r31.2).bind fun r40 =>
 (AV.asI .i64 r40.1).bind fun n41 =>
 ((bif ((n41 : Int) == 0) then
 some ([(.i .i64 (IntKind.i64.wrap (n32 + 1)))], r40.2)
 else some ([(.i .i64 n32)], r40.2)) : Option (List AV × AH O)).bind fun r42 =>
 (AV.asI .i64 (r42.1.getD 0 .u)).bind fun n43 =>
 some ([(.i .i64 n43)], r42.2)
 else none)
 else ((bif ((n36 : Int) == 1) then
 ((bif ((decide (n32 > 0)) == true) then
 (k63 [(.p p13)] r31.2).bind fun r44 =>
 (AV.asI .i64 r44.1).bind fun n45 =>
 some ([(.b ((n45 : Int) == 0))], r44.2)
 else some ([(.b false)], r31.2)) : Option (List AV × AH O)).bind fun r46 =>
 (AV.asB (r46.1.getD 0 .u)).bind fun b47 =>
 ((bif b47 then
 some ([(.i .i64 (IntKind.i64.wrap (n32 - 1)))], r46.2)
 else some ([(.i .i64 n32)], r46.2)) : Option (List AV × AH O)).bind fun r48 =>
 (AV.asI .i64 (r48.1.getD 0 .u)).bind fun n49 =>
 some ([(.i .i64 n49)], r48.2)
 else ((bif (decide (n32 > 0)) then
 (bif ((decide ((0 : Int) ≤ n33)) && (decide (n33 < (l1.2 : Int)))) then
 (SA.ref l1.1).bind fun q50 =>
 (r31.2.ld q50.1 ((q50.2 + (n33.toNat * 3)) + 1)).bind fun w51 =>
 (AV.asI .i64 w51).bind fun n52 =>
 (bif ((decide ((0 : Int) ≤ n33)) && (decide (n33 < (l1.2 : Int)))) then
 (SA.ref l1.1).bind fun q53 =>
 (r31.2.ld q53.1 ((q53.2 + (n33.toNat * 3)) + 2)).bind fun w54 =>
 (AV.asI .u64 w54).bind fun n55 =>
 (k62 [(.p p13), (.i .i64 n52), (.i .u64 n55)] r31.2).bind fun r56 =>
 (AV.asI .i64 r56.1).bind fun n57 =>
 some ([], r56.2)
 else none)
 else none)
 else some ([], r31.2)) : Option (List AV × AH O)).bind fun r58 =>
 some ([(.i .i64 n32)], r58.2)) : Option (List AV × AH O)).bind fun r59 =>
 (AV.asI .i64 (r59.1.getD 0 .u)).bind fun n60 =>
 some ([(.i .i64 n60)], r59.2)) : Option (List AV × AH O)).bind fun r61 =>
 (AV.asI .i64 (r61.1.getD 0 .u)).bind fun n62 =>
 some (Sum.inl ([(.i .i64 n62), (.i .i64 (IntKind.i64.wrap (n33 + 1)))], r61.2))
 else none)
 else some (Sum.inr ([(.i .i64 n32)], r31.2))))
noncomputable def law17_FramesStay_L1 {O : Type} (l0 : SA × Nat) (k62 : Sm O) (p13 : Option (Bid × Nat)) : List AV × AH O → Option ((List AV × AH O) ⊕ (List AV × AH O)) := (fun r23 =>
 (AV.asI .i64 (r23.1.getD 0 .u)).bind fun n24 =>
 (bif (decide (n24 < (l0.2 : Int))) then
 (bif ((decide ((0 : Int) ≤ n24)) && (decide (n24 < (l0.2 : Int)))) then
 (SA.ref l0.1).bind fun q25 =>
 (r23.2.ld q25.1 (q25.2 + (n24.toNat * 1))).bind fun w26 =>
 (AV.asI .u64 w26).bind fun n27 =>
 (k62 [(.p p13), (.i .i64 n24), (.i .u64 n27)] r23.2).bind fun r28 =>
 (AV.asI .i64 r28.1).bind fun n29 =>
 some (Sum.inl ([(.i .i64 (IntKind.i64.wrap (n24 + 1)))], r28.2))
 else none)
 else some (Sum.inr ([], r23.2))))
noncomputable def law17_FramesStay_c {O : Type} (k58 k59 k60 k61 k62 k63 k64 k65 k66 k67 : Sm O) : Sm O := fun xs σ =>
 bif Nat.beq xs.length 2 then
 (AV.asSl (xs.getD 0 .u)).bind fun l0 =>
 (AV.asSl (xs.getD 1 .u)).bind fun l1 =>
 (k58 [] σ).bind fun r2 =>
 (AV.asB r2.1).bind fun b3 =>
 (bif (!b3) then
 some ((.b false), r2.2)
 else ((bif ((decide ((l0.2 : Int) > 40)) == false) then
 some ([(.b (decide ((l1.2 : Int) > 60)))], r2.2)
 else some ([(.b true)], r2.2)) : Option (List AV × AH O)).bind fun r4 =>
 (AV.asB (r4.1.getD 0 .u)).bind fun b5 =>
 (bif b5 then
 some ((.b true), r4.2)
 else (k59 [(.p none)] r4.2).bind fun r6 =>
 (AV.asTup 2 r6.1).bind fun c7 =>
 (AV.asP (c7.getD 0 .u)).bind fun p8 =>
 (AV.asI .i64 (c7.getD 1 .u)).bind fun n9 =>
 (k60 [] r6.2).bind fun r10 =>
 (AV.asTup 3 r10.1).bind fun c11 =>
 (AV.asP (c11.getD 0 .u)).bind fun p12 =>
 (AV.asP (c11.getD 1 .u)).bind fun p13 =>
 (AV.asB (c11.getD 2 .u)).bind fun b14 =>
 ((bif ((!b14) == false) then
 some ([(.b (!(Option.isNone p8)))], r10.2)
 else some ([(.b true)], r10.2)) : Option (List AV × AH O)).bind fun r15 =>
 (AV.asB (r15.1.getD 0 .u)).bind fun b16 =>
 ((bif (b16 == false) then
 some ([(.b ((n9 : Int) != 1))], r15.2)
 else some ([(.b true)], r15.2)) : Option (List AV × AH O)).bind fun r17 =>
 (AV.asB (r17.1.getD 0 .u)).bind fun b18 =>
 ((bif (b18 == false) then
 (k61 [(.p p13), (.i .i64 (l0.2 : Int))] r17.2).bind fun r19 =>
 (AV.asI .i64 r19.1).bind fun n20 =>
 some ([(.b ((n20 : Int) != 0))], r19.2)
 else some ([(.b true)], r17.2)) : Option (List AV × AH O)).bind fun r21 =>
 (AV.asB (r21.1.getD 0 .u)).bind fun b22 =>
 (bif b22 then
 some ((.b false), r21.2)
 else (loopF (S := List AV × AH O) (T := List AV × AH O) (law17_FramesStay_L1 l0 k62 p13) ([(.i .i64 0)], r21.2)).bind fun r30 =>
 (loopF (S := List AV × AH O) (T := List AV × AH O) (law17_FramesStay_L2 l1 k61 p13 k63 k62) ([(.i .i64 0), (.i .i64 0)], r30.2)).bind fun r63 =>
 (AV.asI .i64 (r63.1.getD 0 .u)).bind fun n64 =>
 (loopF (S := List AV × AH O) (T := List AV × AH O) (law17_FramesStay_L3 k64 p13 k63) ([(.i .i64 n64)], r63.2)).bind fun r73 =>
 bindS (S := List AV × AH O) (R := (AV × AH O)) (loopF (S := List AV × AH O) (T := (List AV × AH O) ⊕ (AV × AH O)) (law17_FramesStay_L4 l0 k65 p13) ([(.i .i64 0)], r73.2)) fun r85 =>
 (k64 [(.p p13)] r85.2).bind fun r86 =>
 (AV.asI .i64 r86.1).bind fun n87 =>
 ((bif (((n87 : Int) == 1) == true) then
 (k66 [(.p p13)] r86.2).bind fun r88 =>
 (AV.asI .i64 r88.1).bind fun n89 =>
 some ([(.b ((n89 : Int) == (l0.2 : Int)))], r88.2)
 else some ([(.b false)], r86.2)) : Option (List AV × AH O)).bind fun r90 =>
 (AV.asB (r90.1.getD 0 .u)).bind fun b91 =>
 ((bif (b91 == true) then
 (k67 [(.p p13)] r90.2).bind fun r92 =>
 (AV.asI .i64 r92.1).bind fun n93 =>
 let c94 : Bool := ((n93 : Int) == (IntKind.i64.wrap (2 + (l0.2 : Int))))
 some ([(.b c94)], r92.2)
 else some ([(.b false)], r90.2)) : Option (List AV × AH O)).bind fun r95 =>
 (AV.asB (r95.1.getD 0 .u)).bind fun b96 =>
 some ((.b b96), r95.2))))
 else none
noncomputable def law17_FramesStay {O : Type} : Sm O := law17_FramesStay_c law17_awake frames_New law17_made frames_Frames__Push frames_Frames__Set frames_Frames__Pop frames_Frames__Depth frames_Frames__Get frames_Frames__Slots frames_Frames__Words
theorem law17_FramesStay_ent : Entered Try.prog 10 := Try.call10
theorem law17_FramesStay_run {O : Type} (k58 k59 k60 k61 k62 k63 k64 k65 k66 k67 : Sm O) : run (O := O) Try.prog [(58, k58), (59, k59), (60, k60), (61, k61), (62, k62), (63, k63), (64, k64), (65, k65), (66, k66), (67, k67)] Try.f10 (.n .z (.n (.n .z (.n .z .z)) (.n (.n (.g [(3, 3, [(25, .one .b)])]) (.n .z .z)) (.n .z (.n .z (.n (.n (.g [(2, 2, [(40, .one .b)]), (6, 2, [(44, .one .b)]), (10, 5, [(51, .one .b)])]) (.n .z .z)) (.n (.n .z (.n (.lp false 0 [(10, .one (.i .i64))] [] (.n (.n .z .z) (.n .z .z))) .z)) (.n .z (.n (.n .z (.n (.lp false 2 [(11, .one (.i .i64)), (12, .one (.i .i64))] [(11, .one (.i .i64))] (.n (.n .z .z) (.n (.n (.n .z (.n (.n .z (.j false [(11, .one (.i .i64))] (.n .z (.j false [(11, .one (.i .i64))] .z .z)) (.n .z (.j false [(11, .one (.i .i64))] (.n (.g [(2, 3, [(110, .one .b)])]) (.j false [(11, .one (.i .i64))] .z .z)) (.n .z (.j false [] (.d [] [0, 1, 2, 3, 4, 5, 6, 7, 8, 9, 10, 11] [0, 0, 0, 6, 14, 30, 0, 0, 192, 448, 960, 2047]) .z)))))) .z)) .z) .z))) .z)) (.n (.n (.lp false 5 [(11, .one (.i .i64))] [] (.n (.n (.g [(3, 2, [(119, .one .b)])]) .z) (.n .z .z))) .z) (.n (.n .z (.n (.lp true 7 [(13, .one (.i .i64))] [] (.n (.n .z .z) (.n (.n (.n .z (.n (.g [(6, 2, [(145, .one .b)])]) (.n .z .z))) .z) .z))) .z)) (.n (.g [(3, 5, [(155, .one .b)]), (10, 6, [(163, .one .b)])]) .z)))))))))))) = law17_FramesStay_c k58 k59 k60 k61 k62 k63 k64 k65 k66 k67 := by kernel_rfl
theorem law17_FramesStay_sound {O : Type} {RO : O → Loc → (Nat → Option Obj) → Prop} : FSound RO Try.prog 10 (law17_FramesStay) :=
   have h : FSound RO Try.prog 10 (law17_FramesStay_c law17_awake frames_New law17_made frames_Frames__Push frames_Frames__Set frames_Frames__Pop frames_Frames__Depth frames_Frames__Get frames_Frames__Slots frames_Frames__Words) := (law17_FramesStay_run law17_awake frames_New law17_made frames_Frames__Push frames_Frames__Set frames_Frames__Pop frames_Frames__Depth frames_Frames__Get frames_Frames__Slots frames_Frames__Words) ▸ run_sound (gcons law17_awake_ent (law17_awake_sound) <| gcons frames_New_ent (frames_New_sound) <| gcons law17_made_ent (law17_made_sound) <| gcons frames_Frames__Push_ent (frames_Frames__Push_sound) <| gcons frames_Frames__Set_ent (frames_Frames__Set_sound) <| gcons frames_Frames__Pop_ent (frames_Frames__Pop_sound) <| gcons frames_Frames__Depth_ent (frames_Frames__Depth_sound) <| gcons frames_Frames__Get_ent (frames_Frames__Get_sound) <| gcons frames_Frames__Slots_ent (frames_Frames__Slots_sound) <| gcons frames_Frames__Words_ent (frames_Frames__Words_sound) <| gnil) mixed Try.func10 (by kernel_rfl) _
   h

end Go.Abs.Try
