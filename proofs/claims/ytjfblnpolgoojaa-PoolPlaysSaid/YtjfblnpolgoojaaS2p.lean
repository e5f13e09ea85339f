/-
  What the functions of the program do, each as a function of Lean, and that it does so. No conditions.
-/
import Derived.Test.YtjfblnpolgoojaaS2x9
import Derived.Test.YtjfblnpolgoojaaProg
import Derived.KernelRfl
set_option linter.unusedVariables false
set_option linter.unusedSimpArgs false
set_option linter.constructorNameAsVariable false
set_option maxRecDepth 100000
namespace Go.Abs.Try
open Go Go.Abs Go.Proofs

theorem bits_Sub64_ext {O : Type} : ExternOK Try.prog 166 (bits_Sub64 (O := O)) := sub64_ext Try.func166 (by kernel_rfl) (by kernel_rfl) (by kernel_rfl) rfl

/-- haymow/pool.New -/
noncomputable def pool_New_c {O : Type} (k36 : Sm O) : Sm O := fun xs σ =>
 bif Nat.beq xs.length 2 then
 (AV.asP (xs.getD 0 .u)).bind fun p0 =>
 (AV.asI .i64 (xs.getD 1 .u)).bind fun n1 =>
 ((bif ((Option.isNone p0) == false) then
 some ([(.b (decide (n1 < 1)))], σ)
 else some ([(.b true)], σ)) : Option (List AV × AH O)).bind fun r2 =>
 (AV.asB (r2.1.getD 0 .u)).bind fun b3 =>
 ((bif (b3 == false) then
 some ([(.b (decide (n1 > 60)))], r2.2)
 else some ([(.b true)], r2.2)) : Option (List AV × AH O)).bind fun r4 =>
 (AV.asB (r4.1.getD 0 .u)).bind fun b5 =>
 (bif b5 then
 some ((.tup [(.p none), (.i .i64 1)]), r4.2)
 else (k36 [(.p p0), (.i .i64 0)] r4.2).bind fun r6 =>
 (AV.asTup 2 r6.1).bind fun c7 =>
 (AV.asI .i64 (c7.getD 0 .u)).bind fun n8 =>
 (AV.asI .i64 (c7.getD 1 .u)).bind fun n9 =>
 (bif ((n9 : Int) != 0) then
 some ((.tup [(.p none), (.i .i64 n9)]), r6.2)
 else let σ10 := r6.2.bump 1
 let σ11 := σ10.put r6.2.next (.cells true 219 [(.p p0), (.i .i64 n8), (.i .i64 n1), (.i .i64 0), (.i .i64 0), (.i .i64 0), (.i .i64 0)])
 some ((.tup [(.p (some ((.n r6.2.next), 0))), (.i .i64 0)]), σ11)))
 else none
noncomputable def pool_New {O : Type} : Sm O := pool_New_c mem_Mem__Open
theorem pool_New_ent : Entered Try.prog 86 := Try.call86
theorem pool_New_run {O : Type} (k36 : Sm O) : run (O := O) Try.prog [(36, k36)] Try.f86 (.n .z (.n (.n (.g [(2, 2, [(13, .one .b)]), (6, 2, [(17, .one .b)])]) (.n .z .z)) (.n .z (.n (.n .z (.n .z .z)) .z)))) = pool_New_c k36 := by kernel_rfl
theorem pool_New_sound {O : Type} {RO : O → Loc → (Nat → Option Obj) → Prop} : FSound RO Try.prog 86 (pool_New) :=
   have h : FSound RO Try.prog 86 (pool_New_c mem_Mem__Open) := (pool_New_run mem_Mem__Open) ▸ run_sound (gcons mem_Mem__Open_ent (mem_Mem__Open_sound) <| gnil) mixed Try.func86 (by kernel_rfl) _
   h

/-- haymow/haymowlaw10.made -/
noncomputable def law10_made_c {O : Type} (k35 k86 : Sm O) : Sm O := fun xs σ =>
 bif Nat.beq xs.length 1 then
 (AV.asI .i64 (xs.getD 0 .u)).bind fun n0 =>
 (k35 [] σ).bind fun r1 =>
 (AV.asP r1.1).bind fun p2 =>
 (bif (Option.isNone p2) then
 some ((.tup [(.p none), (.p none), (.b false)]), r1.2)
 else (k86 [(.p p2), (.i .i64 n0)] r1.2).bind fun r3 =>
 (AV.asTup 2 r3.1).bind fun c4 =>
 (AV.asP (c4.getD 0 .u)).bind fun p5 =>
 (AV.asI .i64 (c4.getD 1 .u)).bind fun n6 =>
 ((bif ((!(Option.isNone p5)) == true) then
 some ([(.b ((n6 : Int) == 0))], r3.2)
 else some ([(.b false)], r3.2)) : Option (List AV × AH O)).bind fun r7 =>
 (AV.asB (r7.1.getD 0 .u)).bind fun b8 =>
 some ((.tup [(.p p2), (.p p5), (.b b8)]), r7.2))
 else none
noncomputable def law10_made {O : Type} : Sm O := law10_made_c mem_New pool_New
theorem law10_made_ent : Entered Try.prog 70 := Try.call70
theorem law10_made_run {O : Type} (k35 k86 : Sm O) : run (O := O) Try.prog [(35, k35), (86, k86)] Try.f70 (.n .z (.n .z (.n (.n .z (.n .z .z)) (.n .z (.n (.g [(4, 2, [(24, .one .b)])]) .z))))) = law10_made_c k35 k86 := by kernel_rfl
theorem law10_made_sound {O : Type} {RO : O → Loc → (Nat → Option Obj) → Prop} : FSound RO Try.prog 70 (law10_made) :=
   have h : FSound RO Try.prog 70 (law10_made_c mem_New pool_New) := (law10_made_run mem_New pool_New) ▸ run_sound (gcons mem_New_ent (mem_New_sound) <| gcons pool_New_ent (pool_New_sound) <| gnil) mixed Try.func70 (by kernel_rfl) _
   h

/-- (*haymow/pool.Pool).width -/
noncomputable def pool_Pool__width_c {O : Type} : Sm O := fun xs σ =>
 bif Nat.beq xs.length 1 then
 (AV.asP (xs.getD 0 .u)).bind fun p0 =>
 Option.bind p0 fun q1 =>
 (σ.ld q1.1 (q1.2 + 2)).bind fun w2 =>
 (AV.asI .i64 w2).bind fun n3 =>
 some ((.i .i64 (IntKind.i64.wrap (n3 + 1))), σ)
 else none
noncomputable def pool_Pool__width {O : Type} : Sm O := pool_Pool__width_c
theorem pool_Pool__width_ent : Entered Try.prog 144 := Try.call144
theorem pool_Pool__width_run {O : Type} : run (O := O) Try.prog [] Try.f144 (.n .z .z) = pool_Pool__width_c  := by kernel_rfl
theorem pool_Pool__width_sound {O : Type} {RO : O → Loc → (Nat → Option Obj) → Prop} : FSound RO Try.prog 144 (pool_Pool__width) :=
   have h : FSound RO Try.prog 144 (pool_Pool__width_c) := (pool_Pool__width_run) ▸ run_sound (gnil) mixed Try.func144 (by kernel_rfl) _
   h

/-- (*haymow/pool.Pool).grow -/
noncomputable def pool_Pool__grow_c {O : Type} (k144 k44 : Sm O) : Sm O := fun xs σ =>
 bif Nat.beq xs.length 1 then
 (AV.asP (xs.getD 0 .u)).bind fun p0 =>
 Option.bind p0 fun q1 =>
 (σ.ld q1.1 (q1.2 + 3)).bind fun w2 =>
 (AV.asI .i64 w2).bind fun n3 =>
 (bif (decide (n3 ≥ 1048576)) then
 some ((.i .i64 3), σ)
 else Option.bind p0 fun q4 =>
 (σ.ld q4.1 (q4.2 + 3)).bind fun w5 =>
 (AV.asI .i64 w5).bind fun n6 =>
 Option.bind p0 fun q7 =>
 (σ.ld q7.1 (q7.2 + 4)).bind fun w8 =>
 (AV.asI .i64 w8).bind fun n9 =>
 (bif (decide (n6 < n9)) then
 some ((.i .i64 0), σ)
 else Option.bind p0 fun q10 =>
 (σ.ld q10.1 (q10.2 + 4)).bind fun w11 =>
 (AV.asI .i64 w11).bind fun n12 =>
 let v13 : Int := (if (IntKind.i64.wrap (2 * n12)) > 8 then (IntKind.i64.wrap (2 * n12)) else 8)
 Option.bind p0 fun q14 =>
 (σ.ld q14.1 q14.2).bind fun w15 =>
 (AV.asP w15).bind fun p16 =>
 Option.bind p0 fun q17 =>
 (σ.ld q17.1 (q17.2 + 1)).bind fun w18 =>
 (AV.asI .i64 w18).bind fun n19 =>
 (k144 [(.p p0)] σ).bind fun r20 =>
 (AV.asI .i64 r20.1).bind fun n21 =>
 (chk (r20.2.ld q14.1 q14.2 = some (.p p16))).bind fun _ =>
 (chk (r20.2.ld q17.1 (q17.2 + 1) = some (.i .i64 n19))).bind fun _ =>
 (k44 [(.p p16), (.i .i64 n19), (.i .i64 (IntKind.i64.wrap (v13 * n21)))] r20.2).bind fun r22 =>
 (AV.asI .i64 r22.1).bind fun n23 =>
 (bif ((n23 : Int) != 0) then
 some ((.i .i64 3), r22.2)
 else Option.bind p0 fun q24 =>
 (r22.2.st q24.1 (q24.2 + 4) [(.i .i64 v13)]).bind fun σ25 =>
 some ((.i .i64 0), σ25))))
 else none
noncomputable def pool_Pool__grow {O : Type} : Sm O := pool_Pool__grow_c pool_Pool__width mem_Mem__Grow
theorem pool_Pool__grow_ent : Entered Try.prog 135 := Try.call135
theorem pool_Pool__grow_run {O : Type} (k144 k44 : Sm O) : run (O := O) Try.prog [(144, k144), (44, k44)] Try.f135 (.n .z (.n (.n (.n .z (.n .z (.n (.d [] [0, 1, 2, 3, 4, 5, 6, 7, 8, 9] [0, 1, 3, 7, 0, 16, 48, 112, 255, 511]) (.n .z .z)))) .z) (.n .z (.n (.n (.d [] [0, 1, 2, 3, 4, 5, 6, 7, 8, 9, 10, 11, 12, 13] [0, 1, 3, 7, 0, 16, 48, 112, 0, 0, 512, 1792, 4095, 8191]) (.n .z (.n .z .z))) (.n .z .z))))) = pool_Pool__grow_c k144 k44 := by kernel_rfl
theorem pool_Pool__grow_sound {O : Type} {RO : O → Loc → (Nat → Option Obj) → Prop} : FSound RO Try.prog 135 (pool_Pool__grow) :=
   have h : FSound RO Try.prog 135 (pool_Pool__grow_c pool_Pool__width mem_Mem__Grow) := (pool_Pool__grow_run pool_Pool__width mem_Mem__Grow) ▸ run_sound (gcons pool_Pool__width_ent (pool_Pool__width_sound) <| gcons mem_Mem__Grow_ent (mem_Mem__Grow_sound) <| gnil) mixed Try.func135 (by kernel_rfl) _
   h

/-- (*haymow/pool.Pool).at -/
noncomputable def pool_Pool__at_c {O : Type} (k144 : Sm O) : Sm O := fun xs σ =>
 bif Nat.beq xs.length 3 then
 (AV.asP (xs.getD 0 .u)).bind fun p0 =>
 (AV.asI .i64 (xs.getD 1 .u)).bind fun n1 =>
 (AV.asI .i64 (xs.getD 2 .u)).bind fun n2 =>
 (k144 [(.p p0)] σ).bind fun r3 =>
 (AV.asI .i64 r3.1).bind fun n4 =>
 let v5 : Int := (IntKind.i64.wrap ((IntKind.i64.wrap (n1 - 1)) * n4))
 let v6 : Int := (IntKind.i64.wrap ((IntKind.i64.wrap (v5 + 1)) + n2))
 some ((.i .i64 v6), r3.2)
 else none
noncomputable def pool_Pool__at {O : Type} : Sm O := pool_Pool__at_c pool_Pool__width
theorem pool_Pool__at_ent : Entered Try.prog 133 := Try.call133
theorem pool_Pool__at_run {O : Type} (k144 : Sm O) : run (O := O) Try.prog [(144, k144)] Try.f133 (.n .z .z) = pool_Pool__at_c k144 := by kernel_rfl
theorem pool_Pool__at_sound {O : Type} {RO : O → Loc → (Nat → Option Obj) → Prop} : FSound RO Try.prog 133 (pool_Pool__at) :=
   have h : FSound RO Try.prog 133 (pool_Pool__at_c pool_Pool__width) := (pool_Pool__at_run pool_Pool__width) ▸ run_sound (gcons pool_Pool__width_ent (pool_Pool__width_sound) <| gnil) mixed Try.func133 (by kernel_rfl) _
   h

/-- (*haymow/pool.Pool).Take -/
noncomputable def pool_Pool__Take_c {O : Type} (k135 k133 k43 k47 k45 : Sm O) : Sm O := fun xs σ =>
 bif Nat.beq xs.length 1 then
 (AV.asP (xs.getD 0 .u)).bind fun p0 =>
 Option.bind p0 fun q1 =>
 (σ.ld q1.1 (q1.2 + 5)).bind fun w2 =>
 (AV.asI .i64 w2).bind fun n3 =>
 (bif ((n3 : Int) == 0) then
 (k135 [(.p p0)] σ).bind fun r4 =>
 (AV.asI .i64 r4.1).bind fun n5 =>
 (bif ((n5 : Int) != 0) then
 some ((.tup [(.i .i64 0), (.i .i64 n5)]), r4.2)
 else Option.bind p0 fun q6 =>
 (r4.2.ld q6.1 (q6.2 + 3)).bind fun w7 =>
 (AV.asI .i64 w7).bind fun n8 =>
 Option.bind p0 fun q9 =>
 (r4.2.st q9.1 (q9.2 + 3) [(.i .i64 (IntKind.i64.wrap (n8 + 1)))]).bind fun σ10 =>
 Option.bind p0 fun q11 =>
 (σ10.ld q11.1 (q11.2 + 3)).bind fun w12 =>
 (AV.asI .i64 w12).bind fun n13 =>
 Option.bind p0 fun q14 =>
 (σ10.ld q14.1 q14.2).bind fun w15 =>
 (AV.asP w15).bind fun p16 =>
 Option.bind p0 fun q17 =>
 (σ10.ld q17.1 (q17.2 + 1)).bind fun w18 =>
 (AV.asI .i64 w18).bind fun n19 =>
 (k133 [(.p p0), (.i .i64 n13), (.i .i64 (-1))] σ10).bind fun r20 =>
 (AV.asI .i64 r20.1).bind fun n21 =>
 (chk (r20.2.ld q14.1 q14.2 = some (.p p16))).bind fun _ =>
 (chk (r20.2.ld q17.1 (q17.2 + 1) = some (.i .i64 n19))).bind fun _ =>
 (k43 [(.p p16), (.i .i64 n19), (.i .i64 n21), (.i .u64 1)] r20.2).bind fun r22 =>
 (AV.asI .i64 r22.1).bind fun n23 =>
 Option.bind p0 fun q24 =>
 (r22.2.ld q24.1 (q24.2 + 6)).bind fun w25 =>
 (AV.asI .i64 w25).bind fun n26 =>
 Option.bind p0 fun q27 =>
 (r22.2.st q27.1 (q27.2 + 6) [(.i .i64 (IntKind.i64.wrap (n26 + 1)))]).bind fun σ28 =>
 some ((.tup [(.i .i64 n13), (.i .i64 0)]), σ28))
 else Option.bind p0 fun q29 =>
 (σ.ld q29.1 q29.2).bind fun w30 =>
 (AV.asP w30).bind fun p31 =>
 Option.bind p0 fun q32 =>
 (σ.ld q32.1 (q32.2 + 1)).bind fun w33 =>
 (AV.asI .i64 w33).bind fun n34 =>
 (k133 [(.p p0), (.i .i64 n3), (.i .i64 0)] σ).bind fun r35 =>
 (AV.asI .i64 r35.1).bind fun n36 =>
 (chk (r35.2.ld q29.1 q29.2 = some (.p p31))).bind fun _ =>
 (chk (r35.2.ld q32.1 (q32.2 + 1) = some (.i .i64 n34))).bind fun _ =>
 (k47 [(.p p31), (.i .i64 n34), (.i .i64 n36)] r35.2).bind fun r37 =>
 (AV.asTup 2 r37.1).bind fun c38 =>
 (AV.asI .u64 (c38.getD 0 .u)).bind fun n39 =>
 (AV.asI .i64 (c38.getD 1 .u)).bind fun n40 =>
 Option.bind p0 fun q41 =>
 (r37.2.ld q41.1 q41.2).bind fun w42 =>
 (AV.asP w42).bind fun p43 =>
 Option.bind p0 fun q44 =>
 (r37.2.ld q44.1 (q44.2 + 1)).bind fun w45 =>
 (AV.asI .i64 w45).bind fun n46 =>
 (k133 [(.p p0), (.i .i64 n3), (.i .i64 (-1))] r37.2).bind fun r47 =>
 (AV.asI .i64 r47.1).bind fun n48 =>
 (chk (r47.2.ld q41.1 q41.2 = some (.p p43))).bind fun _ =>
 (chk (r47.2.ld q44.1 (q44.2 + 1) = some (.i .i64 n46))).bind fun _ =>
 (k47 [(.p p43), (.i .i64 n46), (.i .i64 n48)] r47.2).bind fun r49 =>
 (AV.asTup 2 r49.1).bind fun c50 =>
 (AV.asI .u64 (c50.getD 0 .u)).bind fun n51 =>
 (AV.asI .i64 (c50.getD 1 .u)).bind fun n52 =>
 Option.bind p0 fun q53 =>
 (r49.2.ld q53.1 q53.2).bind fun w54 =>
 (AV.asP w54).bind fun p55 =>
 Option.bind p0 fun q56 =>
 (r49.2.ld q56.1 (q56.2 + 1)).bind fun w57 =>
 (AV.asI .i64 w57).bind fun n58 =>
 (k133 [(.p p0), (.i .i64 n3), (.i .i64 (-1))] r49.2).bind fun r59 =>
 (AV.asI .i64 r59.1).bind fun n60 =>
 (chk (r59.2.ld q53.1 q53.2 = some (.p p55))).bind fun _ =>
 (chk (r59.2.ld q56.1 (q56.2 + 1) = some (.i .i64 n58))).bind fun _ =>
 (k43 [(.p p55), (.i .i64 n58), (.i .i64 n60), (.i .u64 (ibits .or .u64 n51 1))] r59.2).bind fun r61 =>
 (AV.asI .i64 r61.1).bind fun n62 =>
 Option.bind p0 fun q63 =>
 (r61.2.ld q63.1 q63.2).bind fun w64 =>
 (AV.asP w64).bind fun p65 =>
 Option.bind p0 fun q66 =>
 (r61.2.ld q66.1 (q66.2 + 1)).bind fun w67 =>
 (AV.asI .i64 w67).bind fun n68 =>
 Option.bind p0 fun q69 =>
 (r61.2.ld q69.1 (q69.2 + 2)).bind fun w70 =>
 (AV.asI .i64 w70).bind fun n71 =>
 (k133 [(.p p0), (.i .i64 n3), (.i .i64 0)] r61.2).bind fun r72 =>
 (AV.asI .i64 r72.1).bind fun n73 =>
 (chk (r72.2.ld q63.1 q63.2 = some (.p p65))).bind fun _ =>
 (chk (r72.2.ld q66.1 (q66.2 + 1) = some (.i .i64 n68))).bind fun _ =>
 (chk (r72.2.ld q69.1 (q69.2 + 2) = some (.i .i64 n71))).bind fun _ =>
 (k45 [(.p p65), (.i .i64 n68), (.i .i64 n73), (.i .i64 n71)] r72.2).bind fun r74 =>
 (AV.asI .i64 r74.1).bind fun n75 =>
 Option.bind p0 fun q76 =>
 (r74.2.st q76.1 (q76.2 + 5) [(.i .i64 (IntKind.i64.wrap n39))]).bind fun σ77 =>
 Option.bind p0 fun q78 =>
 (σ77.ld q78.1 (q78.2 + 6)).bind fun w79 =>
 (AV.asI .i64 w79).bind fun n80 =>
 Option.bind p0 fun q81 =>
 (σ77.st q81.1 (q81.2 + 6) [(.i .i64 (IntKind.i64.wrap (n80 + 1)))]).bind fun σ82 =>
 some ((.tup [(.i .i64 n3), (.i .i64 0)]), σ82))
 else none
noncomputable def pool_Pool__Take {O : Type} : Sm O := pool_Pool__Take_c pool_Pool__grow pool_Pool__at mem_Mem__Write mem_Mem__Read mem_Mem__Zero
theorem pool_Pool__Take_ent : Entered Try.prog 73 := Try.call73
theorem pool_Pool__Take_run {O : Type} (k135 k133 k43 k47 k45 : Sm O) : run (O := O) Try.prog [(135, k135), (133, k133), (43, k43), (47, k47), (45, k45)] Try.f73 (.n .z (.n .z (.n (.n .z (.n (.n (.n .z (.n .z (.n .z .z))) (.n .z (.n .z (.n (.d [] [0, 1, 2, 3, 4, 5, 6, 7, 8, 9, 10, 11] [0, 1, 3, 7, 0, 16, 48, 112, 0, 0, 768, 2047]) (.n .z .z))))) .z)) (.n (.d [] [0, 1, 2, 3, 4, 5, 6, 7, 8, 9, 10, 11, 12, 13, 14, 15, 16] [0, 1, 3, 7, 0, 16, 48, 112, 0, 0, 768, 2047, 4095, 8191, 8191, 16383, 65535]) (.n (.d [] [0, 1, 2, 3, 4, 5, 6, 7, 8, 9, 10, 11, 12, 13, 14, 15, 16] [0, 1, 3, 7, 0, 16, 48, 112, 0, 0, 768, 2047, 4095, 8191, 8191, 16383, 65535]) (.n (.d [] [0, 1, 2, 3, 4, 5, 6, 7, 8, 9, 11, 12, 10, 13] [0, 1, 3, 7, 0, 16, 48, 112, 0, 0, 768, 0, 2048, 8191]) (.n (.d [] [0, 1, 2, 3, 4, 5, 6, 7, 8, 9, 11, 12, 13, 14, 10, 15] [0, 1, 3, 7, 0, 16, 48, 112, 0, 0, 768, 0, 2048, 6144, 14336, 32767]) (.n .z (.n .z .z))))))))) = pool_Pool__Take_c k135 k133 k43 k47 k45 := by kernel_rfl
theorem pool_Pool__Take_sound {O : Type} {RO : O → Loc → (Nat → Option Obj) → Prop} : FSound RO Try.prog 73 (pool_Pool__Take) :=
   have h : FSound RO Try.prog 73 (pool_Pool__Take_c pool_Pool__grow pool_Pool__at mem_Mem__Write mem_Mem__Read mem_Mem__Zero) := (pool_Pool__Take_run pool_Pool__grow pool_Pool__at mem_Mem__Write mem_Mem__Read mem_Mem__Zero) ▸ run_sound (gcons pool_Pool__grow_ent (pool_Pool__grow_sound) <| gcons pool_Pool__at_ent (pool_Pool__at_sound) <| gcons mem_Mem__Write_ent (mem_Mem__Write_sound) <| gcons mem_Mem__Read_ent (mem_Mem__Read_sound) <| gcons mem_Mem__Zero_ent (mem_Mem__Zero_sound) <| gnil) mixed Try.func73 (by kernel_rfl) _
   h

/-- (*haymow/pool.Pool).look -/
noncomputable def pool_Pool__look_c {O : Type} (k133 k47 : Sm O) : Sm O := fun xs σ =>
 bif Nat.beq xs.length 2 then
 (AV.asP (xs.getD 0 .u)).bind fun p0 =>
 (AV.asI .i64 (xs.getD 1 .u)).bind fun n1 =>
 ((bif ((decide (n1 < 1)) == false) then
 Option.bind p0 fun q2 =>
 (σ.ld q2.1 (q2.2 + 3)).bind fun w3 =>
 (AV.asI .i64 w3).bind fun n4 =>
 some ([(.b (decide (n1 > n4)))], σ)
 else some ([(.b true)], σ)) : Option (List AV × AH O)).bind fun r5 =>
 (AV.asB (r5.1.getD 0 .u)).bind fun b6 =>
 (bif b6 then
 some ((.tup [(.i .u64 0), (.b false)]), r5.2)
 else Option.bind p0 fun q7 =>
 (r5.2.ld q7.1 q7.2).bind fun w8 =>
 (AV.asP w8).bind fun p9 =>
 Option.bind p0 fun q10 =>
 (r5.2.ld q10.1 (q10.2 + 1)).bind fun w11 =>
 (AV.asI .i64 w11).bind fun n12 =>
 (k133 [(.p p0), (.i .i64 n1), (.i .i64 (-1))] r5.2).bind fun r13 =>
 (AV.asI .i64 r13.1).bind fun n14 =>
 (chk (r13.2.ld q7.1 q7.2 = some (.p p9))).bind fun _ =>
 (chk (r13.2.ld q10.1 (q10.2 + 1) = some (.i .i64 n12))).bind fun _ =>
 (k47 [(.p p9), (.i .i64 n12), (.i .i64 n14)] r13.2).bind fun r15 =>
 (AV.asTup 2 r15.1).bind fun c16 =>
 (AV.asI .u64 (c16.getD 0 .u)).bind fun n17 =>
 (AV.asI .i64 (c16.getD 1 .u)).bind fun n18 =>
 some ((.tup [(.i .u64 n17), (.b true)]), r15.2))
 else none
noncomputable def pool_Pool__look {O : Type} : Sm O := pool_Pool__look_c pool_Pool__at mem_Mem__Read
theorem pool_Pool__look_ent : Entered Try.prog 134 := Try.call134
theorem pool_Pool__look_run {O : Type} (k133 k47 : Sm O) : run (O := O) Try.prog [(133, k133), (47, k47)] Try.f134 (.n .z (.n (.n (.g [(2, 6, [(17, .one .b)])]) (.n .z .z)) (.n (.d [] [0, 1, 2, 3, 4, 5, 6, 7, 8, 9, 10, 11, 12, 13, 14, 15, 16] [0, 1, 3, 7, 0, 16, 48, 112, 0, 0, 768, 2047, 4095, 8191, 8191, 16383, 65535]) .z))) = pool_Pool__look_c k133 k47 := by kernel_rfl
theorem pool_Pool__look_sound {O : Type} {RO : O → Loc → (Nat → Option Obj) → Prop} : FSound RO Try.prog 134 (pool_Pool__look) :=
   have h : FSound RO Try.prog 134 (pool_Pool__look_c pool_Pool__at mem_Mem__Read) := (pool_Pool__look_run pool_Pool__at mem_Mem__Read) ▸ run_sound (gcons pool_Pool__at_ent (pool_Pool__at_sound) <| gcons mem_Mem__Read_ent (mem_Mem__Read_sound) <| gnil) mixed Try.func134 (by kernel_rfl) _
   h

/-- (*haymow/pool.Pool).Give -/
noncomputable def pool_Pool__Give_c {O : Type} (k134 k133 k43 : Sm O) : Sm O := fun xs σ =>
 bif Nat.beq xs.length 2 then
 (AV.asP (xs.getD 0 .u)).bind fun p0 =>
 (AV.asI .i64 (xs.getD 1 .u)).bind fun n1 =>
 (k134 [(.p p0), (.i .i64 n1)] σ).bind fun r2 =>
 (AV.asTup 2 r2.1).bind fun c3 =>
 (AV.asI .u64 (c3.getD 0 .u)).bind fun n4 =>
 (AV.asB (c3.getD 1 .u)).bind fun b5 =>
 ((bif ((!b5) == false) then
 some ([(.b (((ibits .and .u64 n4 1) : Int) == 0))], r2.2)
 else some ([(.b true)], r2.2)) : Option (List AV × AH O)).bind fun r6 =>
 (AV.asB (r6.1.getD 0 .u)).bind fun b7 =>
 (bif b7 then
 some ((.i .i64 4), r6.2)
 else Option.bind p0 fun q8 =>
 (r6.2.ld q8.1 q8.2).bind fun w9 =>
 (AV.asP w9).bind fun p10 =>
 Option.bind p0 fun q11 =>
 (r6.2.ld q11.1 (q11.2 + 1)).bind fun w12 =>
 (AV.asI .i64 w12).bind fun n13 =>
 let v14 : Int := (IntKind.u64.wrap ((IntKind.u64.wrap ((Int.fdiv n4 (2 ^ 1)) + 1)) * 2 ^ 1))
 (k133 [(.p p0), (.i .i64 n1), (.i .i64 (-1))] r6.2).bind fun r15 =>
 (AV.asI .i64 r15.1).bind fun n16 =>
 (chk (r15.2.ld q8.1 q8.2 = some (.p p10))).bind fun _ =>
 (chk (r15.2.ld q11.1 (q11.2 + 1) = some (.i .i64 n13))).bind fun _ =>
 (k43 [(.p p10), (.i .i64 n13), (.i .i64 n16), (.i .u64 v14)] r15.2).bind fun r17 =>
 (AV.asI .i64 r17.1).bind fun n18 =>
 Option.bind p0 fun q19 =>
 (r17.2.ld q19.1 q19.2).bind fun w20 =>
 (AV.asP w20).bind fun p21 =>
 Option.bind p0 fun q22 =>
 (r17.2.ld q22.1 (q22.2 + 1)).bind fun w23 =>
 (AV.asI .i64 w23).bind fun n24 =>
 Option.bind p0 fun q25 =>
 (r17.2.ld q25.1 (q25.2 + 5)).bind fun w26 =>
 (AV.asI .i64 w26).bind fun n27 =>
 (k133 [(.p p0), (.i .i64 n1), (.i .i64 0)] r17.2).bind fun r28 =>
 (AV.asI .i64 r28.1).bind fun n29 =>
 (chk (r28.2.ld q19.1 q19.2 = some (.p p21))).bind fun _ =>
 (chk (r28.2.ld q22.1 (q22.2 + 1) = some (.i .i64 n24))).bind fun _ =>
 (chk (r28.2.ld q25.1 (q25.2 + 5) = some (.i .i64 n27))).bind fun _ =>
 (k43 [(.p p21), (.i .i64 n24), (.i .i64 n29), (.i .u64 (IntKind.u64.wrap n27))] r28.2).bind fun r30 =>
 (AV.asI .i64 r30.1).bind fun n31 =>
 Option.bind p0 fun q32 =>
 (r30.2.st q32.1 (q32.2 + 5) [(.i .i64 n1)]).bind fun σ33 =>
 Option.bind p0 fun q34 =>
 (σ33.ld q34.1 (q34.2 + 6)).bind fun w35 =>
 (AV.asI .i64 w35).bind fun n36 =>
 Option.bind p0 fun q37 =>
 (σ33.st q37.1 (q37.2 + 6) [(.i .i64 (IntKind.i64.wrap (n36 - 1)))]).bind fun σ38 =>
 some ((.i .i64 0), σ38))
 else none
noncomputable def pool_Pool__Give {O : Type} : Sm O := pool_Pool__Give_c pool_Pool__look pool_Pool__at mem_Mem__Write
theorem pool_Pool__Give_ent : Entered Try.prog 72 := Try.call72
theorem pool_Pool__Give_run {O : Type} (k134 k133 k43 : Sm O) : run (O := O) Try.prog [(134, k134), (133, k133), (43, k43)] Try.f72 (.n .z (.n .z (.n (.n (.g [(2, 3, [(19, .one .b)])]) (.n .z .z)) (.n (.d [] [0, 1, 2, 3, 4, 5, 6, 7, 8, 9, 11, 12, 13, 14, 10, 15] [0, 1, 3, 7, 0, 16, 48, 112, 0, 0, 768, 0, 2048, 6144, 14336, 32767]) (.n (.d [] [0, 1, 2, 3, 4, 5, 6, 7, 8, 9, 11, 12, 13, 14, 15, 10, 16] [0, 1, 3, 7, 0, 16, 48, 112, 0, 0, 768, 0, 2048, 6144, 14336, 30720, 65535]) (.n .z (.n .z .z))))))) = pool_Pool__Give_c k134 k133 k43 := by kernel_rfl
theorem pool_Pool__Give_sound {O : Type} {RO : O → Loc → (Nat → Option Obj) → Prop} : FSound RO Try.prog 72 (pool_Pool__Give) :=
   have h : FSound RO Try.prog 72 (pool_Pool__Give_c pool_Pool__look pool_Pool__at mem_Mem__Write) := (pool_Pool__Give_run pool_Pool__look pool_Pool__at mem_Mem__Write) ▸ run_sound (gcons pool_Pool__look_ent (pool_Pool__look_sound) <| gcons pool_Pool__at_ent (pool_Pool__at_sound) <| gcons mem_Mem__Write_ent (mem_Mem__Write_sound) <| gnil) mixed Try.func72 (by kernel_rfl) _
   h

/-- (*haymow/pool.Pool).Gen -/
noncomputable def pool_Pool__Gen_c {O : Type} (k134 : Sm O) : Sm O := fun xs σ =>
 bif Nat.beq xs.length 2 then
 (AV.asP (xs.getD 0 .u)).bind fun p0 =>
 (AV.asI .i64 (xs.getD 1 .u)).bind fun n1 =>
 (k134 [(.p p0), (.i .i64 n1)] σ).bind fun r2 =>
 (AV.asTup 2 r2.1).bind fun c3 =>
 (AV.asI .u64 (c3.getD 0 .u)).bind fun n4 =>
 (AV.asB (c3.getD 1 .u)).bind fun b5 =>
 some ((.i .i64 (IntKind.i64.wrap (Int.fdiv n4 (2 ^ 1)))), r2.2)
 else none
noncomputable def pool_Pool__Gen {O : Type} : Sm O := pool_Pool__Gen_c pool_Pool__look
theorem pool_Pool__Gen_ent : Entered Try.prog 75 := Try.call75
theorem pool_Pool__Gen_run {O : Type} (k134 : Sm O) : run (O := O) Try.prog [(134, k134)] Try.f75 (.n .z (.n .z .z)) = pool_Pool__Gen_c k134 := by kernel_rfl
theorem pool_Pool__Gen_sound {O : Type} {RO : O → Loc → (Nat → Option Obj) → Prop} : FSound RO Try.prog 75 (pool_Pool__Gen) :=
   have h : FSound RO Try.prog 75 (pool_Pool__Gen_c pool_Pool__look) := (pool_Pool__Gen_run pool_Pool__look) ▸ run_sound (gcons pool_Pool__look_ent (pool_Pool__look_sound) <| gnil) mixed Try.func75 (by kernel_rfl) _
   h

/-- (*haymow/pool.Pool).Taken -/
noncomputable def pool_Pool__Taken_c {O : Type} (k134 : Sm O) : Sm O := fun xs σ =>
 bif Nat.beq xs.length 2 then
 (AV.asP (xs.getD 0 .u)).bind fun p0 =>
 (AV.asI .i64 (xs.getD 1 .u)).bind fun n1 =>
 (k134 [(.p p0), (.i .i64 n1)] σ).bind fun r2 =>
 (AV.asTup 2 r2.1).bind fun c3 =>
 (AV.asI .u64 (c3.getD 0 .u)).bind fun n4 =>
 (AV.asB (c3.getD 1 .u)).bind fun b5 =>
 ((bif (b5 == true) then
 some ([(.b (((ibits .and .u64 n4 1) : Int) == 1))], r2.2)
 else some ([(.b false)], r2.2)) : Option (List AV × AH O)).bind fun r6 =>
 (AV.asB (r6.1.getD 0 .u)).bind fun b7 =>
 some ((.b b7), r6.2)
 else none
noncomputable def pool_Pool__Taken {O : Type} : Sm O := pool_Pool__Taken_c pool_Pool__look
theorem pool_Pool__Taken_ent : Entered Try.prog 85 := Try.call85
theorem pool_Pool__Taken_run {O : Type} (k134 : Sm O) : run (O := O) Try.prog [(134, k134)] Try.f85 (.n .z (.n .z (.n (.g [(1, 3, [(18, .one .b)])]) .z))) = pool_Pool__Taken_c k134 := by kernel_rfl
theorem pool_Pool__Taken_sound {O : Type} {RO : O → Loc → (Nat → Option Obj) → Prop} : FSound RO Try.prog 85 (pool_Pool__Taken) :=
   have h : FSound RO Try.prog 85 (pool_Pool__Taken_c pool_Pool__look) := (pool_Pool__Taken_run pool_Pool__look) ▸ run_sound (gcons pool_Pool__look_ent (pool_Pool__look_sound) <| gnil) mixed Try.func85 (by kernel_rfl) _
   h

/-- haymow/haymowlaw10.awake -/
noncomputable def law10_awake_c {O : Type} (k70 k73 k72 k75 k85 : Sm O) : Sm O := fun xs σ =>
 bif Nat.beq xs.length 0 then
 (k70 [(.i .i64 2)] σ).bind fun r0 =>
 (AV.asTup 3 r0.1).bind fun c1 =>
 (AV.asP (c1.getD 0 .u)).bind fun p2 =>
 (AV.asP (c1.getD 1 .u)).bind fun p3 =>
 (AV.asB (c1.getD 2 .u)).bind fun b4 =>
 (bif (!b4) then
 some ((.b false), r0.2)
 else (k73 [(.p p3)] r0.2).bind fun r5 =>
 (AV.asTup 2 r5.1).bind fun c6 =>
 (AV.asI .i64 (c6.getD 0 .u)).bind fun n7 =>
 (AV.asI .i64 (c6.getD 1 .u)).bind fun n8 =>
 (k73 [(.p p3)] r5.2).bind fun r9 =>
 (AV.asTup 2 r9.1).bind fun c10 =>
 (AV.asI .i64 (c10.getD 0 .u)).bind fun n11 =>
 (AV.asI .i64 (c10.getD 1 .u)).bind fun n12 =>
 (k72 [(.p p3), (.i .i64 1)] r9.2).bind fun r13 =>
 (AV.asI .i64 r13.1).bind fun n14 =>
 (k72 [(.p p3), (.i .i64 2)] r13.2).bind fun r15 =>
 (AV.asI .i64 r15.1).bind fun n16 =>
 (k73 [(.p p3)] r15.2).bind fun r17 =>
 (AV.asTup 2 r17.1).bind fun c18 =>
 (AV.asI .i64 (c18.getD 0 .u)).bind fun n19 =>
 (AV.asI .i64 (c18.getD 1 .u)).bind fun n20 =>
 ((bif (((n7 : Int) == 1) == true) then
 some ([(.b ((n11 : Int) == 2))], r17.2)
 else some ([(.b false)], r17.2)) : Option (List AV × AH O)).bind fun r21 =>
 (AV.asB (r21.1.getD 0 .u)).bind fun b22 =>
 ((bif (b22 == true) then
 some ([(.b ((n14 : Int) == 0))], r21.2)
 else some ([(.b false)], r21.2)) : Option (List AV × AH O)).bind fun r23 =>
 (AV.asB (r23.1.getD 0 .u)).bind fun b24 =>
 ((bif (b24 == true) then
 some ([(.b ((n16 : Int) == 0))], r23.2)
 else some ([(.b false)], r23.2)) : Option (List AV × AH O)).bind fun r25 =>
 (AV.asB (r25.1.getD 0 .u)).bind fun b26 =>
 ((bif (b26 == true) then
 some ([(.b ((n19 : Int) == 2))], r25.2)
 else some ([(.b false)], r25.2)) : Option (List AV × AH O)).bind fun r27 =>
 (AV.asB (r27.1.getD 0 .u)).bind fun b28 =>
 ((bif (b28 == true) then
 some ([(.b ((n20 : Int) == 0))], r27.2)
 else some ([(.b false)], r27.2)) : Option (List AV × AH O)).bind fun r29 =>
 (AV.asB (r29.1.getD 0 .u)).bind fun b30 =>
 ((bif (b30 == true) then
 (k75 [(.p p3), (.i .i64 2)] r29.2).bind fun r31 =>
 (AV.asI .i64 r31.1).bind fun n32 =>
 some ([(.b ((n32 : Int) == 1))], r31.2)
 else some ([(.b false)], r29.2)) : Option (List AV × AH O)).bind fun r33 =>
 (AV.asB (r33.1.getD 0 .u)).bind fun b34 =>
 ((bif (b34 == true) then
 (k85 [(.p p3), (.i .i64 2)] r33.2).bind fun r35 =>
 (AV.asB r35.1).bind fun b36 =>
 some ([(.b b36)], r35.2)
 else some ([(.b false)], r33.2)) : Option (List AV × AH O)).bind fun r37 =>
 (AV.asB (r37.1.getD 0 .u)).bind fun b38 =>
 ((bif (b38 == true) then
 (k85 [(.p p3), (.i .i64 1)] r37.2).bind fun r39 =>
 (AV.asB r39.1).bind fun b40 =>
 some ([(.b (!b40))], r39.2)
 else some ([(.b false)], r37.2)) : Option (List AV × AH O)).bind fun r41 =>
 (AV.asB (r41.1.getD 0 .u)).bind fun b42 =>
 some ((.b b42), r41.2))
 else none
noncomputable def law10_awake {O : Type} : Sm O := law10_awake_c law10_made pool_Pool__Take pool_Pool__Give pool_Pool__Gen pool_Pool__Taken
theorem law10_awake_ent : Entered Try.prog 68 := Try.call68
theorem law10_awake_run {O : Type} (k70 k73 k72 k75 k85 : Sm O) : run (O := O) Try.prog [(70, k70), (73, k73), (72, k72), (75, k75), (85, k85)] Try.f68 (.n .z (.n .z (.n (.n .z (.n .z .z)) (.n .z (.n .z (.n .z (.n .z (.n .z (.n (.g [(2, 2, [(43, .one .b)]), (6, 2, [(47, .one .b)]), (10, 2, [(51, .one .b)]), (14, 2, [(55, .one .b)]), (18, 2, [(59, .one .b)]), (22, 3, [(64, .one .b)]), (27, 2, [(68, .one .b)]), (31, 3, [(73, .one .b)])]) .z))))))))) = law10_awake_c k70 k73 k72 k75 k85 := by kernel_rfl
theorem law10_awake_sound {O : Type} {RO : O → Loc → (Nat → Option Obj) → Prop} : FSound RO Try.prog 68 (law10_awake) :=
   have h : FSound RO Try.prog 68 (law10_awake_c law10_made pool_Pool__Take pool_Pool__Give pool_Pool__Gen pool_Pool__Taken) := (law10_awake_run law10_made pool_Pool__Take pool_Pool__Give pool_Pool__Gen pool_Pool__Taken) ▸ run_sound (gcons law10_made_ent (law10_made_sound) <| gcons pool_Pool__Take_ent (pool_Pool__Take_sound) <| gcons pool_Pool__Give_ent (pool_Pool__Give_sound) <| gcons pool_Pool__Gen_ent (pool_Pool__Gen_sound) <| gcons pool_Pool__Taken_ent (pool_Pool__Taken_sound) <| gnil) mixed Try.func68 (by kernel_rfl) _
   h

/-- haymow/haymowlaw10.few -/
noncomputable def law10_few_c {O : Type} : Sm O := fun xs σ =>
 bif Nat.beq xs.length 1 then
 (AV.asSl (xs.getD 0 .u)).bind fun l0 =>
 some ((.b (decide ((l0.2 : Int) ≤ 80))), σ)
 else none
noncomputable def law10_few {O : Type} : Sm O := law10_few_c
theorem law10_few_ent : Entered Try.prog 69 := Try.call69
theorem law10_few_run {O : Type} : run (O := O) Try.prog [] Try.f69 (.n .z .z) = law10_few_c  := by kernel_rfl
theorem law10_few_sound {O : Type} {RO : O → Loc → (Nat → Option Obj) → Prop} : FSound RO Try.prog 69 (law10_few) :=
   have h : FSound RO Try.prog 69 (law10_few_c) := (law10_few_run) ▸ run_sound (gnil) mixed Try.func69 (by kernel_rfl) _
   h

/-- (*haymow/pool.Pool).check -/
noncomputable def pool_Pool__check_c {O : Type} (k85 : Sm O) : Sm O := fun xs σ =>
 bif Nat.beq xs.length 3 then
 (AV.asP (xs.getD 0 .u)).bind fun p0 =>
 (AV.asI .i64 (xs.getD 1 .u)).bind fun n1 =>
 (AV.asI .i64 (xs.getD 2 .u)).bind fun n2 =>
 (k85 [(.p p0), (.i .i64 n1)] σ).bind fun r3 =>
 (AV.asB r3.1).bind fun b4 =>
 (bif (!b4) then
 some ((.i .i64 4), r3.2)
 else ((bif ((decide (n2 < 0)) == false) then
 Option.bind p0 fun q5 =>
 (r3.2.ld q5.1 (q5.2 + 2)).bind fun w6 =>
 (AV.asI .i64 w6).bind fun n7 =>
 some ([(.b (decide (n2 ≥ n7)))], r3.2)
 else some ([(.b true)], r3.2)) : Option (List AV × AH O)).bind fun r8 =>
 (AV.asB (r8.1.getD 0 .u)).bind fun b9 =>
 (bif b9 then
 some ((.i .i64 32), r8.2)
 else some ((.i .i64 0), r8.2)))
 else none
noncomputable def pool_Pool__check {O : Type} : Sm O := pool_Pool__check_c pool_Pool__Taken
theorem pool_Pool__check_ent : Entered Try.prog 132 := Try.call132
theorem pool_Pool__check_run {O : Type} (k85 : Sm O) : run (O := O) Try.prog [(85, k85)] Try.f132 (.n .z (.n (.n (.n .z (.n .z (.n (.g [(2, 6, [(22, .one .b)])]) (.n .z .z)))) .z) .z)) = pool_Pool__check_c k85 := by kernel_rfl
theorem pool_Pool__check_sound {O : Type} {RO : O → Loc → (Nat → Option Obj) → Prop} : FSound RO Try.prog 132 (pool_Pool__check) :=
   have h : FSound RO Try.prog 132 (pool_Pool__check_c pool_Pool__Taken) := (pool_Pool__check_run pool_Pool__Taken) ▸ run_sound (gcons pool_Pool__Taken_ent (pool_Pool__Taken_sound) <| gnil) mixed Try.func132 (by kernel_rfl) _
   h

/-- (*haymow/pool.Pool).Set -/
noncomputable def pool_Pool__Set_c {O : Type} (k132 k133 k43 : Sm O) : Sm O := fun xs σ =>
 bif Nat.beq xs.length 4 then
 (AV.asP (xs.getD 0 .u)).bind fun p0 =>
 (AV.asI .i64 (xs.getD 1 .u)).bind fun n1 =>
 (AV.asI .i64 (xs.getD 2 .u)).bind fun n2 =>
 (AV.asI .u64 (xs.getD 3 .u)).bind fun n3 =>
 (k132 [(.p p0), (.i .i64 n1), (.i .i64 n2)] σ).bind fun r4 =>
 (AV.asI .i64 r4.1).bind fun n5 =>
 (bif ((n5 : Int) != 0) then
 some ((.i .i64 n5), r4.2)
 else Option.bind p0 fun q6 =>
 (r4.2.ld q6.1 q6.2).bind fun w7 =>
 (AV.asP w7).bind fun p8 =>
 Option.bind p0 fun q9 =>
 (r4.2.ld q9.1 (q9.2 + 1)).bind fun w10 =>
 (AV.asI .i64 w10).bind fun n11 =>
 (k133 [(.p p0), (.i .i64 n1), (.i .i64 n2)] r4.2).bind fun r12 =>
 (AV.asI .i64 r12.1).bind fun n13 =>
 (chk (r12.2.ld q6.1 q6.2 = some (.p p8))).bind fun _ =>
 (chk (r12.2.ld q9.1 (q9.2 + 1) = some (.i .i64 n11))).bind fun _ =>
 (k43 [(.p p8), (.i .i64 n11), (.i .i64 n13), (.i .u64 n3)] r12.2).bind fun r14 =>
 (AV.asI .i64 r14.1).bind fun n15 =>
 some ((.i .i64 n15), r14.2))
 else none
noncomputable def pool_Pool__Set {O : Type} : Sm O := pool_Pool__Set_c pool_Pool__check pool_Pool__at mem_Mem__Write
theorem pool_Pool__Set_ent : Entered Try.prog 71 := Try.call71
theorem pool_Pool__Set_run {O : Type} (k132 k133 k43 : Sm O) : run (O := O) Try.prog [(132, k132), (133, k133), (43, k43)] Try.f71 (.n .z (.n (.n .z (.n .z (.n .z .z))) (.n (.d [] [0, 1, 2, 3, 4, 5, 6, 7, 8, 9, 10, 12, 11, 13, 14] [0, 1, 3, 7, 0, 16, 48, 112, 0, 0, 0, 1792, 0, 8191, 16383]) .z))) = pool_Pool__Set_c k132 k133 k43 := by kernel_rfl
theorem pool_Pool__Set_sound {O : Type} {RO : O → Loc → (Nat → Option Obj) → Prop} : FSound RO Try.prog 71 (pool_Pool__Set) :=
   have h : FSound RO Try.prog 71 (pool_Pool__Set_c pool_Pool__check pool_Pool__at mem_Mem__Write) := (pool_Pool__Set_run pool_Pool__check pool_Pool__at mem_Mem__Write) ▸ run_sound (gcons pool_Pool__check_ent (pool_Pool__check_sound) <| gcons pool_Pool__at_ent (pool_Pool__at_sound) <| gcons mem_Mem__Write_ent (mem_Mem__Write_sound) <| gnil) mixed Try.func71 (by kernel_rfl) _
   h

/-- (*haymow/pool.Pool).Get -/
noncomputable def pool_Pool__Get_c {O : Type} (k132 k133 k47 : Sm O) : Sm O := fun xs σ =>
 bif Nat.beq xs.length 3 then
 (AV.asP (xs.getD 0 .u)).bind fun p0 =>
 (AV.asI .i64 (xs.getD 1 .u)).bind fun n1 =>
 (AV.asI .i64 (xs.getD 2 .u)).bind fun n2 =>
 (k132 [(.p p0), (.i .i64 n1), (.i .i64 n2)] σ).bind fun r3 =>
 (AV.asI .i64 r3.1).bind fun n4 =>
 (bif ((n4 : Int) != 0) then
 some ((.tup [(.i .u64 0), (.i .i64 n4)]), r3.2)
 else Option.bind p0 fun q5 =>
 (r3.2.ld q5.1 q5.2).bind fun w6 =>
 (AV.asP w6).bind fun p7 =>
 Option.bind p0 fun q8 =>
 (r3.2.ld q8.1 (q8.2 + 1)).bind fun w9 =>
 (AV.asI .i64 w9).bind fun n10 =>
 (k133 [(.p p0), (.i .i64 n1), (.i .i64 n2)] r3.2).bind fun r11 =>
 (AV.asI .i64 r11.1).bind fun n12 =>
 (chk (r11.2.ld q5.1 q5.2 = some (.p p7))).bind fun _ =>
 (chk (r11.2.ld q8.1 (q8.2 + 1) = some (.i .i64 n10))).bind fun _ =>
 (k47 [(.p p7), (.i .i64 n10), (.i .i64 n12)] r11.2).bind fun r13 =>
 (AV.asTup 2 r13.1).bind fun c14 =>
 (AV.asI .u64 (c14.getD 0 .u)).bind fun n15 =>
 (AV.asI .i64 (c14.getD 1 .u)).bind fun n16 =>
 some ((.tup [(.i .u64 n15), (.i .i64 n16)]), r13.2))
 else none
noncomputable def pool_Pool__Get {O : Type} : Sm O := pool_Pool__Get_c pool_Pool__check pool_Pool__at mem_Mem__Read
theorem pool_Pool__Get_ent : Entered Try.prog 74 := Try.call74
theorem pool_Pool__Get_run {O : Type} (k132 k133 k47 : Sm O) : run (O := O) Try.prog [(132, k132), (133, k133), (47, k47)] Try.f74 (.n .z (.n (.n .z (.n .z (.n .z .z))) (.n (.d [] [0, 1, 2, 3, 4, 5, 6, 7, 8, 9, 10, 11, 12, 13, 14, 15, 16] [0, 1, 3, 7, 0, 16, 48, 112, 0, 0, 0, 1792, 4095, 8191, 8191, 32767, 65535]) .z))) = pool_Pool__Get_c k132 k133 k47 := by kernel_rfl
theorem pool_Pool__Get_sound {O : Type} {RO : O → Loc → (Nat → Option Obj) → Prop} : FSound RO Try.prog 74 (pool_Pool__Get) :=
   have h : FSound RO Try.prog 74 (pool_Pool__Get_c pool_Pool__check pool_Pool__at mem_Mem__Read) := (pool_Pool__Get_run pool_Pool__check pool_Pool__at mem_Mem__Read) ▸ run_sound (gcons pool_Pool__check_ent (pool_Pool__check_sound) <| gcons pool_Pool__at_ent (pool_Pool__at_sound) <| gcons mem_Mem__Read_ent (mem_Mem__Read_sound) <| gnil) mixed Try.func74 (by kernel_rfl) _
   h

/-- (*haymow/pool.Pool).Count -/
noncomputable def pool_Pool__Count_c {O : Type} : Sm O := fun xs σ =>
 bif Nat.beq xs.length 1 then
 (AV.asP (xs.getD 0 .u)).bind fun p0 =>
 Option.bind p0 fun q1 =>
 (σ.ld q1.1 (q1.2 + 6)).bind fun w2 =>
 (AV.asI .i64 w2).bind fun n3 =>
 some ((.i .i64 n3), σ)
 else none
noncomputable def pool_Pool__Count {O : Type} : Sm O := pool_Pool__Count_c
theorem pool_Pool__Count_ent : Entered Try.prog 76 := Try.call76
theorem pool_Pool__Count_run {O : Type} : run (O := O) Try.prog [] Try.f76 (.n .z .z) = pool_Pool__Count_c  := by kernel_rfl
theorem pool_Pool__Count_sound {O : Type} {RO : O → Loc → (Nat → Option Obj) → Prop} : FSound RO Try.prog 76 (pool_Pool__Count) :=
   have h : FSound RO Try.prog 76 (pool_Pool__Count_c) := (pool_Pool__Count_run) ▸ run_sound (gnil) mixed Try.func76 (by kernel_rfl) _
   h

/-- haymow/haymowlaw10.PoolFresh -/
noncomputable def law10_PoolFresh_L3 {O : Type} (l12 : SA × Nat) (r65 : List AV × AH O) : List AV × AH O → Option ((List AV × AH O) ⊕ ((List AV × AH O) ⊕ ((List AV × AH O) ⊕ ((List AV × AH O) ⊕ ((List AV × AH O) ⊕ (AV × AH O)))))) := (fun r78 =>
 (AV.asI .i64 (r78.1.getD 0 .u)).bind fun n79 =>
 (bif (decide (n79 < (l12.2 : Int))) then
 (bif ((decide ((0 : Int) ≤ n79)) && (decide (n79 < (l12.2 : Int)))) then
 (SA.ref l12.1).bind fun q80 =>
 (r78.2.ld q80.1 (q80.2 + (n79.toNat * 2))).bind fun w81 =>
 (AV.asI .i64 w81).bind fun n82 =>
 (r78.2.ld q80.1 ((q80.2 + (n79.toNat * 2)) + 1)).bind fun w83 =>
 (AV.asI .i64 w83).bind fun n84 =>
 (r78.2.ld (.n r65.2.next) 0).bind fun w85 =>
 (AV.asI .i64 w85).bind fun n86 =>
 (r78.2.ld (.n r65.2.next) 1).bind fun w87 =>
 (AV.asI .i64 w87).bind fun n88 =>
 (bif (((n82 : Int) == n86) && (((n84 : Int) == n88) && true)) then
 ((((((some ((.b false), r78.2) : Option (AV × AH O)).map fun r => Sum.inr (Sum.inr r)) : Option ((List AV × AH O) ⊕ ((List AV × AH O) ⊕ (AV × AH O)))).map Sum.inr) : Option ((List AV × AH O) ⊕ ((List AV × AH O) ⊕ ((List AV × AH O) ⊕ (AV × AH O))))).map fun r => Sum.inr (Sum.inr r))
 else some (Sum.inl ([(.i .i64 (IntKind.i64.wrap (n79 + 1)))], r78.2)))
 else none)
 else some (Sum.inr (Sum.inl ([], r78.2)))))
noncomputable def law10_PoolFresh_L2 {O : Type} (l11 : SA × Nat) (n49 : Int) : List AV × AH O → Option ((List AV × AH O) ⊕ ((List AV × AH O) ⊕ ((List AV × AH O) ⊕ ((List AV × AH O) ⊕ ((List AV × AH O) ⊕ (AV × AH O)))))) := (fun r72 =>
 (AV.asI .i64 (r72.1.getD 0 .u)).bind fun n73 =>
 (bif (decide (n73 < (l11.2 : Int))) then
 (bif ((decide ((0 : Int) ≤ n73)) && (decide (n73 < (l11.2 : Int)))) then
 (SA.ref l11.1).bind fun q74 =>
 (r72.2.ld q74.1 (q74.2 + (n73.toNat * 2))).bind fun w75 =>
 (AV.asI .i64 w75).bind fun n76 =>
 (bif ((n76 : Int) == n49) then
 ((((((some ((.b false), r72.2) : Option (AV × AH O)).map fun r => Sum.inr (Sum.inr r)) : Option ((List AV × AH O) ⊕ ((List AV × AH O) ⊕ (AV × AH O)))).map Sum.inr) : Option ((List AV × AH O) ⊕ ((List AV × AH O) ⊕ ((List AV × AH O) ⊕ (AV × AH O))))).map fun r => Sum.inr (Sum.inr r))
 else some (Sum.inl ([(.i .i64 (IntKind.i64.wrap (n73 + 1)))], r72.2)))
 else none)
 else some (Sum.inr (Sum.inl ([], r72.2)))))
noncomputable def law10_PoolFresh_L1 {O : Type} (l0 : SA × Nat) (k71 : Sm O) (p8 : Option (Bid × Nat)) (k72 : Sm O) (k73 : Sm O) (k74 : Sm O) (k75 : Sm O) : List AV × AH O → Option ((List AV × AH O) ⊕ ((List AV × AH O) ⊕ (AV × AH O))) := (fun r10 =>
 (AV.asSl (r10.1.getD 0 .u)).bind fun l11 =>
 (AV.asSl (r10.1.getD 1 .u)).bind fun l12 =>
 (AV.asI .i64 (r10.1.getD 2 .u)).bind fun n13 =>
 (bif (decide (n13 < (l0.2 : Int))) then
 bindS (S := List AV × AH O) (R := ((List AV × AH O) ⊕ ((List AV × AH O) ⊕ (AV × AH O)))) ((bif ((decide ((0 : Int) ≤ n13)) && (decide (n13 < (l0.2 : Int)))) then
 (SA.ref l0.1).bind fun q14 =>
 (r10.2.ld q14.1 (q14.2 + (n13.toNat * 4))).bind fun w15 =>
 (AV.asI .i64 w15).bind fun n16 =>
 ((bif (((n16 : Int) != 0) == true) then
 some ([(.b (decide ((l11.2 : Int) > 0)))], r10.2)
 else some ([(.b false)], r10.2)) : Option (List AV × AH O)).bind fun r17 =>
 (AV.asB (r17.1.getD 0 .u)).bind fun b18 =>
 (bif b18 then
 (bif ((decide ((0 : Int) ≤ n13)) && (decide (n13 < (l0.2 : Int)))) then
 (SA.ref l0.1).bind fun q19 =>
 (r17.2.ld q19.1 ((q19.2 + (n13.toNat * 4)) + 1)).bind fun w20 =>
 (AV.asI .i64 w20).bind fun n21 =>
 (bif ((l11.2 : Int) == 0) then
 none
 else let v22 : Int := (IntKind.i64.wrap ((Int.tmod n21 (l11.2 : Int)) + (l11.2 : Int)))
 (bif ((l11.2 : Int) == 0) then
 none
 else (bif ((decide ((0 : Int) ≤ (Int.tmod v22 (l11.2 : Int)))) && (decide ((Int.tmod v22 (l11.2 : Int)) < (l11.2 : Int)))) then
 (SA.ref l11.1).bind fun q23 =>
 (r17.2.ld q23.1 (q23.2 + ((Int.tmod v22 (l11.2 : Int)).toNat * 2))).bind fun w24 =>
 (AV.asI .i64 w24).bind fun n25 =>
 (bif ((decide ((0 : Int) ≤ n13)) && (decide (n13 < (l0.2 : Int)))) then
 (SA.ref l0.1).bind fun q26 =>
 (r17.2.ld q26.1 ((q26.2 + (n13.toNat * 4)) + 3)).bind fun w27 =>
 (AV.asI .u64 w27).bind fun n28 =>
 (k71 [(.p p8), (.i .i64 n25), (.i .i64 0), (.i .u64 n28)] r17.2).bind fun r29 =>
 (AV.asI .i64 r29.1).bind fun n30 =>
 (bif ((decide ((0 : Int) ≤ (Int.tmod v22 (l11.2 : Int)))) && (decide ((Int.tmod v22 (l11.2 : Int)) < (l11.2 : Int)))) then
 (SA.ref l11.1).bind fun q31 =>
 (r29.2.ld q31.1 (q31.2 + ((Int.tmod v22 (l11.2 : Int)).toNat * 2))).bind fun w32 =>
 (AV.asI .i64 w32).bind fun n33 =>
 (k72 [(.p p8), (.i .i64 n33)] r29.2).bind fun r34 =>
 (AV.asI .i64 r34.1).bind fun n35 =>
 (bif ((n35 : Int) != 0) then
 ((((some ((.b false), r34.2) : Option (AV × AH O)).map fun r => Sum.inr (Sum.inr r)) : Option ((List AV × AH O) ⊕ ((List AV × AH O) ⊕ (AV × AH O)))).map Sum.inr)
 else let σ36 := r34.2.bump 3
 (bif ((decide ((0 : Int) ≤ (Int.tmod v22 (l11.2 : Int)))) && (decide ((Int.tmod v22 (l11.2 : Int)) ≤ (l11.2 : Int)))) then
 (SA.adv l11.1 0 2).bind fun a37 =>
 let v38 : Int := (IntKind.i64.wrap ((Int.tmod v22 (l11.2 : Int)) + 1))
 (bif (((decide ((0 : Int) ≤ v38)) && (decide (v38 ≤ (l11.2 : Int)))) && (decide ((l11.2 : Int) ≤ (l11.2 : Int)))) then
 (SA.adv l11.1 v38.toNat 2).bind fun a39 =>
 let σ40 := σ36.put r34.2.next (.cells true 23 [])
 (σ40.rdSl a37 ((Int.tmod v22 (l11.2 : Int)).toNat - 0) 2).bind fun new41 =>
 (bif (Nat.ble ((0 + ((Int.tmod v22 (l11.2 : Int)).toNat - 0)) * 17) 35184372088832) then
 (σ40.appSl (r34.2.next + 1) 23 2 (.loc (.n r34.2.next) 0 2) 0 ((Int.tmod v22 (l11.2 : Int)).toNat - 0) new41).bind fun r42 =>
 (AV.asSl r42.1).bind fun l43 =>
 (r42.2.rdSl a39 ((l11.2 : Int).toNat - v38.toNat) 2).bind fun new44 =>
 (bif (Nat.ble ((l43.2 + ((l11.2 : Int).toNat - v38.toNat)) * 17) 35184372088832) then
 (r42.2.appSl ((r34.2.next + 1) + 1) 23 2 l43.1 l43.2 ((l11.2 : Int).toNat - v38.toNat) new44).bind fun r45 =>
 (AV.asSl r45.1).bind fun l46 =>
 some (Sum.inl ([(.sl l46.1 l46.2), (.sl l12.1 l12.2)], r45.2))
 else none)
 else none)
 else none)
 else none))
 else none)
 else none)
 else none)))
 else none)
 else (k73 [(.p p8)] r17.2).bind fun r47 =>
 (AV.asTup 2 r47.1).bind fun c48 =>
 (AV.asI .i64 (c48.getD 0 .u)).bind fun n49 =>
 (AV.asI .i64 (c48.getD 1 .u)).bind fun n50 =>
 (k74 [(.p p8), (.i .i64 n49), (.i .i64 0)] r47.2).bind fun r51 =>
 (AV.asTup 2 r51.1).bind fun c52 =>
 (AV.asI .u64 (c52.getD 0 .u)).bind fun n53 =>
 (AV.asI .i64 (c52.getD 1 .u)).bind fun n54 =>
 (k74 [(.p p8), (.i .i64 n49), (.i .i64 1)] r51.2).bind fun r55 =>
 (AV.asTup 2 r55.1).bind fun c56 =>
 (AV.asI .u64 (c56.getD 0 .u)).bind fun n57 =>
 (AV.asI .i64 (c56.getD 1 .u)).bind fun n58 =>
 ((bif (((n50 : Int) != 0) == false) then
 some ([(.b ((n54 : Int) != 0))], r55.2)
 else some ([(.b true)], r55.2)) : Option (List AV × AH O)).bind fun r59 =>
 (AV.asB (r59.1.getD 0 .u)).bind fun b60 =>
 ((bif (b60 == false) then
 some ([(.b ((n58 : Int) != 0))], r59.2)
 else some ([(.b true)], r59.2)) : Option (List AV × AH O)).bind fun r61 =>
 (AV.asB (r61.1.getD 0 .u)).bind fun b62 =>
 ((bif (b62 == false) then
 some ([(.b ((n53 : Int) != 0))], r61.2)
 else some ([(.b true)], r61.2)) : Option (List AV × AH O)).bind fun r63 =>
 (AV.asB (r63.1.getD 0 .u)).bind fun b64 =>
 ((bif (b64 == false) then
 some ([(.b ((n57 : Int) != 0))], r63.2)
 else some ([(.b true)], r63.2)) : Option (List AV × AH O)).bind fun r65 =>
 (AV.asB (r65.1.getD 0 .u)).bind fun b66 =>
 (bif b66 then
 ((((some ((.b false), r65.2) : Option (AV × AH O)).map fun r => Sum.inr (Sum.inr r)) : Option ((List AV × AH O) ⊕ ((List AV × AH O) ⊕ (AV × AH O)))).map Sum.inr)
 else let σ67 := r65.2.bump 1
 (k75 [(.p p8), (.i .i64 n49)] σ67).bind fun r68 =>
 (AV.asI .i64 r68.1).bind fun n69 =>
 let σ70 := r68.2.put r65.2.next (.cells true 23 [(.i .i64 0), (.i .i64 0)])
 (σ70.st (.n r65.2.next) 0 [(.i .i64 n49), (.i .i64 n69)]).bind fun σ71 =>
 bindS (S := List AV × AH O) (R := ((List AV × AH O) ⊕ ((List AV × AH O) ⊕ ((List AV × AH O) ⊕ (AV × AH O))))) (loopF (S := List AV × AH O) (T := (List AV × AH O) ⊕ ((List AV × AH O) ⊕ ((List AV × AH O) ⊕ ((List AV × AH O) ⊕ (AV × AH O))))) (law10_PoolFresh_L2 l11 n49) ([(.i .i64 0)], σ71)) fun r77 =>
 bindS (S := List AV × AH O) (R := ((List AV × AH O) ⊕ ((List AV × AH O) ⊕ ((List AV × AH O) ⊕ (AV × AH O))))) (loopF (S := List AV × AH O) (T := (List AV × AH O) ⊕ ((List AV × AH O) ⊕ ((List AV × AH O) ⊕ ((List AV × AH O) ⊕ (AV × AH O))))) (law10_PoolFresh_L3 l12 r65) ([(.i .i64 0)], r77.2)) fun r89 =>
 let σ90 := r89.2.bump 2
 (σ90.ld (.n r65.2.next) 0).bind fun w91 =>
 (AV.asI .i64 w91).bind fun n92 =>
 (σ90.ld (.n r65.2.next) 1).bind fun w93 =>
 (AV.asI .i64 w93).bind fun n94 =>
 let σ95 := σ90.put r89.2.next (.cells true 23 [(.i .i64 n92), (.i .i64 n94)])
 (σ95.rdSl (.loc (.n r89.2.next) 0 2) 1 2).bind fun new96 =>
 (bif (Nat.ble ((l11.2 + 1) * 17) 35184372088832) then
 (σ95.appSl (r89.2.next + 1) 23 2 l11.1 l11.2 1 new96).bind fun r97 =>
 (AV.asSl r97.1).bind fun l98 =>
 let σ99 := r97.2.bump 2
 (σ99.ld (.n r65.2.next) 0).bind fun w100 =>
 (AV.asI .i64 w100).bind fun n101 =>
 (σ99.ld (.n r65.2.next) 1).bind fun w102 =>
 (AV.asI .i64 w102).bind fun n103 =>
 let σ104 := σ99.put r97.2.next (.cells true 23 [(.i .i64 n101), (.i .i64 n103)])
 (σ104.rdSl (.loc (.n r97.2.next) 0 2) 1 2).bind fun new105 =>
 (bif (Nat.ble ((l12.2 + 1) * 17) 35184372088832) then
 (σ104.appSl (r97.2.next + 1) 23 2 l12.1 l12.2 1 new105).bind fun r106 =>
 (AV.asSl r106.1).bind fun l107 =>
 (bif ((decide ((0 : Int) ≤ n13)) && (decide (n13 < (l0.2 : Int)))) then
 (SA.ref l0.1).bind fun q108 =>
 (r106.2.ld q108.1 ((q108.2 + (n13.toNat * 4)) + 3)).bind fun w109 =>
 (AV.asI .u64 w109).bind fun n110 =>
 (k71 [(.p p8), (.i .i64 n49), (.i .i64 1), (.i .u64 (IntKind.u64.wrap (1 + n110)))] r106.2).bind fun r111 =>
 (AV.asI .i64 r111.1).bind fun n112 =>
 some (Sum.inl ([(.sl l98.1 l98.2), (.sl l107.1 l107.2)], r111.2))
 else none)
 else none)
 else none)))
 else none)) fun r113 =>
 (AV.asSl (r113.1.getD 0 .u)).bind fun l114 =>
 (AV.asSl (r113.1.getD 1 .u)).bind fun l115 =>
 some (Sum.inl ([(.sl l114.1 l114.2), (.sl l115.1 l115.2), (.i .i64 (IntKind.i64.wrap (n13 + 1)))], r113.2))
 else some (Sum.inr (Sum.inl ([(.sl l11.1 l11.2)], r10.2)))))
noncomputable def law10_PoolFresh_c {O : Type} (k68 k69 k70 k71 k72 k73 k74 k75 k76 : Sm O) : Sm O := fun xs σ =>
 bif Nat.beq xs.length 1 then
 (AV.asSl (xs.getD 0 .u)).bind fun l0 =>
 (k68 [] σ).bind fun r1 =>
 (AV.asB r1.1).bind fun b2 =>
 (bif (!b2) then
 some ((.b false), r1.2)
 else (k69 [(.sl l0.1 l0.2)] r1.2).bind fun r3 =>
 (AV.asB r3.1).bind fun b4 =>
 (bif (!b4) then
 some ((.b true), r3.2)
 else (k70 [(.i .i64 2)] r3.2).bind fun r5 =>
 (AV.asTup 3 r5.1).bind fun c6 =>
 (AV.asP (c6.getD 0 .u)).bind fun p7 =>
 (AV.asP (c6.getD 1 .u)).bind fun p8 =>
 (AV.asB (c6.getD 2 .u)).bind fun b9 =>
 (bif (!b9) then
 some ((.b false), r5.2)
 else bindS (S := List AV × AH O) (R := (AV × AH O)) (loopF (S := List AV × AH O) (T := (List AV × AH O) ⊕ (AV × AH O)) (law10_PoolFresh_L1 l0 k71 p8 k72 k73 k74 k75) ([(.sl .nil 0), (.sl .nil 0), (.i .i64 0)], r5.2)) fun r116 =>
 (AV.asSl (r116.1.getD 0 .u)).bind fun l117 =>
 (k76 [(.p p8)] r116.2).bind fun r118 =>
 (AV.asI .i64 r118.1).bind fun n119 =>
 some ((.b ((n119 : Int) == (l117.2 : Int))), r118.2))))
 else none
noncomputable def law10_PoolFresh {O : Type} : Sm O := law10_PoolFresh_c law10_awake law10_few law10_made pool_Pool__Set pool_Pool__Give pool_Pool__Take pool_Pool__Get pool_Pool__Gen pool_Pool__Count
theorem law10_PoolFresh_ent : Entered Try.prog 11 := Try.call11
theorem law10_PoolFresh_run {O : Type} (k68 k69 k70 k71 k72 k73 k74 k75 k76 : Sm O) : run (O := O) Try.prog [(68, k68), (69, k69), (70, k70), (71, k71), (72, k72), (73, k73), (74, k74), (75, k75), (76, k76)] Try.f11 (.n .z (.n (.n .z (.n .z .z)) (.n (.n .z (.n .z .z)) (.n .z (.n (.n .z (.n .z .z)) (.n .z (.n (.n .z (.n (.lp true 0 [(6, .one .sl), (7, .one .sl), (8, .one (.i .i64))] [(6, .one .sl)] (.n (.n .z .z) (.n (.j true [(6, .one .sl), (7, .one .sl)] (.n (.n (.g [(6, 3, [(47, .one .b)])]) (.n (.n .z (.n (.d [] [0, 1, 2, 3, 4, 5, 6, 7, 8, 9, 10, 11] [0, 0, 0, 6, 14, 30, 0, 0, 192, 448, 960, 2047]) (.n (.n .z (.n .z .z)) (.n (.d [] [1, 2, 3, 5, 6, 7, 8, 0, 4, 9, 10] [0, 0, 0, 6, 15, 0, 0, 64, 224, 511, 1023]) .z)))) .z)) (.n .z (.n .z (.n .z (.n (.n (.g [(2, 2, [(114, .one .b)]), (6, 2, [(118, .one .b)]), (10, 2, [(122, .one .b)]), (14, 2, [(126, .one .b)])]) (.n .z .z)) (.n .z (.n (.n .z (.n (.lp true 2 [(17, .one (.i .i64))] [] (.n (.n .z .z) (.n (.n (.n .z (.n .z .z)) .z) .z))) .z)) (.n (.n .z (.n (.lp true 4 [(18, .one (.i .i64))] [] (.n (.n .z .z) (.n (.n (.n (.d [] [0, 1, 2, 3, 4, 5] [0, 0, 3, 7, 0, 31]) (.n .z .z)) .z) .z))) .z)) (.n .z .z))))))))) .z) .z))) .z)) .z))))))) = law10_PoolFresh_c k68 k69 k70 k71 k72 k73 k74 k75 k76 := by kernel_rfl
theorem law10_PoolFresh_sound {O : Type} {RO : O → Loc → (Nat → Option Obj) → Prop} : FSound RO Try.prog 11 (law10_PoolFresh) :=
   have h : FSound RO Try.prog 11 (law10_PoolFresh_c law10_awake law10_few law10_made pool_Pool__Set pool_Pool__Give pool_Pool__Take pool_Pool__Get pool_Pool__Gen pool_Pool__Count) := (law10_PoolFresh_run law10_awake law10_few law10_made pool_Pool__Set pool_Pool__Give pool_Pool__Take pool_Pool__Get pool_Pool__Gen pool_Pool__Count) ▸ run_sound (gcons law10_awake_ent (law10_awake_sound) <| gcons law10_few_ent (law10_few_sound) <| gcons law10_made_ent (law10_made_sound) <| gcons pool_Pool__Set_ent (pool_Pool__Set_sound) <| gcons pool_Pool__Give_ent (pool_Pool__Give_sound) <| gcons pool_Pool__Take_ent (pool_Pool__Take_sound) <| gcons pool_Pool__Get_ent (pool_Pool__Get_sound) <| gcons pool_Pool__Gen_ent (pool_Pool__Gen_sound) <| gcons pool_Pool__Count_ent (pool_Pool__Count_sound) <| gnil) mixed Try.func11 (by kernel_rfl) _
   h

/-- haymow/haymowref10.copied -/
noncomputable def haymowref10_copied_L1 {O : Type} (l14 : SA × Nat) : List AV × AH O → Option ((List AV × AH O) ⊕ (List AV × AH O)) := (fun r15 =>
 (AV.asI .i64 (r15.1.getD 0 .u)).bind fun n16 =>
 (bif (decide (n16 < (l14.2 : Int))) then
 let σ17 := r15.2.bump 2
 let σ18 := σ17.put r15.2.next (.cells true 22 [])
 (bif ((decide ((0 : Int) ≤ n16)) && (decide (n16 < (l14.2 : Int)))) then
 (SA.ref l14.1).bind fun q19 =>
 (σ18.ld q19.1 ((q19.2 + (n16.toNat * 3)) + 2)).bind fun w20 =>
 (AV.asSl w20).bind fun l21 =>
 (σ18.rdSl l21.1 l21.2 1).bind fun new22 =>
 (bif (Nat.ble ((0 + l21.2) * 9) 35184372088832) then
 (σ18.appSl (r15.2.next + 1) 22 1 (.loc (.n r15.2.next) 0 1) 0 l21.2 new22).bind fun r23 =>
 (AV.asSl r23.1).bind fun l24 =>
 (bif ((decide ((0 : Int) ≤ n16)) && (decide (n16 < (l14.2 : Int)))) then
 (SA.ref l14.1).bind fun q25 =>
 (r23.2.st q25.1 ((q25.2 + (n16.toNat * 3)) + 2) [(.sl l24.1 l24.2)]).bind fun σ26 =>
 some (Sum.inl ([(.i .i64 (IntKind.i64.wrap (n16 + 1)))], σ26))
 else none)
 else none)
 else none)
 else some (Sum.inr ([], r15.2))))
noncomputable def haymowref10_copied_c {O : Type} : Sm O := fun xs σ =>
 bif Nat.beq xs.length 1 then
 (AV.asAgg 4 (xs.getD 0 .u)).bind fun c0 =>
 (AV.asI .i64 (c0.getD 0 .u)).bind fun n1 =>
 (AV.asSl (c0.getD 1 .u)).bind fun l2 =>
 (AV.asSl (c0.getD 2 .u)).bind fun l3 =>
 (AV.asI .i64 (c0.getD 3 .u)).bind fun n4 =>
 let σ5 := σ.bump 2
 let σ6 := σ5.put σ.next (.cells true 123 [(.i .i64 n1), (.sl l2.1 l2.2), (.sl l3.1 l3.2), (.i .i64 n4)])
 let σ7 := σ6.put (σ.next + 1) (.cells true 123 [(.i .i64 0), (.sl .nil 0), (.sl .nil 0), (.i .i64 0)])
 let σ8 := σ7.bump 2
 let σ9 := σ8.put σ7.next (.cells true 130 [])
 (σ9.ld (.n σ.next) 1).bind fun w10 =>
 (AV.asSl w10).bind fun l11 =>
 (σ9.rdSl l11.1 l11.2 3).bind fun new12 =>
 (bif (Nat.ble ((0 + l11.2) * 41) 35184372088832) then
 (σ9.appSl (σ7.next + 1) 130 3 (.loc (.n σ7.next) 0 3) 0 l11.2 new12).bind fun r13 =>
 (AV.asSl r13.1).bind fun l14 =>
 (loopF (S := List AV × AH O) (T := List AV × AH O) (haymowref10_copied_L1 l14) ([(.i .i64 0)], r13.2)).bind fun r27 =>
 (r27.2.st (.n σ.next) 1 [(.sl l14.1 l14.2)]).bind fun σ28 =>
 let σ29 := σ28.bump 2
 let σ30 := σ29.put σ28.next (.cells true 3 [])
 (σ30.ld (.n σ.next) 2).bind fun w31 =>
 (AV.asSl w31).bind fun l32 =>
 (σ30.rdSl l32.1 l32.2 1).bind fun new33 =>
 (bif (Nat.ble ((0 + l32.2) * 9) 35184372088832) then
 (σ30.appSl (σ28.next + 1) 3 1 (.loc (.n σ28.next) 0 1) 0 l32.2 new33).bind fun r34 =>
 (AV.asSl r34.1).bind fun l35 =>
 (r34.2.st (.n σ.next) 2 [(.sl l35.1 l35.2)]).bind fun σ36 =>
 (σ36.ld (.n σ.next) 0).bind fun w37 =>
 (AV.asI .i64 w37).bind fun n38 =>
 (σ36.ld (.n σ.next) 1).bind fun w39 =>
 (AV.asSl w39).bind fun l40 =>
 (σ36.ld (.n σ.next) 2).bind fun w41 =>
 (AV.asSl w41).bind fun l42 =>
 (σ36.ld (.n σ.next) 3).bind fun w43 =>
 (AV.asI .i64 w43).bind fun n44 =>
 (σ36.st (.n (σ.next + 1)) 0 [(.i .i64 n38), (.sl l40.1 l40.2), (.sl l42.1 l42.2), (.i .i64 n44)]).bind fun σ45 =>
 (σ45.ld (.n (σ.next + 1)) 0).bind fun w46 =>
 (AV.asI .i64 w46).bind fun n47 =>
 (σ45.ld (.n (σ.next + 1)) 1).bind fun w48 =>
 (AV.asSl w48).bind fun l49 =>
 (σ45.ld (.n (σ.next + 1)) 2).bind fun w50 =>
 (AV.asSl w50).bind fun l51 =>
 (σ45.ld (.n (σ.next + 1)) 3).bind fun w52 =>
 (AV.asI .i64 w52).bind fun n53 =>
 some ((.agg [(.i .i64 n47), (.sl l49.1 l49.2), (.sl l51.1 l51.2), (.i .i64 n53)]), σ45)
 else none)
 else none)
 else none
noncomputable def haymowref10_copied {O : Type} : Sm O := haymowref10_copied_c
theorem haymowref10_copied_ent : Entered Try.prog 164 := Try.call164
theorem haymowref10_copied_run {O : Type} : run (O := O) Try.prog [] Try.f164 (.n .z (.n .z (.n (.n .z (.n (.lp false 0 [(4, .one (.i .i64))] [] (.n (.n .z .z) (.n .z .z))) .z)) (.n .z (.n .z .z))))) = haymowref10_copied_c  := by kernel_rfl
theorem haymowref10_copied_sound {O : Type} {RO : O → Loc → (Nat → Option Obj) → Prop} : FSound RO Try.prog 164 (haymowref10_copied) :=
   have h : FSound RO Try.prog 164 (haymowref10_copied_c) := (haymowref10_copied_run) ▸ run_sound (gnil) mixed Try.func164 (by kernel_rfl) _
   h

/-- haymow/haymowref10.Take -/
noncomputable def haymowref10_Take_c {O : Type} (k164 : Sm O) : Sm O := fun xs σ =>
 bif Nat.beq xs.length 1 then
 (AV.asAgg 4 (xs.getD 0 .u)).bind fun c0 =>
 (AV.asI .i64 (c0.getD 0 .u)).bind fun n1 =>
 (AV.asSl (c0.getD 1 .u)).bind fun l2 =>
 (AV.asSl (c0.getD 2 .u)).bind fun l3 =>
 (AV.asI .i64 (c0.getD 3 .u)).bind fun n4 =>
 let σ5 := σ.bump 2
 let σ6 := σ5.put σ.next (.cells true 123 [(.i .i64 n1), (.sl l2.1 l2.2), (.sl l3.1 l3.2), (.i .i64 n4)])
 let σ7 := σ6.put (σ.next + 1) (.cells true 123 [(.i .i64 0), (.sl .nil 0), (.sl .nil 0), (.i .i64 0)])
 (σ7.ld (.n σ.next) 0).bind fun w8 =>
 (AV.asI .i64 w8).bind fun n9 =>
 (σ7.ld (.n σ.next) 1).bind fun w10 =>
 (AV.asSl w10).bind fun l11 =>
 (σ7.ld (.n σ.next) 2).bind fun w12 =>
 (AV.asSl w12).bind fun l13 =>
 (σ7.ld (.n σ.next) 3).bind fun w14 =>
 (AV.asI .i64 w14).bind fun n15 =>
 (k164 [(.agg [(.i .i64 n9), (.sl l11.1 l11.2), (.sl l13.1 l13.2), (.i .i64 n15)])] σ7).bind fun r16 =>
 (AV.asAgg 4 r16.1).bind fun c17 =>
 (AV.asI .i64 (c17.getD 0 .u)).bind fun n18 =>
 (AV.asSl (c17.getD 1 .u)).bind fun l19 =>
 (AV.asSl (c17.getD 2 .u)).bind fun l20 =>
 (AV.asI .i64 (c17.getD 3 .u)).bind fun n21 =>
 (r16.2.st (.n σ.next) 0 [(.i .i64 n18), (.sl l19.1 l19.2), (.sl l20.1 l20.2), (.i .i64 n21)]).bind fun σ22 =>
 (σ22.ld (.n σ.next) 2).bind fun w23 =>
 (AV.asSl w23).bind fun l24 =>
 (bif (decide ((l24.2 : Int) > 0)) then
 (σ22.ld (.n σ.next) 2).bind fun w25 =>
 (AV.asSl w25).bind fun l26 =>
 (bif ((decide ((0 : Int) ≤ (IntKind.i64.wrap ((l24.2 : Int) - 1)))) && (decide ((IntKind.i64.wrap ((l24.2 : Int) - 1)) < (l26.2 : Int)))) then
 (SA.ref l26.1).bind fun q27 =>
 (σ22.ld q27.1 (q27.2 + ((IntKind.i64.wrap ((l24.2 : Int) - 1)).toNat * 1))).bind fun w28 =>
 (AV.asI .i64 w28).bind fun n29 =>
 (σ22.ld (.n σ.next) 2).bind fun w30 =>
 (AV.asSl w30).bind fun l31 =>
 (bif ((decide ((0 : Int) ≤ (IntKind.i64.wrap ((l24.2 : Int) - 1)))) && (decide ((IntKind.i64.wrap ((l24.2 : Int) - 1)) ≤ (l31.2 : Int)))) then
 (SA.adv l31.1 0 1).bind fun a32 =>
 (σ22.st (.n σ.next) 2 [(.sl a32 ((IntKind.i64.wrap ((l24.2 : Int) - 1)).toNat - 0))]).bind fun σ33 =>
 (σ33.ld (.n σ.next) 1).bind fun w34 =>
 (AV.asSl w34).bind fun l35 =>
 (bif ((decide ((0 : Int) ≤ (IntKind.i64.wrap (n29 - 1)))) && (decide ((IntKind.i64.wrap (n29 - 1)) < (l35.2 : Int)))) then
 (SA.ref l35.1).bind fun q36 =>
 (σ33.st q36.1 (q36.2 + ((IntKind.i64.wrap (n29 - 1)).toNat * 3)) [(.b true)]).bind fun σ37 =>
 let σ38 := σ37.bump 1
 (σ38.ld (.n σ.next) 1).bind fun w39 =>
 (AV.asSl w39).bind fun l40 =>
 (σ38.ld (.n σ.next) 0).bind fun w41 =>
 (AV.asI .i64 w41).bind fun n42 =>
 (bif ((((decide ((0 : Int) ≤ n42)) && (decide (n42 ≤ n42))) && (decide ((n42 * 8) ≤ 140737488355328))) && (decide (n42 ≤ 140737488355328))) then
 let σ43 := σ38.put σ37.next (.cells true 22 ((List.replicate n42.toNat [(.i .u64 0)]).flatten))
 (bif ((decide ((0 : Int) ≤ (IntKind.i64.wrap (n29 - 1)))) && (decide ((IntKind.i64.wrap (n29 - 1)) < (l40.2 : Int)))) then
 (SA.ref l40.1).bind fun q44 =>
 (σ43.st q44.1 ((q44.2 + ((IntKind.i64.wrap (n29 - 1)).toNat * 3)) + 2) [(.sl (.loc (.n σ37.next) 0 1) n42.toNat)]).bind fun σ45 =>
 (σ45.ld (.n σ.next) 0).bind fun w46 =>
 (AV.asI .i64 w46).bind fun n47 =>
 (σ45.ld (.n σ.next) 1).bind fun w48 =>
 (AV.asSl w48).bind fun l49 =>
 (σ45.ld (.n σ.next) 2).bind fun w50 =>
 (AV.asSl w50).bind fun l51 =>
 (σ45.ld (.n σ.next) 3).bind fun w52 =>
 (AV.asI .i64 w52).bind fun n53 =>
 (σ45.st (.n (σ.next + 1)) 0 [(.i .i64 n47), (.sl l49.1 l49.2), (.sl l51.1 l51.2), (.i .i64 n53)]).bind fun σ54 =>
 (σ54.ld (.n (σ.next + 1)) 0).bind fun w55 =>
 (AV.asI .i64 w55).bind fun n56 =>
 (σ54.ld (.n (σ.next + 1)) 1).bind fun w57 =>
 (AV.asSl w57).bind fun l58 =>
 (σ54.ld (.n (σ.next + 1)) 2).bind fun w59 =>
 (AV.asSl w59).bind fun l60 =>
 (σ54.ld (.n (σ.next + 1)) 3).bind fun w61 =>
 (AV.asI .i64 w61).bind fun n62 =>
 some ((.tup [(.agg [(.i .i64 n56), (.sl l58.1 l58.2), (.sl l60.1 l60.2), (.i .i64 n62)]), (.i .i64 n29)]), σ54)
 else none)
 else none)
 else none)
 else none)
 else none)
 else (σ22.ld (.n σ.next) 1).bind fun w63 =>
 (AV.asSl w63).bind fun l64 =>
 (σ22.ld (.n σ.next) 3).bind fun w65 =>
 (AV.asI .i64 w65).bind fun n66 =>
 ((bif (((l64.2 : Int) : Int) == n66) then
 (σ22.ld (.n σ.next) 3).bind fun w67 =>
 (AV.asI .i64 w67).bind fun n68 =>
 let v69 : Int := (if (IntKind.i64.wrap (2 * n68)) > 8 then (IntKind.i64.wrap (2 * n68)) else 8)
 (σ22.st (.n σ.next) 3 [(.i .i64 v69)]).bind fun σ70 =>
 some ([], σ70)
 else some ([], σ22)) : Option (List AV × AH O)).bind fun r71 =>
 let σ72 := r71.2.bump 3
 (σ72.ld (.n σ.next) 1).bind fun w73 =>
 (AV.asSl w73).bind fun l74 =>
 (σ72.ld (.n σ.next) 0).bind fun w75 =>
 (AV.asI .i64 w75).bind fun n76 =>
 (bif ((((decide ((0 : Int) ≤ n76)) && (decide (n76 ≤ n76))) && (decide ((n76 * 8) ≤ 140737488355328))) && (decide (n76 ≤ 140737488355328))) then
 let σ77 := σ72.put r71.2.next (.cells true 22 ((List.replicate n76.toNat [(.i .u64 0)]).flatten))
 let σ78 := σ77.put (r71.2.next + 1) (.cells true 130 [(.b true), (.i .i64 0), (.sl (.loc (.n r71.2.next) 0 1) n76.toNat)])
 (σ78.rdSl (.loc (.n (r71.2.next + 1)) 0 3) 1 3).bind fun new79 =>
 (bif (Nat.ble ((l74.2 + 1) * 41) 35184372088832) then
 (σ78.appSl ((r71.2.next + 1) + 1) 130 3 l74.1 l74.2 1 new79).bind fun r80 =>
 (AV.asSl r80.1).bind fun l81 =>
 (r80.2.st (.n σ.next) 1 [(.sl l81.1 l81.2)]).bind fun σ82 =>
 (σ82.ld (.n σ.next) 0).bind fun w83 =>
 (AV.asI .i64 w83).bind fun n84 =>
 (σ82.ld (.n σ.next) 1).bind fun w85 =>
 (AV.asSl w85).bind fun l86 =>
 (σ82.ld (.n σ.next) 2).bind fun w87 =>
 (AV.asSl w87).bind fun l88 =>
 (σ82.ld (.n σ.next) 3).bind fun w89 =>
 (AV.asI .i64 w89).bind fun n90 =>
 (σ82.ld (.n σ.next) 1).bind fun w91 =>
 (AV.asSl w91).bind fun l92 =>
 (σ82.st (.n (σ.next + 1)) 0 [(.i .i64 n84), (.sl l86.1 l86.2), (.sl l88.1 l88.2), (.i .i64 n90)]).bind fun σ93 =>
 (chk (σ93.ld (.n σ.next) 1 = some (.sl l92.1 l92.2))).bind fun _ =>
 (σ93.ld (.n (σ.next + 1)) 0).bind fun w94 =>
 (AV.asI .i64 w94).bind fun n95 =>
 (σ93.ld (.n (σ.next + 1)) 1).bind fun w96 =>
 (AV.asSl w96).bind fun l97 =>
 (σ93.ld (.n (σ.next + 1)) 2).bind fun w98 =>
 (AV.asSl w98).bind fun l99 =>
 (σ93.ld (.n (σ.next + 1)) 3).bind fun w100 =>
 (AV.asI .i64 w100).bind fun n101 =>
 some ((.tup [(.agg [(.i .i64 n95), (.sl l97.1 l97.2), (.sl l99.1 l99.2), (.i .i64 n101)]), (.i .i64 (l92.2 : Int))]), σ93)
 else none)
 else none))
 else none
noncomputable def haymowref10_Take {O : Type} : Sm O := frz (haymowref10_Take_c haymowref10_copied)
theorem haymowref10_Take_ent : Entered Try.prog 137 := Try.call137
theorem haymowref10_Take_run {O : Type} (k164 : Sm O) : run (O := O) Try.prog [(164, k164)] Try.f137 (.n .z (.n .z (.n (.n .z (.n .z (.n (.n .z (.n .z (.n .z (.n (.d [] [0, 1, 2, 3, 4, 5, 6, 7, 8, 9] [0, 1, 0, 4, 0, 16, 48, 127, 255, 511]) .z)))) .z))) (.n (.n .z (.j false [] .z .z)) (.n (.d [] [0, 1, 2, 3, 4, 5, 6, 7, 8, 9] [0, 1, 0, 4, 12, 28, 60, 127, 255, 511]) (.n (.d [] [0, 1, 2, 3, 4, 5] [0, 0, 2, 6, 1, 31]) .z)))))) = haymowref10_Take_c k164 := by kernel_rfl
theorem haymowref10_Take_sound {O : Type} {RO : O → Loc → (Nat → Option Obj) → Prop} : FSound RO Try.prog 137 (haymowref10_Take) :=
   have h : FSound RO Try.prog 137 (haymowref10_Take_c haymowref10_copied) := (haymowref10_Take_run haymowref10_copied) ▸ run_sound (gcons haymowref10_copied_ent (haymowref10_copied_sound) <| gnil) mixed Try.func137 (by kernel_rfl) _
   h.frz

/-- haymow/haymowref10.Is -/
noncomputable def haymowref10_Is_c {O : Type} : Sm O := fun xs σ =>
 bif Nat.beq xs.length 2 then
 (AV.asAgg 4 (xs.getD 0 .u)).bind fun c0 =>
 (AV.asI .i64 (c0.getD 0 .u)).bind fun n1 =>
 (AV.asSl (c0.getD 1 .u)).bind fun l2 =>
 (AV.asSl (c0.getD 2 .u)).bind fun l3 =>
 (AV.asI .i64 (c0.getD 3 .u)).bind fun n4 =>
 (AV.asI .i64 (xs.getD 1 .u)).bind fun n5 =>
 let σ6 := σ.bump 1
 let σ7 := σ6.put σ.next (.cells true 123 [(.i .i64 n1), (.sl l2.1 l2.2), (.sl l3.1 l3.2), (.i .i64 n4)])
 ((bif ((decide (n5 ≥ 1)) == true) then
 (σ7.ld (.n σ.next) 1).bind fun w8 =>
 (AV.asSl w8).bind fun l9 =>
 some ([(.b (decide (n5 ≤ (l9.2 : Int))))], σ7)
 else some ([(.b false)], σ7)) : Option (List AV × AH O)).bind fun r10 =>
 (AV.asB (r10.1.getD 0 .u)).bind fun b11 =>
 ((bif (b11 == true) then
 (r10.2.ld (.n σ.next) 1).bind fun w12 =>
 (AV.asSl w12).bind fun l13 =>
 (bif ((decide ((0 : Int) ≤ (IntKind.i64.wrap (n5 - 1)))) && (decide ((IntKind.i64.wrap (n5 - 1)) < (l13.2 : Int)))) then
 (SA.ref l13.1).bind fun q14 =>
 (r10.2.ld q14.1 (q14.2 + ((IntKind.i64.wrap (n5 - 1)).toNat * 3))).bind fun w15 =>
 (AV.asB w15).bind fun b16 =>
 some ([(.b b16)], r10.2)
 else none)
 else some ([(.b false)], r10.2)) : Option (List AV × AH O)).bind fun r17 =>
 (AV.asB (r17.1.getD 0 .u)).bind fun b18 =>
 some ((.b b18), r17.2)
 else none
noncomputable def haymowref10_Is {O : Type} : Sm O := haymowref10_Is_c
theorem haymowref10_Is_ent : Entered Try.prog 141 := Try.call141
theorem haymowref10_Is_run {O : Type} : run (O := O) Try.prog [] Try.f141 (.n .z (.n (.g [(2, 5, [(13, .one .b)]), (9, 7, [(22, .one .b)])]) .z)) = haymowref10_Is_c  := by kernel_rfl
theorem haymowref10_Is_sound {O : Type} {RO : O → Loc → (Nat → Option Obj) → Prop} : FSound RO Try.prog 141 (haymowref10_Is) :=
   have h : FSound RO Try.prog 141 (haymowref10_Is_c) := (haymowref10_Is_run) ▸ run_sound (gnil) mixed Try.func141 (by kernel_rfl) _
   h

/-- haymow/haymowref10.Give -/
noncomputable def haymowref10_Give_c {O : Type} (k141 k164 : Sm O) : Sm O := fun xs σ =>
 bif Nat.beq xs.length 2 then
 (AV.asAgg 4 (xs.getD 0 .u)).bind fun c0 =>
 (AV.asI .i64 (c0.getD 0 .u)).bind fun n1 =>
 (AV.asSl (c0.getD 1 .u)).bind fun l2 =>
 (AV.asSl (c0.getD 2 .u)).bind fun l3 =>
 (AV.asI .i64 (c0.getD 3 .u)).bind fun n4 =>
 (AV.asI .i64 (xs.getD 1 .u)).bind fun n5 =>
 let σ6 := σ.bump 2
 let σ7 := σ6.put σ.next (.cells true 123 [(.i .i64 n1), (.sl l2.1 l2.2), (.sl l3.1 l3.2), (.i .i64 n4)])
 let σ8 := σ7.put (σ.next + 1) (.cells true 123 [(.i .i64 0), (.sl .nil 0), (.sl .nil 0), (.i .i64 0)])
 (σ8.ld (.n σ.next) 0).bind fun w9 =>
 (AV.asI .i64 w9).bind fun n10 =>
 (σ8.ld (.n σ.next) 1).bind fun w11 =>
 (AV.asSl w11).bind fun l12 =>
 (σ8.ld (.n σ.next) 2).bind fun w13 =>
 (AV.asSl w13).bind fun l14 =>
 (σ8.ld (.n σ.next) 3).bind fun w15 =>
 (AV.asI .i64 w15).bind fun n16 =>
 (k141 [(.agg [(.i .i64 n10), (.sl l12.1 l12.2), (.sl l14.1 l14.2), (.i .i64 n16)]), (.i .i64 n5)] σ8).bind fun r17 =>
 (AV.asB r17.1).bind fun b18 =>
 (bif (!b18) then
 (r17.2.ld (.n σ.next) 0).bind fun w19 =>
 (AV.asI .i64 w19).bind fun n20 =>
 (r17.2.ld (.n σ.next) 1).bind fun w21 =>
 (AV.asSl w21).bind fun l22 =>
 (r17.2.ld (.n σ.next) 2).bind fun w23 =>
 (AV.asSl w23).bind fun l24 =>
 (r17.2.ld (.n σ.next) 3).bind fun w25 =>
 (AV.asI .i64 w25).bind fun n26 =>
 (r17.2.st (.n (σ.next + 1)) 0 [(.i .i64 n20), (.sl l22.1 l22.2), (.sl l24.1 l24.2), (.i .i64 n26)]).bind fun σ27 =>
 (σ27.ld (.n (σ.next + 1)) 0).bind fun w28 =>
 (AV.asI .i64 w28).bind fun n29 =>
 (σ27.ld (.n (σ.next + 1)) 1).bind fun w30 =>
 (AV.asSl w30).bind fun l31 =>
 (σ27.ld (.n (σ.next + 1)) 2).bind fun w32 =>
 (AV.asSl w32).bind fun l33 =>
 (σ27.ld (.n (σ.next + 1)) 3).bind fun w34 =>
 (AV.asI .i64 w34).bind fun n35 =>
 some ((.tup [(.agg [(.i .i64 n29), (.sl l31.1 l31.2), (.sl l33.1 l33.2), (.i .i64 n35)]), (.i .i64 4)]), σ27)
 else (r17.2.ld (.n σ.next) 0).bind fun w36 =>
 (AV.asI .i64 w36).bind fun n37 =>
 (r17.2.ld (.n σ.next) 1).bind fun w38 =>
 (AV.asSl w38).bind fun l39 =>
 (r17.2.ld (.n σ.next) 2).bind fun w40 =>
 (AV.asSl w40).bind fun l41 =>
 (r17.2.ld (.n σ.next) 3).bind fun w42 =>
 (AV.asI .i64 w42).bind fun n43 =>
 (k164 [(.agg [(.i .i64 n37), (.sl l39.1 l39.2), (.sl l41.1 l41.2), (.i .i64 n43)])] r17.2).bind fun r44 =>
 (AV.asAgg 4 r44.1).bind fun c45 =>
 (AV.asI .i64 (c45.getD 0 .u)).bind fun n46 =>
 (AV.asSl (c45.getD 1 .u)).bind fun l47 =>
 (AV.asSl (c45.getD 2 .u)).bind fun l48 =>
 (AV.asI .i64 (c45.getD 3 .u)).bind fun n49 =>
 (r44.2.st (.n σ.next) 0 [(.i .i64 n46), (.sl l47.1 l47.2), (.sl l48.1 l48.2), (.i .i64 n49)]).bind fun σ50 =>
 (σ50.ld (.n σ.next) 1).bind fun w51 =>
 (AV.asSl w51).bind fun l52 =>
 (bif ((decide ((0 : Int) ≤ (IntKind.i64.wrap (n5 - 1)))) && (decide ((IntKind.i64.wrap (n5 - 1)) < (l52.2 : Int)))) then
 (SA.ref l52.1).bind fun q53 =>
 (σ50.st q53.1 (q53.2 + ((IntKind.i64.wrap (n5 - 1)).toNat * 3)) [(.b false)]).bind fun σ54 =>
 (σ54.ld (.n σ.next) 1).bind fun w55 =>
 (AV.asSl w55).bind fun l56 =>
 (bif ((decide ((0 : Int) ≤ (IntKind.i64.wrap (n5 - 1)))) && (decide ((IntKind.i64.wrap (n5 - 1)) < (l56.2 : Int)))) then
 (SA.ref l56.1).bind fun q57 =>
 (σ54.ld q57.1 ((q57.2 + ((IntKind.i64.wrap (n5 - 1)).toNat * 3)) + 1)).bind fun w58 =>
 (AV.asI .i64 w58).bind fun n59 =>
 (bif ((decide ((0 : Int) ≤ (IntKind.i64.wrap (n5 - 1)))) && (decide ((IntKind.i64.wrap (n5 - 1)) < (l56.2 : Int)))) then
 (SA.ref l56.1).bind fun q60 =>
 (σ54.st q60.1 ((q60.2 + ((IntKind.i64.wrap (n5 - 1)).toNat * 3)) + 1) [(.i .i64 (IntKind.i64.wrap (n59 + 1)))]).bind fun σ61 =>
 let σ62 := σ61.bump 2
 (σ62.ld (.n σ.next) 2).bind fun w63 =>
 (AV.asSl w63).bind fun l64 =>
 let σ65 := σ62.put σ61.next (.cells true 3 [(.i .i64 n5)])
 (σ65.rdSl (.loc (.n σ61.next) 0 1) 1 1).bind fun new66 =>
 (bif (Nat.ble ((l64.2 + 1) * 9) 35184372088832) then
 (σ65.appSl (σ61.next + 1) 3 1 l64.1 l64.2 1 new66).bind fun r67 =>
 (AV.asSl r67.1).bind fun l68 =>
 (r67.2.st (.n σ.next) 2 [(.sl l68.1 l68.2)]).bind fun σ69 =>
 (σ69.ld (.n σ.next) 0).bind fun w70 =>
 (AV.asI .i64 w70).bind fun n71 =>
 (σ69.ld (.n σ.next) 1).bind fun w72 =>
 (AV.asSl w72).bind fun l73 =>
 (σ69.ld (.n σ.next) 2).bind fun w74 =>
 (AV.asSl w74).bind fun l75 =>
 (σ69.ld (.n σ.next) 3).bind fun w76 =>
 (AV.asI .i64 w76).bind fun n77 =>
 (σ69.st (.n (σ.next + 1)) 0 [(.i .i64 n71), (.sl l73.1 l73.2), (.sl l75.1 l75.2), (.i .i64 n77)]).bind fun σ78 =>
 (σ78.ld (.n (σ.next + 1)) 0).bind fun w79 =>
 (AV.asI .i64 w79).bind fun n80 =>
 (σ78.ld (.n (σ.next + 1)) 1).bind fun w81 =>
 (AV.asSl w81).bind fun l82 =>
 (σ78.ld (.n (σ.next + 1)) 2).bind fun w83 =>
 (AV.asSl w83).bind fun l84 =>
 (σ78.ld (.n (σ.next + 1)) 3).bind fun w85 =>
 (AV.asI .i64 w85).bind fun n86 =>
 some ((.tup [(.agg [(.i .i64 n80), (.sl l82.1 l82.2), (.sl l84.1 l84.2), (.i .i64 n86)]), (.i .i64 0)]), σ78)
 else none)
 else none)
 else none)
 else none))
 else none
noncomputable def haymowref10_Give {O : Type} : Sm O := frz (haymowref10_Give_c haymowref10_Is haymowref10_copied)
theorem haymowref10_Give_ent : Entered Try.prog 138 := Try.call138
theorem haymowref10_Give_run {O : Type} (k141 k164 : Sm O) : run (O := O) Try.prog [(141, k141), (164, k164)] Try.f138 (.n .z (.n (.n .z (.n .z .z)) (.n .z (.n .z (.n .z (.n .z .z)))))) = haymowref10_Give_c k141 k164 := by kernel_rfl
theorem haymowref10_Give_sound {O : Type} {RO : O → Loc → (Nat → Option Obj) → Prop} : FSound RO Try.prog 138 (haymowref10_Give) :=
   have h : FSound RO Try.prog 138 (haymowref10_Give_c haymowref10_Is haymowref10_copied) := (haymowref10_Give_run haymowref10_Is haymowref10_copied) ▸ run_sound (gcons haymowref10_Is_ent (haymowref10_Is_sound) <| gcons haymowref10_copied_ent (haymowref10_copied_sound) <| gnil) mixed Try.func138 (by kernel_rfl) _
   h.frz

/-- haymow/haymowref10.Wrong -/
noncomputable def haymowref10_Wrong_c {O : Type} (k141 : Sm O) : Sm O := fun xs σ =>
 bif Nat.beq xs.length 3 then
 (AV.asAgg 4 (xs.getD 0 .u)).bind fun c0 =>
 (AV.asI .i64 (c0.getD 0 .u)).bind fun n1 =>
 (AV.asSl (c0.getD 1 .u)).bind fun l2 =>
 (AV.asSl (c0.getD 2 .u)).bind fun l3 =>
 (AV.asI .i64 (c0.getD 3 .u)).bind fun n4 =>
 (AV.asI .i64 (xs.getD 1 .u)).bind fun n5 =>
 (AV.asI .i64 (xs.getD 2 .u)).bind fun n6 =>
 let σ7 := σ.bump 1
 let σ8 := σ7.put σ.next (.cells true 123 [(.i .i64 n1), (.sl l2.1 l2.2), (.sl l3.1 l3.2), (.i .i64 n4)])
 (σ8.ld (.n σ.next) 0).bind fun w9 =>
 (AV.asI .i64 w9).bind fun n10 =>
 (σ8.ld (.n σ.next) 1).bind fun w11 =>
 (AV.asSl w11).bind fun l12 =>
 (σ8.ld (.n σ.next) 2).bind fun w13 =>
 (AV.asSl w13).bind fun l14 =>
 (σ8.ld (.n σ.next) 3).bind fun w15 =>
 (AV.asI .i64 w15).bind fun n16 =>
 (k141 [(.agg [(.i .i64 n10), (.sl l12.1 l12.2), (.sl l14.1 l14.2), (.i .i64 n16)]), (.i .i64 n5)] σ8).bind fun r17 =>
 (AV.asB r17.1).bind fun b18 =>
 (bif (!b18) then
 some ((.i .i64 4), r17.2)
 else ((bif ((decide (n6 < 0)) == false) then
 (r17.2.ld (.n σ.next) 0).bind fun w19 =>
 (AV.asI .i64 w19).bind fun n20 =>
 some ([(.b (decide (n6 ≥ n20)))], r17.2)
 else some ([(.b true)], r17.2)) : Option (List AV × AH O)).bind fun r21 =>
 (AV.asB (r21.1.getD 0 .u)).bind fun b22 =>
 (bif b22 then
 some ((.i .i64 32), r21.2)
 else some ((.i .i64 0), r21.2)))
 else none
noncomputable def haymowref10_Wrong {O : Type} : Sm O := haymowref10_Wrong_c haymowref10_Is
theorem haymowref10_Wrong_ent : Entered Try.prog 139 := Try.call139
theorem haymowref10_Wrong_run {O : Type} (k141 : Sm O) : run (O := O) Try.prog [(141, k141)] Try.f139 (.n .z (.n (.n .z (.n .z .z)) (.n (.n (.g [(2, 4, [(18, .one .b)])]) (.n .z .z)) .z))) = haymowref10_Wrong_c k141 := by kernel_rfl
theorem haymowref10_Wrong_sound {O : Type} {RO : O → Loc → (Nat → Option Obj) → Prop} : FSound RO Try.prog 139 (haymowref10_Wrong) :=
   have h : FSound RO Try.prog 139 (haymowref10_Wrong_c haymowref10_Is) := (haymowref10_Wrong_run haymowref10_Is) ▸ run_sound (gcons haymowref10_Is_ent (haymowref10_Is_sound) <| gnil) mixed Try.func139 (by kernel_rfl) _
   h

/-- haymow/haymowref10.Set -/
noncomputable def haymowref10_Set_c {O : Type} (k139 k164 : Sm O) : Sm O := fun xs σ =>
 bif Nat.beq xs.length 4 then
 (AV.asAgg 4 (xs.getD 0 .u)).bind fun c0 =>
 (AV.asI .i64 (c0.getD 0 .u)).bind fun n1 =>
 (AV.asSl (c0.getD 1 .u)).bind fun l2 =>
 (AV.asSl (c0.getD 2 .u)).bind fun l3 =>
 (AV.asI .i64 (c0.getD 3 .u)).bind fun n4 =>
 (AV.asI .i64 (xs.getD 1 .u)).bind fun n5 =>
 (AV.asI .i64 (xs.getD 2 .u)).bind fun n6 =>
 (AV.asI .u64 (xs.getD 3 .u)).bind fun n7 =>
 let σ8 := σ.bump 2
 let σ9 := σ8.put σ.next (.cells true 123 [(.i .i64 n1), (.sl l2.1 l2.2), (.sl l3.1 l3.2), (.i .i64 n4)])
 let σ10 := σ9.put (σ.next + 1) (.cells true 123 [(.i .i64 0), (.sl .nil 0), (.sl .nil 0), (.i .i64 0)])
 (σ10.ld (.n σ.next) 0).bind fun w11 =>
 (AV.asI .i64 w11).bind fun n12 =>
 (σ10.ld (.n σ.next) 1).bind fun w13 =>
 (AV.asSl w13).bind fun l14 =>
 (σ10.ld (.n σ.next) 2).bind fun w15 =>
 (AV.asSl w15).bind fun l16 =>
 (σ10.ld (.n σ.next) 3).bind fun w17 =>
 (AV.asI .i64 w17).bind fun n18 =>
 (k139 [(.agg [(.i .i64 n12), (.sl l14.1 l14.2), (.sl l16.1 l16.2), (.i .i64 n18)]), (.i .i64 n5), (.i .i64 n6)] σ10).bind fun r19 =>
 (AV.asI .i64 r19.1).bind fun n20 =>
 (bif ((n20 : Int) != 0) then
 (r19.2.ld (.n σ.next) 0).bind fun w21 =>
 (AV.asI .i64 w21).bind fun n22 =>
 (r19.2.ld (.n σ.next) 1).bind fun w23 =>
 (AV.asSl w23).bind fun l24 =>
 (r19.2.ld (.n σ.next) 2).bind fun w25 =>
 (AV.asSl w25).bind fun l26 =>
 (r19.2.ld (.n σ.next) 3).bind fun w27 =>
 (AV.asI .i64 w27).bind fun n28 =>
 (r19.2.st (.n (σ.next + 1)) 0 [(.i .i64 n22), (.sl l24.1 l24.2), (.sl l26.1 l26.2), (.i .i64 n28)]).bind fun σ29 =>
 (σ29.ld (.n (σ.next + 1)) 0).bind fun w30 =>
 (AV.asI .i64 w30).bind fun n31 =>
 (σ29.ld (.n (σ.next + 1)) 1).bind fun w32 =>
 (AV.asSl w32).bind fun l33 =>
 (σ29.ld (.n (σ.next + 1)) 2).bind fun w34 =>
 (AV.asSl w34).bind fun l35 =>
 (σ29.ld (.n (σ.next + 1)) 3).bind fun w36 =>
 (AV.asI .i64 w36).bind fun n37 =>
 some ((.tup [(.agg [(.i .i64 n31), (.sl l33.1 l33.2), (.sl l35.1 l35.2), (.i .i64 n37)]), (.i .i64 n20)]), σ29)
 else (r19.2.ld (.n σ.next) 0).bind fun w38 =>
 (AV.asI .i64 w38).bind fun n39 =>
 (r19.2.ld (.n σ.next) 1).bind fun w40 =>
 (AV.asSl w40).bind fun l41 =>
 (r19.2.ld (.n σ.next) 2).bind fun w42 =>
 (AV.asSl w42).bind fun l43 =>
 (r19.2.ld (.n σ.next) 3).bind fun w44 =>
 (AV.asI .i64 w44).bind fun n45 =>
 (k164 [(.agg [(.i .i64 n39), (.sl l41.1 l41.2), (.sl l43.1 l43.2), (.i .i64 n45)])] r19.2).bind fun r46 =>
 (AV.asAgg 4 r46.1).bind fun c47 =>
 (AV.asI .i64 (c47.getD 0 .u)).bind fun n48 =>
 (AV.asSl (c47.getD 1 .u)).bind fun l49 =>
 (AV.asSl (c47.getD 2 .u)).bind fun l50 =>
 (AV.asI .i64 (c47.getD 3 .u)).bind fun n51 =>
 (r46.2.st (.n σ.next) 0 [(.i .i64 n48), (.sl l49.1 l49.2), (.sl l50.1 l50.2), (.i .i64 n51)]).bind fun σ52 =>
 (σ52.ld (.n σ.next) 1).bind fun w53 =>
 (AV.asSl w53).bind fun l54 =>
 (bif ((decide ((0 : Int) ≤ (IntKind.i64.wrap (n5 - 1)))) && (decide ((IntKind.i64.wrap (n5 - 1)) < (l54.2 : Int)))) then
 (SA.ref l54.1).bind fun q55 =>
 (σ52.ld q55.1 ((q55.2 + ((IntKind.i64.wrap (n5 - 1)).toNat * 3)) + 2)).bind fun w56 =>
 (AV.asSl w56).bind fun l57 =>
 (bif ((decide ((0 : Int) ≤ n6)) && (decide (n6 < (l57.2 : Int)))) then
 (SA.ref l57.1).bind fun q58 =>
 (σ52.st q58.1 (q58.2 + (n6.toNat * 1)) [(.i .u64 n7)]).bind fun σ59 =>
 (σ59.ld (.n σ.next) 0).bind fun w60 =>
 (AV.asI .i64 w60).bind fun n61 =>
 (σ59.ld (.n σ.next) 1).bind fun w62 =>
 (AV.asSl w62).bind fun l63 =>
 (σ59.ld (.n σ.next) 2).bind fun w64 =>
 (AV.asSl w64).bind fun l65 =>
 (σ59.ld (.n σ.next) 3).bind fun w66 =>
 (AV.asI .i64 w66).bind fun n67 =>
 (σ59.st (.n (σ.next + 1)) 0 [(.i .i64 n61), (.sl l63.1 l63.2), (.sl l65.1 l65.2), (.i .i64 n67)]).bind fun σ68 =>
 (σ68.ld (.n (σ.next + 1)) 0).bind fun w69 =>
 (AV.asI .i64 w69).bind fun n70 =>
 (σ68.ld (.n (σ.next + 1)) 1).bind fun w71 =>
 (AV.asSl w71).bind fun l72 =>
 (σ68.ld (.n (σ.next + 1)) 2).bind fun w73 =>
 (AV.asSl w73).bind fun l74 =>
 (σ68.ld (.n (σ.next + 1)) 3).bind fun w75 =>
 (AV.asI .i64 w75).bind fun n76 =>
 some ((.tup [(.agg [(.i .i64 n70), (.sl l72.1 l72.2), (.sl l74.1 l74.2), (.i .i64 n76)]), (.i .i64 0)]), σ68)
 else none)
 else none))
 else none
noncomputable def haymowref10_Set {O : Type} : Sm O := frz (haymowref10_Set_c haymowref10_Wrong haymowref10_copied)
theorem haymowref10_Set_ent : Entered Try.prog 140 := Try.call140
theorem haymowref10_Set_run {O : Type} (k139 k164 : Sm O) : run (O := O) Try.prog [(139, k139), (164, k164)] Try.f140 (.n .z (.n (.n .z (.n .z (.n .z .z))) (.n .z (.n .z .z)))) = haymowref10_Set_c k139 k164 := by kernel_rfl
theorem haymowref10_Set_sound {O : Type} {RO : O → Loc → (Nat → Option Obj) → Prop} : FSound RO Try.prog 140 (haymowref10_Set) :=
   have h : FSound RO Try.prog 140 (haymowref10_Set_c haymowref10_Wrong haymowref10_copied) := (haymowref10_Set_run haymowref10_Wrong haymowref10_copied) ▸ run_sound (gcons haymowref10_Wrong_ent (haymowref10_Wrong_sound) <| gcons haymowref10_copied_ent (haymowref10_copied_sound) <| gnil) mixed Try.func140 (by kernel_rfl) _
   h.frz

/-- haymow/haymowlaw10.do -/
noncomputable def law10_do_c {O : Type} (k73 k137 k72 k138 k74 k139 k71 k140 k75 k85 k141 : Sm O) : Sm O := fun xs σ =>
 bif Nat.beq xs.length 3 then
 (AV.asP (xs.getD 0 .u)).bind fun p0 =>
 (AV.asAgg 4 (xs.getD 1 .u)).bind fun c1 =>
 (AV.asI .i64 (c1.getD 0 .u)).bind fun n2 =>
 (AV.asSl (c1.getD 1 .u)).bind fun l3 =>
 (AV.asSl (c1.getD 2 .u)).bind fun l4 =>
 (AV.asI .i64 (c1.getD 3 .u)).bind fun n5 =>
 (AV.asAgg 4 (xs.getD 2 .u)).bind fun c6 =>
 (AV.asI .i64 (c6.getD 0 .u)).bind fun n7 =>
 (AV.asI .i64 (c6.getD 1 .u)).bind fun n8 =>
 (AV.asI .i64 (c6.getD 2 .u)).bind fun n9 =>
 (AV.asI .u64 (c6.getD 3 .u)).bind fun n10 =>
 let σ11 := σ.bump 3
 let σ12 := σ11.put σ.next (.cells true 123 [(.i .i64 n2), (.sl l3.1 l3.2), (.sl l4.1 l4.2), (.i .i64 n5)])
 let σ13 := σ12.put (σ.next + 1) (.cells true 116 [(.i .i64 n7), (.i .i64 n8), (.i .i64 n9), (.i .u64 n10)])
 let σ14 := σ13.put ((σ.next + 1) + 1) (.cells true 123 [(.i .i64 0), (.sl .nil 0), (.sl .nil 0), (.i .i64 0)])
 (σ14.ld (.n (σ.next + 1)) 0).bind fun w15 =>
 (AV.asI .i64 w15).bind fun n16 =>
 (bif ((n16 : Int) == 0) then
 (k73 [(.p p0)] σ14).bind fun r17 =>
 (AV.asTup 2 r17.1).bind fun c18 =>
 (AV.asI .i64 (c18.getD 0 .u)).bind fun n19 =>
 (AV.asI .i64 (c18.getD 1 .u)).bind fun n20 =>
 (r17.2.ld (.n σ.next) 0).bind fun w21 =>
 (AV.asI .i64 w21).bind fun n22 =>
 (r17.2.ld (.n σ.next) 1).bind fun w23 =>
 (AV.asSl w23).bind fun l24 =>
 (r17.2.ld (.n σ.next) 2).bind fun w25 =>
 (AV.asSl w25).bind fun l26 =>
 (r17.2.ld (.n σ.next) 3).bind fun w27 =>
 (AV.asI .i64 w27).bind fun n28 =>
 (k137 [(.agg [(.i .i64 n22), (.sl l24.1 l24.2), (.sl l26.1 l26.2), (.i .i64 n28)])] r17.2).bind fun r29 =>
 (AV.asTup 2 r29.1).bind fun c30 =>
 (AV.asAgg 4 (c30.getD 0 .u)).bind fun c31 =>
 (AV.asI .i64 (c31.getD 0 .u)).bind fun n32 =>
 (AV.asSl (c31.getD 1 .u)).bind fun l33 =>
 (AV.asSl (c31.getD 2 .u)).bind fun l34 =>
 (AV.asI .i64 (c31.getD 3 .u)).bind fun n35 =>
 (AV.asI .i64 (c30.getD 1 .u)).bind fun n36 =>
 (r29.2.st (.n σ.next) 0 [(.i .i64 n32), (.sl l33.1 l33.2), (.sl l34.1 l34.2), (.i .i64 n35)]).bind fun σ37 =>
 (σ37.ld (.n σ.next) 0).bind fun w38 =>
 (AV.asI .i64 w38).bind fun n39 =>
 (σ37.ld (.n σ.next) 1).bind fun w40 =>
 (AV.asSl w40).bind fun l41 =>
 (σ37.ld (.n σ.next) 2).bind fun w42 =>
 (AV.asSl w42).bind fun l43 =>
 (σ37.ld (.n σ.next) 3).bind fun w44 =>
 (AV.asI .i64 w44).bind fun n45 =>
 (σ37.ld (.n σ.next) 0).bind fun w46 =>
 (AV.asI .i64 w46).bind fun n47 =>
 ((bif (((n19 : Int) == n36) == true) then
 some ([(.b ((n20 : Int) == 0))], σ37)
 else some ([(.b false)], σ37)) : Option (List AV × AH O)).bind fun r48 =>
 (AV.asB (r48.1.getD 0 .u)).bind fun b49 =>
 (r48.2.st (.n ((σ.next + 1) + 1)) 0 [(.i .i64 n39), (.sl l41.1 l41.2), (.sl l43.1 l43.2), (.i .i64 n45)]).bind fun σ50 =>
 (chk (σ50.ld (.n σ.next) 0 = some (.i .i64 n47))).bind fun _ =>
 (σ50.ld (.n ((σ.next + 1) + 1)) 0).bind fun w51 =>
 (AV.asI .i64 w51).bind fun n52 =>
 (σ50.ld (.n ((σ.next + 1) + 1)) 1).bind fun w53 =>
 (AV.asSl w53).bind fun l54 =>
 (σ50.ld (.n ((σ.next + 1) + 1)) 2).bind fun w55 =>
 (AV.asSl w55).bind fun l56 =>
 (σ50.ld (.n ((σ.next + 1) + 1)) 3).bind fun w57 =>
 (AV.asI .i64 w57).bind fun n58 =>
 some ((.tup [(.agg [(.i .i64 n52), (.sl l54.1 l54.2), (.sl l56.1 l56.2), (.i .i64 n58)]), (.i .u64 (IntKind.u64.wrap (IntKind.i64.wrap (3 + n47)))), (.b b49)]), σ50)
 else (bif ((n16 : Int) == 1) then
 (σ14.ld (.n (σ.next + 1)) 1).bind fun w59 =>
 (AV.asI .i64 w59).bind fun n60 =>
 (k72 [(.p p0), (.i .i64 n60)] σ14).bind fun r61 =>
 (AV.asI .i64 r61.1).bind fun n62 =>
 (r61.2.ld (.n σ.next) 0).bind fun w63 =>
 (AV.asI .i64 w63).bind fun n64 =>
 (r61.2.ld (.n σ.next) 1).bind fun w65 =>
 (AV.asSl w65).bind fun l66 =>
 (r61.2.ld (.n σ.next) 2).bind fun w67 =>
 (AV.asSl w67).bind fun l68 =>
 (r61.2.ld (.n σ.next) 3).bind fun w69 =>
 (AV.asI .i64 w69).bind fun n70 =>
 (r61.2.ld (.n (σ.next + 1)) 1).bind fun w71 =>
 (AV.asI .i64 w71).bind fun n72 =>
 (k138 [(.agg [(.i .i64 n64), (.sl l66.1 l66.2), (.sl l68.1 l68.2), (.i .i64 n70)]), (.i .i64 n72)] r61.2).bind fun r73 =>
 (AV.asTup 2 r73.1).bind fun c74 =>
 (AV.asAgg 4 (c74.getD 0 .u)).bind fun c75 =>
 (AV.asI .i64 (c75.getD 0 .u)).bind fun n76 =>
 (AV.asSl (c75.getD 1 .u)).bind fun l77 =>
 (AV.asSl (c75.getD 2 .u)).bind fun l78 =>
 (AV.asI .i64 (c75.getD 3 .u)).bind fun n79 =>
 (AV.asI .i64 (c74.getD 1 .u)).bind fun n80 =>
 (r73.2.st (.n σ.next) 0 [(.i .i64 n76), (.sl l77.1 l77.2), (.sl l78.1 l78.2), (.i .i64 n79)]).bind fun σ81 =>
 (σ81.ld (.n σ.next) 0).bind fun w82 =>
 (AV.asI .i64 w82).bind fun n83 =>
 (σ81.ld (.n σ.next) 1).bind fun w84 =>
 (AV.asSl w84).bind fun l85 =>
 (σ81.ld (.n σ.next) 2).bind fun w86 =>
 (AV.asSl w86).bind fun l87 =>
 (σ81.ld (.n σ.next) 3).bind fun w88 =>
 (AV.asI .i64 w88).bind fun n89 =>
 (σ81.st (.n ((σ.next + 1) + 1)) 0 [(.i .i64 n83), (.sl l85.1 l85.2), (.sl l87.1 l87.2), (.i .i64 n89)]).bind fun σ90 =>
 (σ90.ld (.n ((σ.next + 1) + 1)) 0).bind fun w91 =>
 (AV.asI .i64 w91).bind fun n92 =>
 (σ90.ld (.n ((σ.next + 1) + 1)) 1).bind fun w93 =>
 (AV.asSl w93).bind fun l94 =>
 (σ90.ld (.n ((σ.next + 1) + 1)) 2).bind fun w95 =>
 (AV.asSl w95).bind fun l96 =>
 (σ90.ld (.n ((σ.next + 1) + 1)) 3).bind fun w97 =>
 (AV.asI .i64 w97).bind fun n98 =>
 some ((.tup [(.agg [(.i .i64 n92), (.sl l94.1 l94.2), (.sl l96.1 l96.2), (.i .i64 n98)]), (.i .u64 3), (.b ((n62 : Int) == n80))]), σ90)
 else (bif ((n16 : Int) == 2) then
 (σ14.ld (.n (σ.next + 1)) 1).bind fun w99 =>
 (AV.asI .i64 w99).bind fun n100 =>
 (σ14.ld (.n (σ.next + 1)) 2).bind fun w101 =>
 (AV.asI .i64 w101).bind fun n102 =>
 (k74 [(.p p0), (.i .i64 n100), (.i .i64 n102)] σ14).bind fun r103 =>
 (AV.asTup 2 r103.1).bind fun c104 =>
 (AV.asI .u64 (c104.getD 0 .u)).bind fun n105 =>
 (AV.asI .i64 (c104.getD 1 .u)).bind fun n106 =>
 (r103.2.ld (.n σ.next) 0).bind fun w107 =>
 (AV.asI .i64 w107).bind fun n108 =>
 (r103.2.ld (.n σ.next) 1).bind fun w109 =>
 (AV.asSl w109).bind fun l110 =>
 (r103.2.ld (.n σ.next) 2).bind fun w111 =>
 (AV.asSl w111).bind fun l112 =>
 (r103.2.ld (.n σ.next) 3).bind fun w113 =>
 (AV.asI .i64 w113).bind fun n114 =>
 (r103.2.ld (.n (σ.next + 1)) 1).bind fun w115 =>
 (AV.asI .i64 w115).bind fun n116 =>
 (r103.2.ld (.n (σ.next + 1)) 2).bind fun w117 =>
 (AV.asI .i64 w117).bind fun n118 =>
 (k139 [(.agg [(.i .i64 n108), (.sl l110.1 l110.2), (.sl l112.1 l112.2), (.i .i64 n114)]), (.i .i64 n116), (.i .i64 n118)] r103.2).bind fun r119 =>
 (AV.asI .i64 r119.1).bind fun n120 =>
 ((bif ((n120 : Int) == 0) then
 (r119.2.ld (.n σ.next) 1).bind fun w121 =>
 (AV.asSl w121).bind fun l122 =>
 (r119.2.ld (.n (σ.next + 1)) 1).bind fun w123 =>
 (AV.asI .i64 w123).bind fun n124 =>
 (bif ((decide ((0 : Int) ≤ (IntKind.i64.wrap (n124 - 1)))) && (decide ((IntKind.i64.wrap (n124 - 1)) < (l122.2 : Int)))) then
 (SA.ref l122.1).bind fun q125 =>
 (r119.2.ld q125.1 ((q125.2 + ((IntKind.i64.wrap (n124 - 1)).toNat * 3)) + 2)).bind fun w126 =>
 (AV.asSl w126).bind fun l127 =>
 (r119.2.ld (.n (σ.next + 1)) 2).bind fun w128 =>
 (AV.asI .i64 w128).bind fun n129 =>
 (bif ((decide ((0 : Int) ≤ n129)) && (decide (n129 < (l127.2 : Int)))) then
 (SA.ref l127.1).bind fun q130 =>
 (r119.2.ld q130.1 (q130.2 + (n129.toNat * 1))).bind fun w131 =>
 (AV.asI .u64 w131).bind fun n132 =>
 some ([(.i .u64 n132)], r119.2)
 else none)
 else none)
 else some ([(.i .u64 0)], r119.2)) : Option (List AV × AH O)).bind fun r133 =>
 (AV.asI .u64 (r133.1.getD 0 .u)).bind fun n134 =>
 (r133.2.ld (.n σ.next) 0).bind fun w135 =>
 (AV.asI .i64 w135).bind fun n136 =>
 (r133.2.ld (.n σ.next) 1).bind fun w137 =>
 (AV.asSl w137).bind fun l138 =>
 (r133.2.ld (.n σ.next) 2).bind fun w139 =>
 (AV.asSl w139).bind fun l140 =>
 (r133.2.ld (.n σ.next) 3).bind fun w141 =>
 (AV.asI .i64 w141).bind fun n142 =>
 ((bif (((n105 : Int) == n134) == true) then
 some ([(.b ((n106 : Int) == n120))], r133.2)
 else some ([(.b false)], r133.2)) : Option (List AV × AH O)).bind fun r143 =>
 (AV.asB (r143.1.getD 0 .u)).bind fun b144 =>
 (r143.2.st (.n ((σ.next + 1) + 1)) 0 [(.i .i64 n136), (.sl l138.1 l138.2), (.sl l140.1 l140.2), (.i .i64 n142)]).bind fun σ145 =>
 (σ145.ld (.n ((σ.next + 1) + 1)) 0).bind fun w146 =>
 (AV.asI .i64 w146).bind fun n147 =>
 (σ145.ld (.n ((σ.next + 1) + 1)) 1).bind fun w148 =>
 (AV.asSl w148).bind fun l149 =>
 (σ145.ld (.n ((σ.next + 1) + 1)) 2).bind fun w150 =>
 (AV.asSl w150).bind fun l151 =>
 (σ145.ld (.n ((σ.next + 1) + 1)) 3).bind fun w152 =>
 (AV.asI .i64 w152).bind fun n153 =>
 some ((.tup [(.agg [(.i .i64 n147), (.sl l149.1 l149.2), (.sl l151.1 l151.2), (.i .i64 n153)]), (.i .u64 2), (.b b144)]), σ145)
 else (bif ((n16 : Int) == 3) then
 (σ14.ld (.n (σ.next + 1)) 1).bind fun w154 =>
 (AV.asI .i64 w154).bind fun n155 =>
 (σ14.ld (.n (σ.next + 1)) 2).bind fun w156 =>
 (AV.asI .i64 w156).bind fun n157 =>
 (σ14.ld (.n (σ.next + 1)) 3).bind fun w158 =>
 (AV.asI .u64 w158).bind fun n159 =>
 (k71 [(.p p0), (.i .i64 n155), (.i .i64 n157), (.i .u64 n159)] σ14).bind fun r160 =>
 (AV.asI .i64 r160.1).bind fun n161 =>
 (r160.2.ld (.n σ.next) 0).bind fun w162 =>
 (AV.asI .i64 w162).bind fun n163 =>
 (r160.2.ld (.n σ.next) 1).bind fun w164 =>
 (AV.asSl w164).bind fun l165 =>
 (r160.2.ld (.n σ.next) 2).bind fun w166 =>
 (AV.asSl w166).bind fun l167 =>
 (r160.2.ld (.n σ.next) 3).bind fun w168 =>
 (AV.asI .i64 w168).bind fun n169 =>
 (r160.2.ld (.n (σ.next + 1)) 1).bind fun w170 =>
 (AV.asI .i64 w170).bind fun n171 =>
 (r160.2.ld (.n (σ.next + 1)) 2).bind fun w172 =>
 (AV.asI .i64 w172).bind fun n173 =>
 (r160.2.ld (.n (σ.next + 1)) 3).bind fun w174 =>
 (AV.asI .u64 w174).bind fun n175 =>
 (k140 [(.agg [(.i .i64 n163), (.sl l165.1 l165.2), (.sl l167.1 l167.2), (.i .i64 n169)]), (.i .i64 n171), (.i .i64 n173), (.i .u64 n175)] r160.2).bind fun r176 =>
 (AV.asTup 2 r176.1).bind fun c177 =>
 (AV.asAgg 4 (c177.getD 0 .u)).bind fun c178 =>
 (AV.asI .i64 (c178.getD 0 .u)).bind fun n179 =>
 (AV.asSl (c178.getD 1 .u)).bind fun l180 =>
 (AV.asSl (c178.getD 2 .u)).bind fun l181 =>
 (AV.asI .i64 (c178.getD 3 .u)).bind fun n182 =>
 (AV.asI .i64 (c177.getD 1 .u)).bind fun n183 =>
 (r176.2.st (.n σ.next) 0 [(.i .i64 n179), (.sl l180.1 l180.2), (.sl l181.1 l181.2), (.i .i64 n182)]).bind fun σ184 =>
 (σ184.ld (.n σ.next) 0).bind fun w185 =>
 (AV.asI .i64 w185).bind fun n186 =>
 (σ184.ld (.n σ.next) 1).bind fun w187 =>
 (AV.asSl w187).bind fun l188 =>
 (σ184.ld (.n σ.next) 2).bind fun w189 =>
 (AV.asSl w189).bind fun l190 =>
 (σ184.ld (.n σ.next) 3).bind fun w191 =>
 (AV.asI .i64 w191).bind fun n192 =>
 (σ184.st (.n ((σ.next + 1) + 1)) 0 [(.i .i64 n186), (.sl l188.1 l188.2), (.sl l190.1 l190.2), (.i .i64 n192)]).bind fun σ193 =>
 (σ193.ld (.n ((σ.next + 1) + 1)) 0).bind fun w194 =>
 (AV.asI .i64 w194).bind fun n195 =>
 (σ193.ld (.n ((σ.next + 1) + 1)) 1).bind fun w196 =>
 (AV.asSl w196).bind fun l197 =>
 (σ193.ld (.n ((σ.next + 1) + 1)) 2).bind fun w198 =>
 (AV.asSl w198).bind fun l199 =>
 (σ193.ld (.n ((σ.next + 1) + 1)) 3).bind fun w200 =>
 (AV.asI .i64 w200).bind fun n201 =>
 some ((.tup [(.agg [(.i .i64 n195), (.sl l197.1 l197.2), (.sl l199.1 l199.2), (.i .i64 n201)]), (.i .u64 2), (.b ((n161 : Int) == n183))]), σ193)
 else (σ14.ld (.n (σ.next + 1)) 1).bind fun w202 =>
 (AV.asI .i64 w202).bind fun n203 =>
 ((bif ((decide (n203 ≥ 1)) == true) then
 (σ14.ld (.n (σ.next + 1)) 1).bind fun w204 =>
 (AV.asI .i64 w204).bind fun n205 =>
 (σ14.ld (.n σ.next) 1).bind fun w206 =>
 (AV.asSl w206).bind fun l207 =>
 some ([(.b (decide (n205 ≤ (l207.2 : Int))))], σ14)
 else some ([(.b false)], σ14)) : Option (List AV × AH O)).bind fun r208 =>
 (AV.asB (r208.1.getD 0 .u)).bind fun b209 =>
 ((bif b209 then
 (r208.2.ld (.n σ.next) 1).bind fun w210 =>
 (AV.asSl w210).bind fun l211 =>
 (r208.2.ld (.n (σ.next + 1)) 1).bind fun w212 =>
 (AV.asI .i64 w212).bind fun n213 =>
 (bif ((decide ((0 : Int) ≤ (IntKind.i64.wrap (n213 - 1)))) && (decide ((IntKind.i64.wrap (n213 - 1)) < (l211.2 : Int)))) then
 (SA.ref l211.1).bind fun q214 =>
 (r208.2.ld q214.1 ((q214.2 + ((IntKind.i64.wrap (n213 - 1)).toNat * 3)) + 1)).bind fun w215 =>
 (AV.asI .i64 w215).bind fun n216 =>
 some ([(.i .i64 n216)], r208.2)
 else none)
 else some ([(.i .i64 0)], r208.2)) : Option (List AV × AH O)).bind fun r217 =>
 (AV.asI .i64 (r217.1.getD 0 .u)).bind fun n218 =>
 (r217.2.ld (.n σ.next) 0).bind fun w219 =>
 (AV.asI .i64 w219).bind fun n220 =>
 (r217.2.ld (.n σ.next) 1).bind fun w221 =>
 (AV.asSl w221).bind fun l222 =>
 (r217.2.ld (.n σ.next) 2).bind fun w223 =>
 (AV.asSl w223).bind fun l224 =>
 (r217.2.ld (.n σ.next) 3).bind fun w225 =>
 (AV.asI .i64 w225).bind fun n226 =>
 (r217.2.ld (.n (σ.next + 1)) 1).bind fun w227 =>
 (AV.asI .i64 w227).bind fun n228 =>
 (k75 [(.p p0), (.i .i64 n228)] r217.2).bind fun r229 =>
 (AV.asI .i64 r229.1).bind fun n230 =>
 (chk (r229.2.ld (.n σ.next) 0 = some (.i .i64 n220))).bind fun _ =>
 (chk (r229.2.ld (.n σ.next) 1 = some (.sl l222.1 l222.2))).bind fun _ =>
 (chk (r229.2.ld (.n σ.next) 2 = some (.sl l224.1 l224.2))).bind fun _ =>
 (chk (r229.2.ld (.n σ.next) 3 = some (.i .i64 n226))).bind fun _ =>
 ((bif (((n230 : Int) == n218) == true) then
 (r229.2.ld (.n (σ.next + 1)) 1).bind fun w231 =>
 (AV.asI .i64 w231).bind fun n232 =>
 (r229.2.ld (.n σ.next) 0).bind fun w233 =>
 (AV.asI .i64 w233).bind fun n234 =>
 (r229.2.ld (.n σ.next) 1).bind fun w235 =>
 (AV.asSl w235).bind fun l236 =>
 (r229.2.ld (.n σ.next) 2).bind fun w237 =>
 (AV.asSl w237).bind fun l238 =>
 (r229.2.ld (.n σ.next) 3).bind fun w239 =>
 (AV.asI .i64 w239).bind fun n240 =>
 (r229.2.ld (.n (σ.next + 1)) 1).bind fun w241 =>
 (AV.asI .i64 w241).bind fun n242 =>
 (k85 [(.p p0), (.i .i64 n232)] r229.2).bind fun r243 =>
 (AV.asB r243.1).bind fun b244 =>
 (chk (r243.2.ld (.n σ.next) 0 = some (.i .i64 n220))).bind fun _ =>
 (chk (r243.2.ld (.n σ.next) 1 = some (.sl l222.1 l222.2))).bind fun _ =>
 (chk (r243.2.ld (.n σ.next) 2 = some (.sl l224.1 l224.2))).bind fun _ =>
 (chk (r243.2.ld (.n σ.next) 3 = some (.i .i64 n226))).bind fun _ =>
 (chk (r243.2.ld (.n σ.next) 0 = some (.i .i64 n234))).bind fun _ =>
 (chk (r243.2.ld (.n σ.next) 1 = some (.sl l236.1 l236.2))).bind fun _ =>
 (chk (r243.2.ld (.n σ.next) 2 = some (.sl l238.1 l238.2))).bind fun _ =>
 (chk (r243.2.ld (.n σ.next) 3 = some (.i .i64 n240))).bind fun _ =>
 (chk (r243.2.ld (.n (σ.next + 1)) 1 = some (.i .i64 n242))).bind fun _ =>
 (k141 [(.agg [(.i .i64 n234), (.sl l236.1 l236.2), (.sl l238.1 l238.2), (.i .i64 n240)]), (.i .i64 n242)] r243.2).bind fun r245 =>
 (AV.asB r245.1).bind fun b246 =>
 (chk (r245.2.ld (.n σ.next) 0 = some (.i .i64 n220))).bind fun _ =>
 (chk (r245.2.ld (.n σ.next) 1 = some (.sl l222.1 l222.2))).bind fun _ =>
 (chk (r245.2.ld (.n σ.next) 2 = some (.sl l224.1 l224.2))).bind fun _ =>
 (chk (r245.2.ld (.n σ.next) 3 = some (.i .i64 n226))).bind fun _ =>
 some ([(.b (b244 == b246))], r245.2)
 else some ([(.b false)], r229.2)) : Option (List AV × AH O)).bind fun r247 =>
 (AV.asB (r247.1.getD 0 .u)).bind fun b248 =>
 (r247.2.st (.n ((σ.next + 1) + 1)) 0 [(.i .i64 n220), (.sl l222.1 l222.2), (.sl l224.1 l224.2), (.i .i64 n226)]).bind fun σ249 =>
 (σ249.ld (.n ((σ.next + 1) + 1)) 0).bind fun w250 =>
 (AV.asI .i64 w250).bind fun n251 =>
 (σ249.ld (.n ((σ.next + 1) + 1)) 1).bind fun w252 =>
 (AV.asSl w252).bind fun l253 =>
 (σ249.ld (.n ((σ.next + 1) + 1)) 2).bind fun w254 =>
 (AV.asSl w254).bind fun l255 =>
 (σ249.ld (.n ((σ.next + 1) + 1)) 3).bind fun w256 =>
 (AV.asI .i64 w256).bind fun n257 =>
 some ((.tup [(.agg [(.i .i64 n251), (.sl l253.1 l253.2), (.sl l255.1 l255.2), (.i .i64 n257)]), (.i .u64 2), (.b b248)]), σ249)))))
 else none
noncomputable def law10_do {O : Type} : Sm O := law10_do_c pool_Pool__Take haymowref10_Take pool_Pool__Give haymowref10_Give pool_Pool__Get haymowref10_Wrong pool_Pool__Set haymowref10_Set pool_Pool__Gen pool_Pool__Taken haymowref10_Is
theorem law10_do_ent : Entered Try.prog 80 := Try.call80
theorem law10_do_run {O : Type} (k73 k137 k72 k138 k74 k139 k71 k140 k75 k85 k141 : Sm O) : run (O := O) Try.prog [(73, k73), (137, k137), (72, k72), (138, k138), (74, k74), (139, k139), (71, k71), (140, k140), (75, k75), (85, k85), (141, k141)] Try.f80 (.n .z (.n .z (.n (.n .z (.n (.n .z (.n (.n .z (.n .z (.n .z (.n (.d [(8, 2, [(44, .one .b)])] [0, 1, 2, 3, 4, 5, 6, 7, 8, 9, 10, 11, 12, 13, 14] [0, 0, 2, 6, 14, 0, 0, 96, 224, 480, 992, 2016, 481, 4607, 16383]) .z)))) (.n .z (.n (.n .z (.n .z .z)) (.n .z (.n (.n .z (.n .z (.n (.n .z (.n .z (.j false [(16, .one (.i .u64))] (.d [] [0, 1, 2, 3, 4, 5, 6, 7, 8, 9, 10, 11, 12] [0, 1, 0, 4, 12, 31, 63, 127, 0, 256, 1023, 2047, 4095]) .z))) (.n (.g [(4, 3, [(101, .one .b)])]) .z)))) (.n .z (.n (.n .z (.n .z .z)) .z)))))))) .z)) (.n .z (.n (.n (.g [(3, 6, [(137, .one .b)])]) (.j false [(18, .one (.i .i64))] .z .z)) (.n (.d [(7, 9, [(163, .one .b)])] [0, 1, 2, 3, 5, 4, 6, 7, 8, 9, 10, 12, 13, 14, 11, 15, 16, 17, 18, 19, 20] [0, 0, 0, 4, 14, 0, 62, 126, 254, 254, 766, 2046, 254, 254, 8446, 32766, 65534, 131070, 65535, 327679, 1048575]) .z)))))) = law10_do_c k73 k137 k72 k138 k74 k139 k71 k140 k75 k85 k141 := by kernel_rfl
theorem law10_do_sound {O : Type} {RO : O → Loc → (Nat → Option Obj) → Prop} : FSound RO Try.prog 80 (law10_do) :=
   have h : FSound RO Try.prog 80 (law10_do_c pool_Pool__Take haymowref10_Take pool_Pool__Give haymowref10_Give pool_Pool__Get haymowref10_Wrong pool_Pool__Set haymowref10_Set pool_Pool__Gen pool_Pool__Taken haymowref10_Is) := (law10_do_run pool_Pool__Take haymowref10_Take pool_Pool__Give haymowref10_Give pool_Pool__Get haymowref10_Wrong pool_Pool__Set haymowref10_Set pool_Pool__Gen pool_Pool__Taken haymowref10_Is) ▸ run_sound (gcons pool_Pool__Take_ent (pool_Pool__Take_sound) <| gcons haymowref10_Take_ent (haymowref10_Take_sound) <| gcons pool_Pool__Give_ent (pool_Pool__Give_sound) <| gcons haymowref10_Give_ent (haymowref10_Give_sound) <| gcons pool_Pool__Get_ent (pool_Pool__Get_sound) <| gcons haymowref10_Wrong_ent (haymowref10_Wrong_sound) <| gcons pool_Pool__Set_ent (pool_Pool__Set_sound) <| gcons haymowref10_Set_ent (haymowref10_Set_sound) <| gcons pool_Pool__Gen_ent (pool_Pool__Gen_sound) <| gcons pool_Pool__Taken_ent (pool_Pool__Taken_sound) <| gcons haymowref10_Is_ent (haymowref10_Is_sound) <| gnil) mixed Try.func80 (by kernel_rfl) _
   h

/-- haymow/haymowref10.Count -/
noncomputable def haymowref10_Count_L1 {O : Type} (σ : AH O) : List AV × AH O → Option ((List AV × AH O) ⊕ (List AV × AH O)) := (fun r7 =>
 (AV.asI .i64 (r7.1.getD 0 .u)).bind fun n8 =>
 (AV.asI .i64 (r7.1.getD 1 .u)).bind fun n9 =>
 (r7.2.ld (.n σ.next) 1).bind fun w10 =>
 (AV.asSl w10).bind fun l11 =>
 (bif (decide (n9 < (l11.2 : Int))) then
 (r7.2.ld (.n σ.next) 1).bind fun w12 =>
 (AV.asSl w12).bind fun l13 =>
 (bif ((decide ((0 : Int) ≤ n9)) && (decide (n9 < (l13.2 : Int)))) then
 (SA.ref l13.1).bind fun q14 =>
 (r7.2.ld q14.1 (q14.2 + (n9.toNat * 3))).bind fun w15 =>
 (AV.asB w15).bind fun b16 =>
 ((bif b16 then
 some ([(.i .i64 (IntKind.i64.wrap (n8 + 1)))], r7.2)
 else some ([(.i .i64 n8)], r7.2)) : Option (List AV × AH O)).bind fun r17 =>
 (AV.asI .i64 (r17.1.getD 0 .u)).bind fun n18 =>
 some (Sum.inl ([(.i .i64 n18), (.i .i64 (IntKind.i64.wrap (n9 + 1)))], r17.2))
 else none)
 else some (Sum.inr ([(.i .i64 n8)], r7.2))))
noncomputable def haymowref10_Count_c {O : Type} : Sm O := fun xs σ =>
 bif Nat.beq xs.length 1 then
 (AV.asAgg 4 (xs.getD 0 .u)).bind fun c0 =>
 (AV.asI .i64 (c0.getD 0 .u)).bind fun n1 =>
 (AV.asSl (c0.getD 1 .u)).bind fun l2 =>
 (AV.asSl (c0.getD 2 .u)).bind fun l3 =>
 (AV.asI .i64 (c0.getD 3 .u)).bind fun n4 =>
 let σ5 := σ.bump 1
 let σ6 := σ5.put σ.next (.cells true 123 [(.i .i64 n1), (.sl l2.1 l2.2), (.sl l3.1 l3.2), (.i .i64 n4)])
 (loopF (S := List AV × AH O) (T := List AV × AH O) (haymowref10_Count_L1 σ) ([(.i .i64 0), (.i .i64 0)], σ6)).bind fun r19 =>
 (AV.asI .i64 (r19.1.getD 0 .u)).bind fun n20 =>
 some ((.i .i64 n20), r19.2)
 else none
noncomputable def haymowref10_Count {O : Type} : Sm O := haymowref10_Count_c
theorem haymowref10_Count_ent : Entered Try.prog 81 := Try.call81
theorem haymowref10_Count_run {O : Type} : run (O := O) Try.prog [] Try.f81 (.n .z (.n .z (.n (.n .z (.n (.lp false 0 [(3, .one (.i .i64)), (4, .one (.i .i64))] [(3, .one (.i .i64))] (.n (.n .z .z) (.n (.n (.n .z (.j false [(3, .one (.i .i64))] .z .z)) .z) .z))) .z)) .z))) = haymowref10_Count_c  := by kernel_rfl
theorem haymowref10_Count_sound {O : Type} {RO : O → Loc → (Nat → Option Obj) → Prop} : FSound RO Try.prog 81 (haymowref10_Count) :=
   have h : FSound RO Try.prog 81 (haymowref10_Count_c) := (haymowref10_Count_run) ▸ run_sound (gnil) mixed Try.func81 (by kernel_rfl) _
   h

/-- (*haymow/pool.Pool).Made -/
noncomputable def pool_Pool__Made_c {O : Type} : Sm O := fun xs σ =>
 bif Nat.beq xs.length 1 then
 (AV.asP (xs.getD 0 .u)).bind fun p0 =>
 Option.bind p0 fun q1 =>
 (σ.ld q1.1 (q1.2 + 3)).bind fun w2 =>
 (AV.asI .i64 w2).bind fun n3 =>
 some ((.i .i64 n3), σ)
 else none
noncomputable def pool_Pool__Made {O : Type} : Sm O := pool_Pool__Made_c
theorem pool_Pool__Made_ent : Entered Try.prog 82 := Try.call82
theorem pool_Pool__Made_run {O : Type} : run (O := O) Try.prog [] Try.f82 (.n .z .z) = pool_Pool__Made_c  := by kernel_rfl
theorem pool_Pool__Made_sound {O : Type} {RO : O → Loc → (Nat → Option Obj) → Prop} : FSound RO Try.prog 82 (pool_Pool__Made) :=
   have h : FSound RO Try.prog 82 (pool_Pool__Made_c) := (pool_Pool__Made_run) ▸ run_sound (gnil) mixed Try.func82 (by kernel_rfl) _
   h

/-- haymow/wide.Cmp -/
noncomputable def wide_Cmp_c {O : Type} : Sm O := fun xs σ =>
 bif Nat.beq xs.length 2 then
 (AV.asAgg 2 (xs.getD 0 .u)).bind fun c0 =>
 (AV.asI .u64 (c0.getD 0 .u)).bind fun n1 =>
 (AV.asI .u64 (c0.getD 1 .u)).bind fun n2 =>
 (AV.asAgg 2 (xs.getD 1 .u)).bind fun c3 =>
 (AV.asI .u64 (c3.getD 0 .u)).bind fun n4 =>
 (AV.asI .u64 (c3.getD 1 .u)).bind fun n5 =>
 let σ6 := σ.bump 2
 let σ7 := σ6.put σ.next (.cells true 59 [(.i .u64 n1), (.i .u64 n2)])
 let σ8 := σ7.put (σ.next + 1) (.cells true 59 [(.i .u64 n4), (.i .u64 n5)])
 (σ8.ld (.n σ.next) 0).bind fun w9 =>
 (AV.asI .u64 w9).bind fun n10 =>
 (σ8.ld (.n σ.next) 1).bind fun w11 =>
 (AV.asI .u64 w11).bind fun n12 =>
 (σ8.ld (.n (σ.next + 1)) 0).bind fun w13 =>
 (AV.asI .u64 w13).bind fun n14 =>
 (σ8.ld (.n (σ.next + 1)) 1).bind fun w15 =>
 (AV.asI .u64 w15).bind fun n16 =>
 (bif (((n10 : Int) == n14) && (((n12 : Int) == n16) && true)) then
 some ((.i .i64 0), σ8)
 else (σ8.ld (.n σ.next) 0).bind fun w17 =>
 (AV.asI .u64 w17).bind fun n18 =>
 (σ8.ld (.n (σ.next + 1)) 0).bind fun w19 =>
 (AV.asI .u64 w19).bind fun n20 =>
 ((bif ((decide (n18 < n20)) == false) then
 (σ8.ld (.n σ.next) 0).bind fun w21 =>
 (AV.asI .u64 w21).bind fun n22 =>
 (σ8.ld (.n (σ.next + 1)) 0).bind fun w23 =>
 (AV.asI .u64 w23).bind fun n24 =>
 ((bif (((n22 : Int) == n24) == true) then
 (σ8.ld (.n σ.next) 1).bind fun w25 =>
 (AV.asI .u64 w25).bind fun n26 =>
 (σ8.ld (.n (σ.next + 1)) 1).bind fun w27 =>
 (AV.asI .u64 w27).bind fun n28 =>
 some ([(.b (decide (n26 < n28)))], σ8)
 else some ([(.b false)], σ8)) : Option (List AV × AH O)).bind fun r29 =>
 (AV.asB (r29.1.getD 0 .u)).bind fun b30 =>
 some ([(.b b30)], r29.2)
 else some ([(.b true)], σ8)) : Option (List AV × AH O)).bind fun r31 =>
 (AV.asB (r31.1.getD 0 .u)).bind fun b32 =>
 (bif b32 then
 some ((.i .i64 (-1)), r31.2)
 else some ((.i .i64 1), r31.2)))
 else none
noncomputable def wide_Cmp {O : Type} : Sm O := wide_Cmp_c
theorem wide_Cmp_ent : Entered Try.prog 171 := Try.call171
theorem wide_Cmp_run {O : Type} : run (O := O) Try.prog [] Try.f171 (.n .z (.n (.n (.n .z (.n .z (.n (.g [(5, 12, [(28, .one .b)]), (11, 5, [(27, .one .b)])]) (.n .z .z)))) .z) .z)) = wide_Cmp_c  := by kernel_rfl
theorem wide_Cmp_sound {O : Type} {RO : O → Loc → (Nat → Option Obj) → Prop} : FSound RO Try.prog 171 (wide_Cmp) :=
   have h : FSound RO Try.prog 171 (wide_Cmp_c) := (wide_Cmp_run) ▸ run_sound (gnil) mixed Try.func171 (by kernel_rfl) _
   h

/-- haymow/wide.Less -/
noncomputable def wide_Less_c {O : Type} (k171 : Sm O) : Sm O := fun xs σ =>
 bif Nat.beq xs.length 2 then
 (AV.asAgg 2 (xs.getD 0 .u)).bind fun c0 =>
 (AV.asI .u64 (c0.getD 0 .u)).bind fun n1 =>
 (AV.asI .u64 (c0.getD 1 .u)).bind fun n2 =>
 (AV.asAgg 2 (xs.getD 1 .u)).bind fun c3 =>
 (AV.asI .u64 (c3.getD 0 .u)).bind fun n4 =>
 (AV.asI .u64 (c3.getD 1 .u)).bind fun n5 =>
 let σ6 := σ.bump 2
 let σ7 := σ6.put σ.next (.cells true 59 [(.i .u64 n1), (.i .u64 n2)])
 let σ8 := σ7.put (σ.next + 1) (.cells true 59 [(.i .u64 n4), (.i .u64 n5)])
 (σ8.ld (.n σ.next) 0).bind fun w9 =>
 (AV.asI .u64 w9).bind fun n10 =>
 (σ8.ld (.n σ.next) 1).bind fun w11 =>
 (AV.asI .u64 w11).bind fun n12 =>
 (σ8.ld (.n (σ.next + 1)) 0).bind fun w13 =>
 (AV.asI .u64 w13).bind fun n14 =>
 (σ8.ld (.n (σ.next + 1)) 1).bind fun w15 =>
 (AV.asI .u64 w15).bind fun n16 =>
 (k171 [(.agg [(.i .u64 n10), (.i .u64 n12)]), (.agg [(.i .u64 n14), (.i .u64 n16)])] σ8).bind fun r17 =>
 (AV.asI .i64 r17.1).bind fun n18 =>
 some ((.b (decide (n18 < 0))), r17.2)
 else none
noncomputable def wide_Less {O : Type} : Sm O := wide_Less_c wide_Cmp
theorem wide_Less_ent : Entered Try.prog 165 := Try.call165
theorem wide_Less_run {O : Type} (k171 : Sm O) : run (O := O) Try.prog [(171, k171)] Try.f165 (.n .z .z) = wide_Less_c k171 := by kernel_rfl
theorem wide_Less_sound {O : Type} {RO : O → Loc → (Nat → Option Obj) → Prop} : FSound RO Try.prog 165 (wide_Less) :=
   have h : FSound RO Try.prog 165 (wide_Less_c wide_Cmp) := (wide_Less_run wide_Cmp) ▸ run_sound (gcons wide_Cmp_ent (wide_Cmp_sound) <| gnil) mixed Try.func165 (by kernel_rfl) _
   h

/-- haymow/wide.Sub -/
noncomputable def wide_Sub_c {O : Type} (k165 k166 : Sm O) : Sm O := fun xs σ =>
 bif Nat.beq xs.length 2 then
 (AV.asAgg 2 (xs.getD 0 .u)).bind fun c0 =>
 (AV.asI .u64 (c0.getD 0 .u)).bind fun n1 =>
 (AV.asI .u64 (c0.getD 1 .u)).bind fun n2 =>
 (AV.asAgg 2 (xs.getD 1 .u)).bind fun c3 =>
 (AV.asI .u64 (c3.getD 0 .u)).bind fun n4 =>
 (AV.asI .u64 (c3.getD 1 .u)).bind fun n5 =>
 let σ6 := σ.bump 3
 let σ7 := σ6.put σ.next (.cells true 59 [(.i .u64 n1), (.i .u64 n2)])
 let σ8 := σ7.put (σ.next + 1) (.cells true 59 [(.i .u64 n4), (.i .u64 n5)])
 let σ9 := σ8.put ((σ.next + 1) + 1) (.cells true 59 [(.i .u64 0), (.i .u64 0)])
 (σ9.ld (.n σ.next) 0).bind fun w10 =>
 (AV.asI .u64 w10).bind fun n11 =>
 (σ9.ld (.n σ.next) 1).bind fun w12 =>
 (AV.asI .u64 w12).bind fun n13 =>
 (σ9.ld (.n (σ.next + 1)) 0).bind fun w14 =>
 (AV.asI .u64 w14).bind fun n15 =>
 (σ9.ld (.n (σ.next + 1)) 1).bind fun w16 =>
 (AV.asI .u64 w16).bind fun n17 =>
 (k165 [(.agg [(.i .u64 n11), (.i .u64 n13)]), (.agg [(.i .u64 n15), (.i .u64 n17)])] σ9).bind fun r18 =>
 (AV.asB r18.1).bind fun b19 =>
 (bif b19 then
 (r18.2.st (.n ((σ.next + 1) + 1)) 0 [(.i .u64 0), (.i .u64 0)]).bind fun σ20 =>
 (σ20.ld (.n ((σ.next + 1) + 1)) 0).bind fun w21 =>
 (AV.asI .u64 w21).bind fun n22 =>
 (σ20.ld (.n ((σ.next + 1) + 1)) 1).bind fun w23 =>
 (AV.asI .u64 w23).bind fun n24 =>
 some ((.tup [(.agg [(.i .u64 n22), (.i .u64 n24)]), (.b false)]), σ20)
 else (r18.2.ld (.n σ.next) 1).bind fun w25 =>
 (AV.asI .u64 w25).bind fun n26 =>
 (r18.2.ld (.n (σ.next + 1)) 1).bind fun w27 =>
 (AV.asI .u64 w27).bind fun n28 =>
 (k166 [(.i .u64 n26), (.i .u64 n28), (.i .u64 0)] r18.2).bind fun r29 =>
 (AV.asTup 2 r29.1).bind fun c30 =>
 (AV.asI .u64 (c30.getD 0 .u)).bind fun n31 =>
 (AV.asI .u64 (c30.getD 1 .u)).bind fun n32 =>
 (r29.2.ld (.n σ.next) 0).bind fun w33 =>
 (AV.asI .u64 w33).bind fun n34 =>
 (r29.2.ld (.n (σ.next + 1)) 0).bind fun w35 =>
 (AV.asI .u64 w35).bind fun n36 =>
 (k166 [(.i .u64 n34), (.i .u64 n36), (.i .u64 n32)] r29.2).bind fun r37 =>
 (AV.asTup 2 r37.1).bind fun c38 =>
 (AV.asI .u64 (c38.getD 0 .u)).bind fun n39 =>
 (AV.asI .u64 (c38.getD 1 .u)).bind fun n40 =>
 (r37.2.st (.n ((σ.next + 1) + 1)) 0 [(.i .u64 n39), (.i .u64 n31)]).bind fun σ41 =>
 (σ41.ld (.n ((σ.next + 1) + 1)) 0).bind fun w42 =>
 (AV.asI .u64 w42).bind fun n43 =>
 (σ41.ld (.n ((σ.next + 1) + 1)) 1).bind fun w44 =>
 (AV.asI .u64 w44).bind fun n45 =>
 some ((.tup [(.agg [(.i .u64 n43), (.i .u64 n45)]), (.b true)]), σ41))
 else none
noncomputable def wide_Sub {O : Type} : Sm O := wide_Sub_c wide_Less bits_Sub64
theorem wide_Sub_ent : Entered Try.prog 143 := Try.call143
theorem wide_Sub_run {O : Type} (k165 k166 : Sm O) : run (O := O) Try.prog [(165, k165), (166, k166)] Try.f143 (.n .z (.n (.n .z (.n .z .z)) (.n .z (.n .z .z)))) = wide_Sub_c k165 k166 := by kernel_rfl
theorem wide_Sub_sound {O : Type} {RO : O → Loc → (Nat → Option Obj) → Prop} : FSound RO Try.prog 143 (wide_Sub) :=
   have h : FSound RO Try.prog 143 (wide_Sub_c wide_Less bits_Sub64) := (wide_Sub_run wide_Less bits_Sub64) ▸ run_sound (gcons wide_Less_ent (wide_Less_sound) <| gext bits_Sub64_ext <| gnil) mixed Try.func143 (by kernel_rfl) _
   h

/-- (*haymow/meter.Meter).Since -/
noncomputable def meter_Meter__Since_c {O : Type} (k41 k143 : Sm O) : Sm O := fun xs σ =>
 bif Nat.beq xs.length 2 then
 (AV.asP (xs.getD 0 .u)).bind fun p0 =>
 (AV.asAgg 2 (xs.getD 1 .u)).bind fun c1 =>
 (AV.asI .u64 (c1.getD 0 .u)).bind fun n2 =>
 (AV.asI .u64 (c1.getD 1 .u)).bind fun n3 =>
 let σ4 := σ.bump 2
 let σ5 := σ4.put σ.next (.cells true 59 [(.i .u64 n2), (.i .u64 n3)])
 let σ6 := σ5.put (σ.next + 1) (.cells true 59 [(.i .u64 0), (.i .u64 0)])
 let σ7 := σ6.bump 1
 (σ7.ld (.n σ.next) 0).bind fun w8 =>
 (AV.asI .u64 w8).bind fun n9 =>
 (σ7.ld (.n σ.next) 1).bind fun w10 =>
 (AV.asI .u64 w10).bind fun n11 =>
 (k41 [(.p p0)] σ7).bind fun r12 =>
 (AV.asAgg 2 r12.1).bind fun c13 =>
 (AV.asI .u64 (c13.getD 0 .u)).bind fun n14 =>
 (AV.asI .u64 (c13.getD 1 .u)).bind fun n15 =>
 (chk (r12.2.ld (.n σ.next) 0 = some (.i .u64 n9))).bind fun _ =>
 (chk (r12.2.ld (.n σ.next) 1 = some (.i .u64 n11))).bind fun _ =>
 (k143 [(.agg [(.i .u64 n14), (.i .u64 n15)]), (.agg [(.i .u64 n9), (.i .u64 n11)])] r12.2).bind fun r16 =>
 (AV.asTup 2 r16.1).bind fun c17 =>
 (AV.asAgg 2 (c17.getD 0 .u)).bind fun c18 =>
 (AV.asI .u64 (c18.getD 0 .u)).bind fun n19 =>
 (AV.asI .u64 (c18.getD 1 .u)).bind fun n20 =>
 (AV.asB (c17.getD 1 .u)).bind fun b21 =>
 let σ22 := r16.2.put σ6.next (.cells true 59 [(.i .u64 0), (.i .u64 0)])
 (σ22.st (.n σ6.next) 0 [(.i .u64 n19), (.i .u64 n20)]).bind fun σ23 =>
 (σ23.ld (.n σ6.next) 0).bind fun w24 =>
 (AV.asI .u64 w24).bind fun n25 =>
 (σ23.ld (.n σ6.next) 1).bind fun w26 =>
 (AV.asI .u64 w26).bind fun n27 =>
 (σ23.st (.n (σ.next + 1)) 0 [(.i .u64 n25), (.i .u64 n27)]).bind fun σ28 =>
 (σ28.ld (.n (σ.next + 1)) 0).bind fun w29 =>
 (AV.asI .u64 w29).bind fun n30 =>
 (σ28.ld (.n (σ.next + 1)) 1).bind fun w31 =>
 (AV.asI .u64 w31).bind fun n32 =>
 some ((.agg [(.i .u64 n30), (.i .u64 n32)]), σ28)
 else none
noncomputable def meter_Meter__Since {O : Type} : Sm O := meter_Meter__Since_c meter_Meter__Steps wide_Sub
theorem meter_Meter__Since_ent : Entered Try.prog 84 := Try.call84
theorem meter_Meter__Since_run {O : Type} (k41 k143 : Sm O) : run (O := O) Try.prog [(41, k41), (143, k143)] Try.f84 (.n .z (.n (.d [] [0, 2, 1, 3, 4, 5, 6, 7, 8, 9] [0, 1, 0, 7, 15, 31, 31, 0, 191, 511]) .z)) = meter_Meter__Since_c k41 k143 := by kernel_rfl
theorem meter_Meter__Since_sound {O : Type} {RO : O → Loc → (Nat → Option Obj) → Prop} : FSound RO Try.prog 84 (meter_Meter__Since) :=
   have h : FSound RO Try.prog 84 (meter_Meter__Since_c meter_Meter__Steps wide_Sub) := (meter_Meter__Since_run meter_Meter__Steps wide_Sub) ▸ run_sound (gcons meter_Meter__Steps_ent (meter_Meter__Steps_sound) <| gcons wide_Sub_ent (wide_Sub_sound) <| gnil) mixed Try.func84 (by kernel_rfl) _
   h

/-- haymow/haymowref01.Cmp -/
noncomputable def haymowref01_Cmp_L1 {O : Type} (σ8 : AH O) : List AV × AH O → Option ((List AV × AH O) ⊕ ((List AV × AH O) ⊕ (AV × AH O))) := (fun r38 =>
 (AV.asI .i64 (r38.1.getD 0 .u)).bind fun n39 =>
 (bif (decide (n39 ≥ 0)) then
 (bif ((decide ((0 : Int) ≤ n39)) && (decide (n39 < 6))) then
 (r38.2.ld (.n σ8.next) (0 + (n39.toNat * 1))).bind fun w40 =>
 (AV.asI .u64 w40).bind fun n41 =>
 (bif ((decide ((0 : Int) ≤ n39)) && (decide (n39 < 6))) then
 (r38.2.ld (.n (σ8.next + 1)) (0 + (n39.toNat * 1))).bind fun w42 =>
 (AV.asI .u64 w42).bind fun n43 =>
 (bif (decide (n41 < n43)) then
 ((some ((.i .i64 (-1)), r38.2) : Option (AV × AH O)).map fun r => Sum.inr (Sum.inr r))
 else (bif ((decide ((0 : Int) ≤ n39)) && (decide (n39 < 6))) then
 (r38.2.ld (.n σ8.next) (0 + (n39.toNat * 1))).bind fun w44 =>
 (AV.asI .u64 w44).bind fun n45 =>
 (bif ((decide ((0 : Int) ≤ n39)) && (decide (n39 < 6))) then
 (r38.2.ld (.n (σ8.next + 1)) (0 + (n39.toNat * 1))).bind fun w46 =>
 (AV.asI .u64 w46).bind fun n47 =>
 (bif (decide (n45 > n47)) then
 ((some ((.i .i64 1), r38.2) : Option (AV × AH O)).map fun r => Sum.inr (Sum.inr r))
 else some (Sum.inl ([(.i .i64 (IntKind.i64.wrap (n39 - 1)))], r38.2)))
 else none)
 else none))
 else none)
 else none)
 else some (Sum.inr (Sum.inl ([], r38.2)))))
noncomputable def haymowref01_Cmp_c {O : Type} (k142 : Sm O) : Sm O := fun xs σ =>
 bif Nat.beq xs.length 2 then
 (AV.asAgg 2 (xs.getD 0 .u)).bind fun c0 =>
 (AV.asI .u64 (c0.getD 0 .u)).bind fun n1 =>
 (AV.asI .u64 (c0.getD 1 .u)).bind fun n2 =>
 (AV.asAgg 2 (xs.getD 1 .u)).bind fun c3 =>
 (AV.asI .u64 (c3.getD 0 .u)).bind fun n4 =>
 (AV.asI .u64 (c3.getD 1 .u)).bind fun n5 =>
 let σ6 := σ.bump 2
 let σ7 := σ6.put σ.next (.cells true 59 [(.i .u64 n1), (.i .u64 n2)])
 let σ8 := σ7.put (σ.next + 1) (.cells true 59 [(.i .u64 n4), (.i .u64 n5)])
 let σ9 := σ8.bump 2
 (σ9.ld (.n σ.next) 0).bind fun w10 =>
 (AV.asI .u64 w10).bind fun n11 =>
 (σ9.ld (.n σ.next) 1).bind fun w12 =>
 (AV.asI .u64 w12).bind fun n13 =>
 (σ9.ld (.n (σ.next + 1)) 0).bind fun w14 =>
 (AV.asI .u64 w14).bind fun n15 =>
 (σ9.ld (.n (σ.next + 1)) 1).bind fun w16 =>
 (AV.asI .u64 w16).bind fun n17 =>
 (k142 [(.agg [(.i .u64 n11), (.i .u64 n13)])] σ9).bind fun r18 =>
 (AV.asAgg 6 r18.1).bind fun c19 =>
 (AV.asI .u64 (c19.getD 0 .u)).bind fun n20 =>
 (AV.asI .u64 (c19.getD 1 .u)).bind fun n21 =>
 (AV.asI .u64 (c19.getD 2 .u)).bind fun n22 =>
 (AV.asI .u64 (c19.getD 3 .u)).bind fun n23 =>
 (AV.asI .u64 (c19.getD 4 .u)).bind fun n24 =>
 (AV.asI .u64 (c19.getD 5 .u)).bind fun n25 =>
 (chk (r18.2.ld (.n (σ.next + 1)) 0 = some (.i .u64 n15))).bind fun _ =>
 (chk (r18.2.ld (.n (σ.next + 1)) 1 = some (.i .u64 n17))).bind fun _ =>
 (k142 [(.agg [(.i .u64 n15), (.i .u64 n17)])] r18.2).bind fun r26 =>
 (AV.asAgg 6 r26.1).bind fun c27 =>
 (AV.asI .u64 (c27.getD 0 .u)).bind fun n28 =>
 (AV.asI .u64 (c27.getD 1 .u)).bind fun n29 =>
 (AV.asI .u64 (c27.getD 2 .u)).bind fun n30 =>
 (AV.asI .u64 (c27.getD 3 .u)).bind fun n31 =>
 (AV.asI .u64 (c27.getD 4 .u)).bind fun n32 =>
 (AV.asI .u64 (c27.getD 5 .u)).bind fun n33 =>
 let σ34 := r26.2.put σ8.next (.cells true 230 [(.i .u64 0), (.i .u64 0), (.i .u64 0), (.i .u64 0), (.i .u64 0), (.i .u64 0)])
 let σ35 := σ34.put (σ8.next + 1) (.cells true 230 [(.i .u64 0), (.i .u64 0), (.i .u64 0), (.i .u64 0), (.i .u64 0), (.i .u64 0)])
 (σ35.st (.n σ8.next) 0 [(.i .u64 n20), (.i .u64 n21), (.i .u64 n22), (.i .u64 n23), (.i .u64 n24), (.i .u64 n25)]).bind fun σ36 =>
 (σ36.st (.n (σ8.next + 1)) 0 [(.i .u64 n28), (.i .u64 n29), (.i .u64 n30), (.i .u64 n31), (.i .u64 n32), (.i .u64 n33)]).bind fun σ37 =>
 bindS (S := List AV × AH O) (R := (AV × AH O)) (loopF (S := List AV × AH O) (T := (List AV × AH O) ⊕ (AV × AH O)) (haymowref01_Cmp_L1 σ8) ([(.i .i64 3)], σ37)) fun r48 =>
 some ((.i .i64 0), r48.2)
 else none
noncomputable def haymowref01_Cmp {O : Type} : Sm O := haymowref01_Cmp_c haymowref01_Parts
theorem haymowref01_Cmp_ent : Entered Try.prog 83 := Try.call83
theorem haymowref01_Cmp_run {O : Type} (k142 : Sm O) : run (O := O) Try.prog [(142, k142)] Try.f83 (.n .z (.n (.d [] [0, 2, 1, 3, 4, 5, 6, 7] [0, 1, 0, 7, 0, 0, 63, 127]) (.n (.n .z (.n (.lp true 0 [(7, .one (.i .i64))] [] (.n (.n .z .z) (.n (.n (.n (.n (.d [] [0, 1, 2, 3, 4, 5, 6] [0, 1, 3, 0, 8, 24, 63]) (.n .z .z)) (.n (.d [] [0, 1, 2, 3, 4, 5, 6] [0, 1, 3, 0, 8, 24, 63]) (.n .z .z))) .z) .z))) .z)) .z))) = haymowref01_Cmp_c k142 := by kernel_rfl
theorem haymowref01_Cmp_sound {O : Type} {RO : O → Loc → (Nat → Option Obj) → Prop} : FSound RO Try.prog 83 (haymowref01_Cmp) :=
   have h : FSound RO Try.prog 83 (haymowref01_Cmp_c haymowref01_Parts) := (haymowref01_Cmp_run haymowref01_Parts) ▸ run_sound (gcons haymowref01_Parts_ent (haymowref01_Parts_sound) <| gnil) mixed Try.func83 (by kernel_rfl) _
   h

/-- haymow/haymowlaw10.PoolPlays -/
noncomputable def law10_PoolPlays_L3 {O : Type} (v6 : Int) (r7 : AV × AH O) (n101 : Int) (k74 : Sm O) (p10 : Option (Bid × Nat)) : List AV × AH O → Option ((List AV × AH O) ⊕ ((List AV × AH O) ⊕ ((List AV × AH O) ⊕ ((List AV × AH O) ⊕ (AV × AH O))))) := (fun r120 =>
 (AV.asI .i64 (r120.1.getD 0 .u)).bind fun n121 =>
 ((bif ((decide (n121 < v6)) == true) then
 (r120.2.ld (.n r7.2.next) 1).bind fun w122 =>
 (AV.asSl w122).bind fun l123 =>
 (bif ((decide ((0 : Int) ≤ (IntKind.i64.wrap (n101 - 1)))) && (decide ((IntKind.i64.wrap (n101 - 1)) < (l123.2 : Int)))) then
 (SA.ref l123.1).bind fun q124 =>
 (r120.2.ld q124.1 (q124.2 + ((IntKind.i64.wrap (n101 - 1)).toNat * 3))).bind fun w125 =>
 (AV.asB w125).bind fun b126 =>
 some ([(.b b126)], r120.2)
 else none)
 else some ([(.b false)], r120.2)) : Option (List AV × AH O)).bind fun r127 =>
 (AV.asB (r127.1.getD 0 .u)).bind fun b128 =>
 (bif b128 then
 (k74 [(.p p10), (.i .i64 n101), (.i .i64 n121)] r127.2).bind fun r129 =>
 (AV.asTup 2 r129.1).bind fun c130 =>
 (AV.asI .u64 (c130.getD 0 .u)).bind fun n131 =>
 (AV.asI .i64 (c130.getD 1 .u)).bind fun n132 =>
 (r129.2.ld (.n r7.2.next) 1).bind fun w133 =>
 (AV.asSl w133).bind fun l134 =>
 (bif ((decide ((0 : Int) ≤ (IntKind.i64.wrap (n101 - 1)))) && (decide ((IntKind.i64.wrap (n101 - 1)) < (l134.2 : Int)))) then
 (SA.ref l134.1).bind fun q135 =>
 (r129.2.ld q135.1 ((q135.2 + ((IntKind.i64.wrap (n101 - 1)).toNat * 3)) + 2)).bind fun w136 =>
 (AV.asSl w136).bind fun l137 =>
 (bif ((decide ((0 : Int) ≤ n121)) && (decide (n121 < (l137.2 : Int)))) then
 (SA.ref l137.1).bind fun q138 =>
 (r129.2.ld q138.1 (q138.2 + (n121.toNat * 1))).bind fun w139 =>
 (AV.asI .u64 w139).bind fun n140 =>
 ((bif (((n131 : Int) != n140) == false) then
 some ([(.b ((n132 : Int) != 0))], r129.2)
 else some ([(.b true)], r129.2)) : Option (List AV × AH O)).bind fun r141 =>
 (AV.asB (r141.1.getD 0 .u)).bind fun b142 =>
 (bif b142 then
 ((((some ((.b false), r141.2) : Option (AV × AH O)).map fun r => Sum.inr (Sum.inr r)) : Option ((List AV × AH O) ⊕ ((List AV × AH O) ⊕ (AV × AH O)))).map fun r => Sum.inr (Sum.inr r))
 else some (Sum.inl ([(.i .i64 (IntKind.i64.wrap (n121 + 1)))], r141.2)))
 else none)
 else none)
 else some (Sum.inr (Sum.inl ([], r127.2)))))
noncomputable def law10_PoolPlays_L2 {O : Type} (r7 : AV × AH O) (k75 : Sm O) (p10 : Option (Bid × Nat)) (k85 : Sm O) (v6 : Int) (k74 : Sm O) : List AV × AH O → Option ((List AV × AH O) ⊕ ((List AV × AH O) ⊕ (AV × AH O))) := (fun r100 =>
 (AV.asI .i64 (r100.1.getD 0 .u)).bind fun n101 =>
 (r100.2.ld (.n r7.2.next) 1).bind fun w102 =>
 (AV.asSl w102).bind fun l103 =>
 (bif (decide (n101 ≤ (l103.2 : Int))) then
 (r100.2.ld (.n r7.2.next) 1).bind fun w104 =>
 (AV.asSl w104).bind fun l105 =>
 (bif ((decide ((0 : Int) ≤ (IntKind.i64.wrap (n101 - 1)))) && (decide ((IntKind.i64.wrap (n101 - 1)) < (l105.2 : Int)))) then
 (SA.ref l105.1).bind fun q106 =>
 (r100.2.ld q106.1 ((q106.2 + ((IntKind.i64.wrap (n101 - 1)).toNat * 3)) + 1)).bind fun w107 =>
 (AV.asI .i64 w107).bind fun n108 =>
 (k75 [(.p p10), (.i .i64 n101)] r100.2).bind fun r109 =>
 (AV.asI .i64 r109.1).bind fun n110 =>
 (chk (r109.2.ld (.n r7.2.next) 1 = some (.sl l105.1 l105.2))).bind fun _ =>
 (chk (r109.2.ld q106.1 ((q106.2 + ((IntKind.i64.wrap (n101 - 1)).toNat * 3)) + 1) = some (.i .i64 n108))).bind fun _ =>
 ((bif (((n110 : Int) != n108) == false) then
 (r109.2.ld (.n r7.2.next) 1).bind fun w111 =>
 (AV.asSl w111).bind fun l112 =>
 (bif ((decide ((0 : Int) ≤ (IntKind.i64.wrap (n101 - 1)))) && (decide ((IntKind.i64.wrap (n101 - 1)) < (l112.2 : Int)))) then
 (SA.ref l112.1).bind fun q113 =>
 (r109.2.ld q113.1 (q113.2 + ((IntKind.i64.wrap (n101 - 1)).toNat * 3))).bind fun w114 =>
 (AV.asB w114).bind fun b115 =>
 (k85 [(.p p10), (.i .i64 n101)] r109.2).bind fun r116 =>
 (AV.asB r116.1).bind fun b117 =>
 (chk (r116.2.ld (.n r7.2.next) 1 = some (.sl l112.1 l112.2))).bind fun _ =>
 (chk (r116.2.ld q113.1 (q113.2 + ((IntKind.i64.wrap (n101 - 1)).toNat * 3)) = some (.b b115))).bind fun _ =>
 some ([(.b (!(b117 == b115)))], r116.2)
 else none)
 else some ([(.b true)], r109.2)) : Option (List AV × AH O)).bind fun r118 =>
 (AV.asB (r118.1.getD 0 .u)).bind fun b119 =>
 (bif b119 then
 ((some ((.b false), r118.2) : Option (AV × AH O)).map fun r => Sum.inr (Sum.inr r))
 else bindS (S := List AV × AH O) (R := ((List AV × AH O) ⊕ ((List AV × AH O) ⊕ (AV × AH O)))) (loopF (S := List AV × AH O) (T := (List AV × AH O) ⊕ ((List AV × AH O) ⊕ ((List AV × AH O) ⊕ (AV × AH O)))) (law10_PoolPlays_L3 v6 r7 n101 k74 p10) ([(.i .i64 0)], r118.2)) fun r143 =>
 some (Sum.inl ([(.i .i64 (IntKind.i64.wrap (n101 + 1)))], r143.2)))
 else none)
 else some (Sum.inr (Sum.inl ([], r100.2)))))
noncomputable def law10_PoolPlays_L1 {O : Type} (l1 : SA × Nat) (p9 : Option (Bid × Nat)) (k41 : Sm O) (r7 : AV × AH O) (k80 : Sm O) (p10 : Option (Bid × Nat)) (k76 : Sm O) (k81 : Sm O) (k82 : Sm O) (v6 : Int) (k37 : Sm O) (k84 : Sm O) (k83 : Sm O) : List AV × AH O → Option ((List AV × AH O) ⊕ ((List AV × AH O) ⊕ (AV × AH O))) := (fun r15 =>
 (AV.asI .i64 (r15.1.getD 0 .u)).bind fun n16 =>
 (bif (decide (n16 < (l1.2 : Int))) then
 let σ17 := r15.2.bump 1
 Option.bind p9 fun q18 =>
 (σ17.ld q18.1 q18.2).bind fun w19 =>
 (AV.asP w19).bind fun p20 =>
 (k41 [(.p p20)] σ17).bind fun r21 =>
 (AV.asAgg 2 r21.1).bind fun c22 =>
 (AV.asI .u64 (c22.getD 0 .u)).bind fun n23 =>
 (AV.asI .u64 (c22.getD 1 .u)).bind fun n24 =>
 let σ25 := r21.2.put r15.2.next (.cells true 59 [(.i .u64 0), (.i .u64 0)])
 (σ25.st (.n r15.2.next) 0 [(.i .u64 n23), (.i .u64 n24)]).bind fun σ26 =>
 (σ26.ld (.n r7.2.next) 0).bind fun w27 =>
 (AV.asI .i64 w27).bind fun n28 =>
 (σ26.ld (.n r7.2.next) 1).bind fun w29 =>
 (AV.asSl w29).bind fun l30 =>
 (σ26.ld (.n r7.2.next) 2).bind fun w31 =>
 (AV.asSl w31).bind fun l32 =>
 (σ26.ld (.n r7.2.next) 3).bind fun w33 =>
 (AV.asI .i64 w33).bind fun n34 =>
 (bif ((decide ((0 : Int) ≤ n16)) && (decide (n16 < (l1.2 : Int)))) then
 (SA.ref l1.1).bind fun q35 =>
 (σ26.ld q35.1 (q35.2 + (n16.toNat * 4))).bind fun w36 =>
 (AV.asI .i64 w36).bind fun n37 =>
 (σ26.ld q35.1 ((q35.2 + (n16.toNat * 4)) + 1)).bind fun w38 =>
 (AV.asI .i64 w38).bind fun n39 =>
 (σ26.ld q35.1 (((q35.2 + (n16.toNat * 4)) + 1) + 1)).bind fun w40 =>
 (AV.asI .i64 w40).bind fun n41 =>
 (σ26.ld q35.1 ((((q35.2 + (n16.toNat * 4)) + 1) + 1) + 1)).bind fun w42 =>
 (AV.asI .u64 w42).bind fun n43 =>
 (k80 [(.p p10), (.agg [(.i .i64 n28), (.sl l30.1 l30.2), (.sl l32.1 l32.2), (.i .i64 n34)]), (.agg [(.i .i64 n37), (.i .i64 n39), (.i .i64 n41), (.i .u64 n43)])] σ26).bind fun r44 =>
 (AV.asTup 3 r44.1).bind fun c45 =>
 (AV.asAgg 4 (c45.getD 0 .u)).bind fun c46 =>
 (AV.asI .i64 (c46.getD 0 .u)).bind fun n47 =>
 (AV.asSl (c46.getD 1 .u)).bind fun l48 =>
 (AV.asSl (c46.getD 2 .u)).bind fun l49 =>
 (AV.asI .i64 (c46.getD 3 .u)).bind fun n50 =>
 (AV.asI .u64 (c45.getD 1 .u)).bind fun n51 =>
 (AV.asB (c45.getD 2 .u)).bind fun b52 =>
 (r44.2.st (.n r7.2.next) 0 [(.i .i64 n47), (.sl l48.1 l48.2), (.sl l49.1 l49.2), (.i .i64 n50)]).bind fun σ53 =>
 ((bif ((!b52) == false) then
 (σ53.ld (.n r7.2.next) 0).bind fun w54 =>
 (AV.asI .i64 w54).bind fun n55 =>
 (σ53.ld (.n r7.2.next) 1).bind fun w56 =>
 (AV.asSl w56).bind fun l57 =>
 (σ53.ld (.n r7.2.next) 2).bind fun w58 =>
 (AV.asSl w58).bind fun l59 =>
 (σ53.ld (.n r7.2.next) 3).bind fun w60 =>
 (AV.asI .i64 w60).bind fun n61 =>
 (k76 [(.p p10)] σ53).bind fun r62 =>
 (AV.asI .i64 r62.1).bind fun n63 =>
 (chk (r62.2.ld (.n r7.2.next) 0 = some (.i .i64 n55))).bind fun _ =>
 (chk (r62.2.ld (.n r7.2.next) 1 = some (.sl l57.1 l57.2))).bind fun _ =>
 (chk (r62.2.ld (.n r7.2.next) 2 = some (.sl l59.1 l59.2))).bind fun _ =>
 (chk (r62.2.ld (.n r7.2.next) 3 = some (.i .i64 n61))).bind fun _ =>
 (k81 [(.agg [(.i .i64 n55), (.sl l57.1 l57.2), (.sl l59.1 l59.2), (.i .i64 n61)])] r62.2).bind fun r64 =>
 (AV.asI .i64 r64.1).bind fun n65 =>
 some ([(.b ((n63 : Int) != n65))], r64.2)
 else some ([(.b true)], σ53)) : Option (List AV × AH O)).bind fun r66 =>
 (AV.asB (r66.1.getD 0 .u)).bind fun b67 =>
 ((bif (b67 == false) then
 (r66.2.ld (.n r7.2.next) 1).bind fun w68 =>
 (AV.asSl w68).bind fun l69 =>
 (k82 [(.p p10)] r66.2).bind fun r70 =>
 (AV.asI .i64 r70.1).bind fun n71 =>
 (chk (r70.2.ld (.n r7.2.next) 1 = some (.sl l69.1 l69.2))).bind fun _ =>
 some ([(.b ((n71 : Int) != (l69.2 : Int)))], r70.2)
 else some ([(.b true)], r66.2)) : Option (List AV × AH O)).bind fun r72 =>
 (AV.asB (r72.1.getD 0 .u)).bind fun b73 =>
 ((bif (b73 == false) then
 Option.bind p9 fun q74 =>
 (r72.2.ld q74.1 q74.2).bind fun w75 =>
 (AV.asP w75).bind fun p76 =>
 (r72.2.ld (.n r7.2.next) 3).bind fun w77 =>
 (AV.asI .i64 w77).bind fun n78 =>
 let v79 : Int := (IntKind.i64.wrap (n78 * (IntKind.i64.wrap (v6 + 1))))
 (k37 [(.p p76)] r72.2).bind fun r80 =>
 (AV.asI .i64 r80.1).bind fun n81 =>
 (chk (r80.2.ld (.n r7.2.next) 3 = some (.i .i64 n78))).bind fun _ =>
 some ([(.b ((n81 : Int) != v79))], r80.2)
 else some ([(.b true)], r72.2)) : Option (List AV × AH O)).bind fun r82 =>
 (AV.asB (r82.1.getD 0 .u)).bind fun b83 =>
 ((bif (b83 == false) then
 Option.bind p9 fun q84 =>
 (r82.2.ld q84.1 q84.2).bind fun w85 =>
 (AV.asP w85).bind fun p86 =>
 (r82.2.ld (.n r15.2.next) 0).bind fun w87 =>
 (AV.asI .u64 w87).bind fun n88 =>
 (r82.2.ld (.n r15.2.next) 1).bind fun w89 =>
 (AV.asI .u64 w89).bind fun n90 =>
 (k84 [(.p p86), (.agg [(.i .u64 n88), (.i .u64 n90)])] r82.2).bind fun r91 =>
 (AV.asAgg 2 r91.1).bind fun c92 =>
 (AV.asI .u64 (c92.getD 0 .u)).bind fun n93 =>
 (AV.asI .u64 (c92.getD 1 .u)).bind fun n94 =>
 (k83 [(.agg [(.i .u64 n93), (.i .u64 n94)]), (.agg [(.i .u64 0), (.i .u64 n51)])] r91.2).bind fun r95 =>
 (AV.asI .i64 r95.1).bind fun n96 =>
 some ([(.b (decide (n96 > 0)))], r95.2)
 else some ([(.b true)], r82.2)) : Option (List AV × AH O)).bind fun r97 =>
 (AV.asB (r97.1.getD 0 .u)).bind fun b98 =>
 (bif b98 then
 ((some ((.b false), r97.2) : Option (AV × AH O)).map fun r => Sum.inr (Sum.inr r))
 else some (Sum.inl ([(.i .i64 (IntKind.i64.wrap (n16 + 1)))], r97.2)))
 else none)
 else some (Sum.inr (Sum.inl ([], r15.2)))))
noncomputable def law10_PoolPlays_c {O : Type} (k68 k69 k70 k41 k80 k76 k81 k82 k37 k84 k83 k75 k85 k74 : Sm O) : Sm O := fun xs σ =>
 bif Nat.beq xs.length 2 then
 (AV.asI .u8 (xs.getD 0 .u)).bind fun n0 =>
 (AV.asSl (xs.getD 1 .u)).bind fun l1 =>
 (k68 [] σ).bind fun r2 =>
 (AV.asB r2.1).bind fun b3 =>
 (bif (!b3) then
 some ((.b false), r2.2)
 else (k69 [(.sl l1.1 l1.2)] r2.2).bind fun r4 =>
 (AV.asB r4.1).bind fun b5 =>
 (bif (!b5) then
 some ((.b true), r4.2)
 else let v6 : Int := (IntKind.i64.wrap (1 + (IntKind.i64.wrap (Int.tmod n0 6))))
 (k70 [(.i .i64 v6)] r4.2).bind fun r7 =>
 (AV.asTup 3 r7.1).bind fun c8 =>
 (AV.asP (c8.getD 0 .u)).bind fun p9 =>
 (AV.asP (c8.getD 1 .u)).bind fun p10 =>
 (AV.asB (c8.getD 2 .u)).bind fun b11 =>
 (bif (!b11) then
 some ((.b false), r7.2)
 else let σ12 := r7.2.bump 1
 let σ13 := σ12.put r7.2.next (.cells true 123 [(.i .i64 0), (.sl .nil 0), (.sl .nil 0), (.i .i64 0)])
 (σ13.st (.n r7.2.next) 0 [(.i .i64 v6), (.sl .nil 0), (.sl .nil 0), (.i .i64 0)]).bind fun σ14 =>
 bindS (S := List AV × AH O) (R := (AV × AH O)) (loopF (S := List AV × AH O) (T := (List AV × AH O) ⊕ (AV × AH O)) (law10_PoolPlays_L1 l1 p9 k41 r7 k80 p10 k76 k81 k82 v6 k37 k84 k83) ([(.i .i64 0)], σ14)) fun r99 =>
 bindS (S := List AV × AH O) (R := (AV × AH O)) (loopF (S := List AV × AH O) (T := (List AV × AH O) ⊕ (AV × AH O)) (law10_PoolPlays_L2 r7 k75 p10 k85 v6 k74) ([(.i .i64 1)], r99.2)) fun r144 =>
 some ((.b true), r144.2))))
 else none
noncomputable def law10_PoolPlays {O : Type} : Sm O := law10_PoolPlays_c law10_awake law10_few law10_made meter_Meter__Steps law10_do pool_Pool__Count haymowref10_Count pool_Pool__Made meter_Meter__Held meter_Meter__Since haymowref01_Cmp pool_Pool__Gen pool_Pool__Taken pool_Pool__Get
theorem law10_PoolPlays_ent : Entered Try.prog 13 := Try.call13
theorem law10_PoolPlays_run {O : Type} (k68 k69 k70 k41 k80 k76 k81 k82 k37 k84 k83 k75 k85 k74 : Sm O) : run (O := O) Try.prog [(68, k68), (69, k69), (70, k70), (41, k41), (80, k80), (76, k76), (81, k81), (82, k82), (37, k37), (84, k84), (83, k83), (75, k75), (85, k85), (74, k74)] Try.f13 (.n .z (.n (.n .z (.n .z .z)) (.n (.n .z (.n .z .z)) (.n .z (.n .z (.n (.n .z (.n .z .z)) (.n .z (.n (.n .z (.n (.lp true 0 [(10, .one (.i .i64))] [] (.n (.n .z .z) (.n (.n (.n .z (.n (.d [] [0, 1, 2, 3, 4, 5, 6, 7, 8, 9, 10, 11, 12, 13] [0, 0, 0, 0, 12, 28, 63, 127, 255, 255, 255, 511, 3071, 8191]) (.n (.d [(2, 5, [(66, .one .b)]), (9, 6, [(74, .one .b)]), (17, 11, [(87, .one .b)]), (30, 10, [(99, .one .b)])] [0, 1, 2, 3, 5, 4, 6, 7, 8, 9, 10, 12, 13, 14, 11, 15, 16, 17, 18, 19, 20, 21, 23, 24, 25, 26, 27, 22, 28, 29, 30, 31, 32, 33, 34, 35, 37, 38, 36, 39, 40, 41] [0, 1, 3, 7, 15, 7, 63, 127, 255, 511, 1023, 2047, 1023, 5119, 13311, 32767, 65535, 131071, 262143, 524287, 1048575, 2097151, 4194303, 262143, 8650751, 262143, 33816575, 126091263, 268435455, 536870911, 1073741823, 2147483647, 4294967295, 8589934591, 17179869183, 2147483647, 68719476735, 2147483647, 139586437119, 549755813887, 1099511627775, 2199023255551]) (.n .z .z)))) .z) .z))) .z)) (.n (.n .z (.n (.lp true 2 [(13, .one (.i .i64))] [] (.n (.n .z .z) (.n (.n (.n (.n (.d [(11, 11, [(130, .one .b)])] [0, 1, 3, 4, 5, 6, 7, 8, 9, 2, 10, 11, 12, 13, 15, 16, 17, 18, 19, 20, 21, 14, 22, 23] [0, 0, 3, 0, 8, 0, 32, 120, 248, 504, 1023, 2047, 4095, 4095, 16383, 4095, 36863, 4095, 135167, 495615, 1019903, 2068479, 4194303, 8388607]) (.n .z .z)) (.n .z (.n (.lp true 4 [(14, .one (.i .i64))] [] (.n (.n (.g [(3, 7, [(142, .one .b)])]) .z) (.n (.n (.n .z (.n (.g [(12, 2, [(167, .one .b)])]) (.n .z .z))) .z) .z))) .z))) .z) .z))) .z)) .z))))))))) = law10_PoolPlays_c k68 k69 k70 k41 k80 k76 k81 k82 k37 k84 k83 k75 k85 k74 := by kernel_rfl
theorem law10_PoolPlays_sound {O : Type} {RO : O → Loc → (Nat → Option Obj) → Prop} : FSound RO Try.prog 13 (law10_PoolPlays) :=
   have h : FSound RO Try.prog 13 (law10_PoolPlays_c law10_awake law10_few law10_made meter_Meter__Steps law10_do pool_Pool__Count haymowref10_Count pool_Pool__Made meter_Meter__Held meter_Meter__Since haymowref01_Cmp pool_Pool__Gen pool_Pool__Taken pool_Pool__Get) := (law10_PoolPlays_run law10_awake law10_few law10_made meter_Meter__Steps law10_do pool_Pool__Count haymowref10_Count pool_Pool__Made meter_Meter__Held meter_Meter__Since haymowref01_Cmp pool_Pool__Gen pool_Pool__Taken pool_Pool__Get) ▸ run_sound (gcons law10_awake_ent (law10_awake_sound) <| gcons law10_few_ent (law10_few_sound) <| gcons law10_made_ent (law10_made_sound) <| gcons meter_Meter__Steps_ent (meter_Meter__Steps_sound) <| gcons law10_do_ent (law10_do_sound) <| gcons pool_Pool__Count_ent (pool_Pool__Count_sound) <| gcons haymowref10_Count_ent (haymowref10_Count_sound) <| gcons pool_Pool__Made_ent (pool_Pool__Made_sound) <| gcons meter_Meter__Held_ent (meter_Meter__Held_sound) <| gcons meter_Meter__Since_ent (meter_Meter__Since_sound) <| gcons haymowref01_Cmp_ent (haymowref01_Cmp_sound) <| gcons pool_Pool__Gen_ent (pool_Pool__Gen_sound) <| gcons pool_Pool__Taken_ent (pool_Pool__Taken_sound) <| gcons pool_Pool__Get_ent (pool_Pool__Get_sound) <| gnil) mixed Try.func13 (by kernel_rfl) _
   h

end Go.Abs.Try
