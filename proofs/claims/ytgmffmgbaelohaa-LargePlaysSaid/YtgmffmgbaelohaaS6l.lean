/-
  What functions of the program do. No conditions.
-/
import Derived.Test.YtgmffmgbaelohaaAbsExtern
import Derived.Test.YtgmffmgbaelohaaAbsWord
import Derived.Test.YtgmffmgbaelohaaProg
import Derived.KernelRfl
set_option linter.unusedVariables false
set_option linter.unusedSimpArgs false
set_option linter.constructorNameAsVariable false
set_option maxRecDepth 100000
namespace Go.Abs.Try
open Go Go.Abs Go.Proofs
noncomputable section
variable {O : Type} {RO : O -> Loc -> (Nat -> Option Obj) -> Prop}
theorem mixed : Try.prog.follows .mixedOrders = true := by kernel_rfl
theorem sdf {G : List (FuncId × Sm O)} {f : FuncId} {fn : Func} {an : Ann} {s : Sm O} (e : run Try.prog G fn an = s) (hG : GSound RO Try.prog G) (hf : Try.prog.funcs[f]? = some fn) (hk : fnOK fn = true) : FSound RO Try.prog f s := e ▸ run_sound hG mixed hf hk an
abbrev T_uint64 : Nat := 36
abbrev T_haymowref15_State : Nat := 91
abbrev T_chain_Chain : Nat := 130
abbrev T_chain_Table : Nat := 136
abbrev T_haymowref10_Entry : Nat := 144
abbrev T_pool_Pool : Nat := 204
abbrev T_mem_space : Nat := 219
theorem bits_Add64_ext : ExternOK Try.prog 120 (bits_Add64 (O := O)) := add64_ext Try.func120 (by kernel_rfl) (by kernel_rfl) (by kernel_rfl) rfl
theorem bits_Sub64_ext : ExternOK Try.prog 134 (bits_Sub64 (O := O)) := sub64_ext Try.func134 (by kernel_rfl) (by kernel_rfl) (by kernel_rfl) rfl
def meter_New_c : Sm O := fun xs h =>
 bif Nat.beq xs.length 0 then
 let h0 := h.bump 1
 let h1 := h0.put h.next (.cells true 161 [(.i .u64 0), (.i .u64 0), (.i .u64 0), (.i .u64 0), (.i .i64 0), (.i .i64 0)])
 some ((.p (some ((.n h.next), 0))), h1)
 else none
def meter_New : Sm O := meter_New_c
theorem meter_New_ent : Entered Try.prog 119 := Try.call119
theorem meter_New_run : run (O := O) Try.prog [] Try.f119 (.n .z .z) = meter_New_c  := by kernel_rfl
theorem meter_New_sound : FSound RO Try.prog 119 meter_New := sdf meter_New_run (gnil) Try.func119 (by kernel_rfl)
def mem_New_c (k119 : Sm O) : Sm O := fun xs h =>
 bif Nat.beq xs.length 0 then
 let h0 := h.bump 1
 (k119 [] h0).bind fun r1 =>
 (AV.asP r1.1).bind fun p2 =>
 let h3 := r1.2.put h.next (.cells true 43 [(.p p2), (.sl .nil 0), (.i .i64 0), (.i .i64 0)])
 some ((.p (some ((.n h.next), 0))), h3)
 else none
def mem_New : Sm O := mem_New_c meter_New
theorem mem_New_ent : Entered Try.prog 56 := Try.call56
theorem mem_New_run (k119 : Sm O) : run (O := O) Try.prog [(119, k119)] Try.f56 (.n .z .z) = mem_New_c k119 := by kernel_rfl
theorem mem_New_sound : FSound RO Try.prog 56 mem_New := sdf (mem_New_run _) (gcons meter_New_ent meter_New_sound <| gnil) Try.func56 (by kernel_rfl)
def meter_words__open_c : Sm O := fun xs h =>
 bif Nat.beq xs.length 2 then
 (AV.asP (xs.getD 0 .u)).bind fun p0 =>
 gtI xs 1 fun n1 =>
 Option.bind p0 fun q2 =>
 ldI h q2.1 q2.2 fun n4 =>
 Option.bind p0 fun q5 =>
 (h.st q5.1 q5.2 [(.i .i64 (IntKind.i64.wrap (n4 + n1)))]).bind fun h6 =>
 Option.bind p0 fun q7 =>
 ldI h6 q7.1 (q7.2 + 1) fun n9 =>
 Option.bind p0 fun q10 =>
 ldI h6 q10.1 q10.2 fun n12 =>
 Option.bind p0 fun q13 =>
 (h6.st q13.1 (q13.2 + 1) [(.i .i64 (if n12 > n9 then n12 else n9))]).bind fun h14 =>
 some ((.tup []), h14)
 else none
def meter_words__open : Sm O := meter_words__open_c
theorem meter_words__open_ent : Entered Try.prog 160 := Try.call160
theorem meter_words__open_run : run (O := O) Try.prog [] Try.f160 (.n .z (.d [] [0, 1, 2, 3, 4, 5, 6, 7, 8, 9, 10, 11, 12] [0, 0, 2, 6, 14, 0, 32, 96, 224, 510, 1023, 2047, 4095])) = meter_words__open_c  := by kernel_rfl
theorem meter_words__open_sound : FSound RO Try.prog 160 meter_words__open := sdf meter_words__open_run (gnil) Try.func160 (by kernel_rfl)
def meter_Meter__Hold_c (k160 : Sm O) : Sm O := fun xs h =>
 bif Nat.beq xs.length 2 then
 (AV.asP (xs.getD 0 .u)).bind fun p0 =>
 gtI xs 1 fun n1 =>
 ((bif ((Option.isNone p0) == false) then
 some ([(.b (decide (n1 < 0)))], h)
 else some ([(.b true)], h)) : Option (List AV × AH O)).bind fun r2 =>
 (AV.asB (r2.1.getD 0 .u)).bind fun b3 =>
 (bif b3 then
 some ((.i .i64 1), r2.2)
 else Option.bind p0 fun q4 =>
 ldI r2.2 q4.1 (q4.2 + 4) fun n6 =>
 let c7 : Bool := (decide (n1 > (IntKind.i64.wrap (281474976710656 - n6))))
 (bif c7 then
 some ((.i .i64 3), r2.2)
 else Option.bind p0 fun q8 =>
 (k160 [(.p (some (q8.1, (q8.2 + 4)))), (.i .i64 n1)] r2.2).bind fun r9 =>
 (AV.asTup 0 r9.1).bind fun c10 =>
 some ((.i .i64 0), r9.2)))
 else none
def meter_Meter__Hold : Sm O := meter_Meter__Hold_c meter_words__open
theorem meter_Meter__Hold_ent : Entered Try.prog 137 := Try.call137
theorem meter_Meter__Hold_run (k160 : Sm O) : run (O := O) Try.prog [(160, k160)] Try.f137 (.n .z (.n (.n (.n (.g [(2, 2, [(11, .one .b)])]) (.n .z (.n .z (.n .z .z)))) .z) (.n .z .z))) = meter_Meter__Hold_c k160 := by kernel_rfl
theorem meter_Meter__Hold_sound : FSound RO Try.prog 137 meter_Meter__Hold := sdf (meter_Meter__Hold_run _) (gcons meter_words__open_ent meter_words__open_sound <| gnil) Try.func137 (by kernel_rfl)
def mem_Mem__Open_L1 (p0 : Option (Bid × Nat)) : List AV × AH O -> Option ((List AV × AH O) ⊕ (List AV × AH O)) := (fun r8 =>
 (AV.asI .i64 (r8.1.getD 0 .u)).bind fun n9 =>
 Option.bind p0 fun q10 =>
 ldS r8.2 q10.1 (q10.2 + 1) fun l12 =>
 ((bif ((decide (n9 < (l12.2 : Int))) == true) then
 Option.bind p0 fun q13 =>
 ldS r8.2 q13.1 (q13.2 + 1) fun l15 =>
 (bif ((decide ((0 : Int) <= n9)) && (decide (n9 < (l15.2 : Int)))) then
 (SA.ref l15.1).bind fun q16 =>
 (r8.2.ld q16.1 ((q16.2 + (n9.toNat * 2)) + 1)).bind fun w17 =>
 (AV.asB w17).bind fun b18 =>
 some ([(.b b18)], r8.2)
 else none)
 else some ([(.b false)], r8.2)) : Option (List AV × AH O)).bind fun r19 =>
 (AV.asB (r19.1.getD 0 .u)).bind fun b20 =>
 (bif b20 then
 some (Sum.inl ([(.i .i64 (IntKind.i64.wrap (n9 + 1)))], r19.2))
 else some (Sum.inr ([(.i .i64 n9)], r19.2))))
def mem_Mem__Open_c (k137 : Sm O) : Sm O := fun xs h =>
 bif Nat.beq xs.length 2 then
 (AV.asP (xs.getD 0 .u)).bind fun p0 =>
 gtI xs 1 fun n1 =>
 (bif (decide (n1 < 0)) then
 some ((.tup [(.i .i64 0), (.i .i64 1)]), h)
 else (bif (decide (n1 > 4194304)) then
 some ((.tup [(.i .i64 0), (.i .i64 7)]), h)
 else Option.bind p0 fun q2 =>
 ldI h q2.1 (q2.2 + 3) fun n4 =>
 (bif (decide (n4 >= 262144)) then
 some ((.tup [(.i .i64 0), (.i .i64 3)]), h)
 else Option.bind p0 fun q5 =>
 ldI h q5.1 (q5.2 + 2) fun n7 =>
 (loopF (S := List AV × AH O) (T := List AV × AH O) (mem_Mem__Open_L1 p0) ([(.i .i64 n7)], h)).bind fun r21 =>
 (AV.asI .i64 (r21.1.getD 0 .u)).bind fun n22 =>
 Option.bind p0 fun q23 =>
 ldS r21.2 q23.1 (q23.2 + 1) fun l25 =>
 ((bif ((n22 : Int) == (l25.2 : Int)) then
 let h26 := r21.2.bump 2
 Option.bind p0 fun q27 =>
 ldS h26 q27.1 (q27.2 + 1) fun l29 =>
 let h30 := h26.put r21.2.next (.cells true 219 [(.sl .nil 0), (.b false)])
 (h30.rdSl (.loc (.n r21.2.next) 0 2) 1 2).bind fun new31 =>
 (bif (Nat.ble ((l29.2 + 1) * 33) 35184372088832) then
 (h30.appSl (r21.2.next + 1) 219 2 l29.1 l29.2 1 new31).bind fun r32 =>
 (AV.asSl r32.1).bind fun l33 =>
 Option.bind p0 fun q34 =>
 (r32.2.st q34.1 (q34.2 + 1) [(.sl l33.1 l33.2)]).bind fun h35 =>
 some ([], h35)
 else none)
 else some ([], r21.2)) : Option (List AV × AH O)).bind fun r36 =>
 let h37 := r36.2.bump 1
 Option.bind p0 fun q38 =>
 ldS h37 q38.1 (q38.2 + 1) fun l40 =>
 (bif ((((decide ((0 : Int) <= n1)) && (decide (n1 <= n1))) && (decide ((n1 * 8) <= 140737488355328))) && (decide (n1 <= 140737488355328))) then
 let h41 := h37.put r36.2.next (.cells true 36 ((List.replicate n1.toNat [(.i .u64 0)]).flatten))
 (bif ((decide ((0 : Int) <= n22)) && (decide (n22 < (l40.2 : Int)))) then
 (SA.ref l40.1).bind fun q42 =>
 (h41.st q42.1 (q42.2 + (n22.toNat * 2)) [(.sl (.loc (.n r36.2.next) 0 1) n1.toNat), (.b true)]).bind fun h43 =>
 Option.bind p0 fun q44 =>
 ldI h43 q44.1 (q44.2 + 3) fun n46 =>
 Option.bind p0 fun q47 =>
 (h43.st q47.1 (q47.2 + 2) [(.i .i64 (IntKind.i64.wrap (n22 + 1)))]).bind fun h48 =>
 Option.bind p0 fun q49 =>
 (h48.st q49.1 (q49.2 + 3) [(.i .i64 (IntKind.i64.wrap (n46 + 1)))]).bind fun h50 =>
 Option.bind p0 fun q51 =>
 ldP h50 q51.1 q51.2 fun p53 =>
 (k137 [(.p p53), (.i .i64 n1)] h50).bind fun r54 =>
 (AV.asI .i64 r54.1).bind fun n55 =>
 some ((.tup [(.i .i64 n22), (.i .i64 0)]), r54.2)
 else none)
 else none))))
 else none
def mem_Mem__Open : Sm O := mem_Mem__Open_c meter_Meter__Hold
theorem mem_Mem__Open_ent : Entered Try.prog 82 := Try.call82
theorem mem_Mem__Open_run (k137 : Sm O) : run (O := O) Try.prog [(137, k137)] Try.f82 (.n .z (.n (.n (.n .z (.n .z (.n .z (.n .z (.n .z (.n .z .z)))))) .z) (.n .z (.n (.n (.lp false 1 [(6, .one (.i .i64))] [(6, .one (.i .i64))] (.n (.n (.g [(7, 8, [(39, .one .b)])]) .z) .z)) .z) (.n (.n .z (.j false [] .z .z)) (.n (.d [] [0, 1, 2, 3, 4, 5, 6, 7, 8, 9] [0, 1, 3, 7, 0, 0, 32, 96, 255, 511]) (.n .z (.n .z .z)))))))) = mem_Mem__Open_c k137 := by kernel_rfl
theorem mem_Mem__Open_sound : FSound RO Try.prog 82 mem_Mem__Open := sdf (mem_Mem__Open_run _) (gcons meter_Meter__Hold_ent meter_Meter__Hold_sound <| gnil) Try.func82 (by kernel_rfl)
def pool_New_c (k82 : Sm O) : Sm O := fun xs h =>
 bif Nat.beq xs.length 2 then
 (AV.asP (xs.getD 0 .u)).bind fun p0 =>
 gtI xs 1 fun n1 =>
 ((bif ((Option.isNone p0) == false) then
 some ([(.b (decide (n1 < 1)))], h)
 else some ([(.b true)], h)) : Option (List AV × AH O)).bind fun r2 =>
 (AV.asB (r2.1.getD 0 .u)).bind fun b3 =>
 ((bif (b3 == false) then
 some ([(.b (decide (n1 > 60)))], r2.2)
 else some ([(.b true)], r2.2)) : Option (List AV × AH O)).bind fun r4 =>
 (AV.asB (r4.1.getD 0 .u)).bind fun b5 =>
 (bif b5 then
 some ((.tup [(.p none), (.i .i64 1)]), r4.2)
 else (k82 [(.p p0), (.i .i64 0)] r4.2).bind fun r6 =>
 (AV.asTup 2 r6.1).bind fun c7 =>
 gtI c7 0 fun n8 =>
 gtI c7 1 fun n9 =>
 (bif ((n9 : Int) != 0) then
 some ((.tup [(.p none), (.i .i64 n9)]), r6.2)
 else let h10 := r6.2.bump 1
 let h11 := h10.put r6.2.next (.cells true 204 [(.p p0), (.i .i64 n8), (.i .i64 n1), (.i .i64 0), (.i .i64 0), (.i .i64 0), (.i .i64 0)])
 some ((.tup [(.p (some ((.n r6.2.next), 0))), (.i .i64 0)]), h11)))
 else none
def pool_New : Sm O := pool_New_c mem_Mem__Open
theorem pool_New_ent : Entered Try.prog 81 := Try.call81
theorem pool_New_run (k82 : Sm O) : run (O := O) Try.prog [(82, k82)] Try.f81 (.n .z (.n (.n (.g [(2, 2, [(13, .one .b)]), (6, 2, [(17, .one .b)])]) (.n .z .z)) (.n .z (.n (.n .z (.n .z .z)) .z)))) = pool_New_c k82 := by kernel_rfl
theorem pool_New_sound : FSound RO Try.prog 81 pool_New := sdf (pool_New_run _) (gcons mem_Mem__Open_ent mem_Mem__Open_sound <| gnil) Try.func81 (by kernel_rfl)
def large_New_c (k81 : Sm O) : Sm O := fun xs h =>
 bif Nat.beq xs.length 1 then
 (AV.asP (xs.getD 0 .u)).bind fun p0 =>
 (k81 [(.p p0), (.i .i64 5)] h).bind fun r1 =>
 (AV.asTup 2 r1.1).bind fun c2 =>
 (AV.asP (c2.getD 0 .u)).bind fun p3 =>
 gtI c2 1 fun n4 =>
 (bif ((n4 : Int) != 0) then
 some ((.tup [(.p none), (.i .i64 n4)]), r1.2)
 else let h5 := r1.2.bump 1
 let h6 := h5.put r1.2.next (.cells true 168 [(.p p0), (.p p3), (.i .i64 0), (.i .i64 0), (.i .i64 0), (.i .i64 0), (.i .i64 0), (.i .i64 0), (.i .u64 0), (.i .i64 0), (.i .i64 0)])
 some ((.tup [(.p (some ((.n r1.2.next), 0))), (.i .i64 0)]), h6))
 else none
def large_New : Sm O := large_New_c pool_New
theorem large_New_ent : Entered Try.prog 25 := Try.call25
theorem large_New_run (k81 : Sm O) : run (O := O) Try.prog [(81, k81)] Try.f25 (.n .z (.n .z (.n (.n .z (.n .z .z)) .z))) = large_New_c k81 := by kernel_rfl
theorem large_New_sound : FSound RO Try.prog 25 large_New := sdf (large_New_run _) (gcons pool_New_ent pool_New_sound <| gnil) Try.func25 (by kernel_rfl)
def law15_made_c (k56 k25 : Sm O) : Sm O := fun xs h =>
 bif Nat.beq xs.length 0 then
 (k56 [] h).bind fun r0 =>
 (AV.asP r0.1).bind fun p1 =>
 (bif (Option.isNone p1) then
 some ((.tup [(.p none), (.p none), (.b false)]), r0.2)
 else (k25 [(.p p1)] r0.2).bind fun r2 =>
 (AV.asTup 2 r2.1).bind fun c3 =>
 (AV.asP (c3.getD 0 .u)).bind fun p4 =>
 gtI c3 1 fun n5 =>
 ((bif ((!(Option.isNone p4)) == true) then
 some ([(.b ((n5 : Int) == 0))], r2.2)
 else some ([(.b false)], r2.2)) : Option (List AV × AH O)).bind fun r6 =>
 (AV.asB (r6.1.getD 0 .u)).bind fun b7 =>
 some ((.tup [(.p p1), (.p p4), (.b b7)]), r6.2))
 else none
def law15_made : Sm O := law15_made_c mem_New large_New
theorem law15_made_ent : Entered Try.prog 26 := Try.call26
theorem law15_made_run (k56 k25 : Sm O) : run (O := O) Try.prog [(56, k56), (25, k25)] Try.f26 (.n .z (.n .z (.n (.n .z (.n .z .z)) (.n .z (.n (.g [(4, 2, [(21, .one .b)])]) .z))))) = law15_made_c k56 k25 := by kernel_rfl
theorem law15_made_sound : FSound RO Try.prog 26 law15_made := sdf (law15_made_run _ _) (gcons mem_New_ent mem_New_sound <| gcons large_New_ent large_New_sound <| gnil) Try.func26 (by kernel_rfl)
def pool_Pool__width_c : Sm O := fun xs h =>
 bif Nat.beq xs.length 1 then
 (AV.asP (xs.getD 0 .u)).bind fun p0 =>
 Option.bind p0 fun q1 =>
 ldI h q1.1 (q1.2 + 2) fun n3 =>
 some ((.i .i64 (IntKind.i64.wrap (n3 + 1))), h)
 else none
def pool_Pool__width : Sm O := pool_Pool__width_c
theorem pool_Pool__width_ent : Entered Try.prog 155 := Try.call155
theorem pool_Pool__width_run : run (O := O) Try.prog [] Try.f155 (.n .z .z) = pool_Pool__width_c  := by kernel_rfl
theorem pool_Pool__width_sound : FSound RO Try.prog 155 pool_Pool__width := sdf pool_Pool__width_run (gnil) Try.func155 (by kernel_rfl)
def mem_Mem__at_c : Sm O := fun xs h =>
 bif Nat.beq xs.length 2 then
 (AV.asP (xs.getD 0 .u)).bind fun p0 =>
 gtI xs 1 fun n1 =>
 ((bif ((decide (n1 < 0)) == false) then
 Option.bind p0 fun q2 =>
 ldS h q2.1 (q2.2 + 1) fun l4 =>
 some ([(.b (decide (n1 >= (l4.2 : Int))))], h)
 else some ([(.b true)], h)) : Option (List AV × AH O)).bind fun r5 =>
 (AV.asB (r5.1.getD 0 .u)).bind fun b6 =>
 ((bif (b6 == false) then
 Option.bind p0 fun q7 =>
 ldS r5.2 q7.1 (q7.2 + 1) fun l9 =>
 (bif ((decide ((0 : Int) <= n1)) && (decide (n1 < (l9.2 : Int)))) then
 (SA.ref l9.1).bind fun q10 =>
 (r5.2.ld q10.1 ((q10.2 + (n1.toNat * 2)) + 1)).bind fun w11 =>
 (AV.asB w11).bind fun b12 =>
 some ([(.b (!b12))], r5.2)
 else none)
 else some ([(.b true)], r5.2)) : Option (List AV × AH O)).bind fun r13 =>
 (AV.asB (r13.1.getD 0 .u)).bind fun b14 =>
 (bif b14 then
 some ((.p none), r13.2)
 else Option.bind p0 fun q15 =>
 ldS r13.2 q15.1 (q15.2 + 1) fun l17 =>
 (bif ((decide ((0 : Int) <= n1)) && (decide (n1 < (l17.2 : Int)))) then
 (SA.ref l17.1).bind fun q18 =>
 some ((.p (some (q18.1, (q18.2 + (n1.toNat * 2))))), r13.2)
 else none))
 else none
def mem_Mem__at : Sm O := mem_Mem__at_c
theorem mem_Mem__at_ent : Entered Try.prog 138 := Try.call138
theorem mem_Mem__at_run : run (O := O) Try.prog [] Try.f138 (.n .z (.n (.n (.g [(2, 7, [(15, .one .b)]), (11, 9, [(26, .one .b)])]) (.n .z .z)) .z)) = mem_Mem__at_c  := by kernel_rfl
theorem mem_Mem__at_sound : FSound RO Try.prog 138 mem_Mem__at := sdf mem_Mem__at_run (gnil) Try.func138 (by kernel_rfl)
def mem_Mem__Grow_c (k138 k137 : Sm O) : Sm O := fun xs h =>
 bif Nat.beq xs.length 3 then
 (AV.asP (xs.getD 0 .u)).bind fun p0 =>
 gtI xs 1 fun n1 =>
 gtI xs 2 fun n2 =>
 (k138 [(.p p0), (.i .i64 n1)] h).bind fun r3 =>
 (AV.asP r3.1).bind fun p4 =>
 (bif (Option.isNone p4) then
 some ((.i .i64 10), r3.2)
 else Option.bind p4 fun q5 =>
 ldS r3.2 q5.1 q5.2 fun l7 =>
 (bif (decide (n2 < (l7.2 : Int))) then
 some ((.i .i64 1), r3.2)
 else (bif (decide (n2 > 4194304)) then
 some ((.i .i64 7), r3.2)
 else Option.bind p0 fun q8 =>
 ldP r3.2 q8.1 q8.2 fun p10 =>
 Option.bind p4 fun q11 =>
 ldS r3.2 q11.1 q11.2 fun l13 =>
 (k137 [(.p p10), (.i .i64 (IntKind.i64.wrap (n2 - (l13.2 : Int))))] r3.2).bind fun r14 =>
 (AV.asI .i64 r14.1).bind fun n15 =>
 let h16 := r14.2.bump 1
 (bif ((((decide ((0 : Int) <= n2)) && (decide (n2 <= n2))) && (decide ((n2 * 8) <= 140737488355328))) && (decide (n2 <= 140737488355328))) then
 let h17 := h16.put r14.2.next (.cells true 36 ((List.replicate n2.toNat [(.i .u64 0)]).flatten))
 Option.bind p4 fun q18 =>
 ldS h17 q18.1 q18.2 fun l20 =>
 (bif Nat.beq (min l20.2 n2.toNat) 0 then
 Option.bind p4 fun q24 =>
 (h17.st q24.1 q24.2 [(.sl (.loc (.n r14.2.next) 0 1) n2.toNat)]).bind fun h25 =>
 some ((.i .i64 0), h25)
 else
 (h17.rdSl l20.1 (min l20.2 n2.toNat) 1).bind fun c22 =>
 (h17.wrSl (.loc (.n r14.2.next) 0 1) c22).bind fun h23 =>
 Option.bind p4 fun q26 =>
 (h23.st q26.1 q26.2 [(.sl (.loc (.n r14.2.next) 0 1) n2.toNat)]).bind fun h27 =>
 some ((.i .i64 0), h27))
 else none))))
 else none
def mem_Mem__Grow : Sm O := mem_Mem__Grow_c mem_Mem__at meter_Meter__Hold
theorem mem_Mem__Grow_ent : Entered Try.prog 154 := Try.call154
theorem mem_Mem__Grow_run (k138 k137 : Sm O) : run (O := O) Try.prog [(138, k138), (137, k137)] Try.f154 (.n .z (.n .z (.n (.n (.n .z (.n .z (.n .z (.n .z (.n .z (.n .z .z)))))) .z) (.n (.d [] [0, 1, 2, 3, 4, 5, 6, 7, 8, 9, 10, 11] [0, 1, 3, 7, 0, 0, 32, 96, 224, 480, 1008, 2047]) (.n .z (.n .z (.n .z .z))))))) = mem_Mem__Grow_c k138 k137 := by kernel_rfl
theorem mem_Mem__Grow_sound : FSound RO Try.prog 154 mem_Mem__Grow := sdf (mem_Mem__Grow_run _ _) (gcons mem_Mem__at_ent mem_Mem__at_sound <| gcons meter_Meter__Hold_ent meter_Meter__Hold_sound <| gnil) Try.func154 (by kernel_rfl)
def pool_Pool__grow_c (k155 k154 : Sm O) : Sm O := fun xs h =>
 bif Nat.beq xs.length 1 then
 (AV.asP (xs.getD 0 .u)).bind fun p0 =>
 Option.bind p0 fun q1 =>
 ldI h q1.1 (q1.2 + 3) fun n3 =>
 (bif (decide (n3 >= 1048576)) then
 some ((.i .i64 3), h)
 else Option.bind p0 fun q4 =>
 ldI h q4.1 (q4.2 + 3) fun n6 =>
 Option.bind p0 fun q7 =>
 ldI h q7.1 (q7.2 + 4) fun n9 =>
 (bif (decide (n6 < n9)) then
 some ((.i .i64 0), h)
 else Option.bind p0 fun q10 =>
 ldI h q10.1 (q10.2 + 4) fun n12 =>
 let v13 : Int := (if (IntKind.i64.wrap (2 * n12)) > 8 then (IntKind.i64.wrap (2 * n12)) else 8)
 Option.bind p0 fun q14 =>
 ldP h q14.1 q14.2 fun p16 =>
 Option.bind p0 fun q17 =>
 ldI h q17.1 (q17.2 + 1) fun n19 =>
 (k155 [(.p p0)] h).bind fun r20 =>
 (AV.asI .i64 r20.1).bind fun n21 =>
 (chkE (r20.2.ld q14.1 q14.2) (some (.p p16))).bind fun _ =>
 (chkE (r20.2.ld q17.1 (q17.2 + 1)) (some (.i .i64 n19))).bind fun _ =>
 (k154 [(.p p16), (.i .i64 n19), (.i .i64 (IntKind.i64.wrap (v13 * n21)))] r20.2).bind fun r22 =>
 (AV.asI .i64 r22.1).bind fun n23 =>
 (bif ((n23 : Int) != 0) then
 some ((.i .i64 3), r22.2)
 else Option.bind p0 fun q24 =>
 (r22.2.st q24.1 (q24.2 + 4) [(.i .i64 v13)]).bind fun h25 =>
 some ((.i .i64 0), h25))))
 else none
def pool_Pool__grow : Sm O := pool_Pool__grow_c pool_Pool__width mem_Mem__Grow
theorem pool_Pool__grow_ent : Entered Try.prog 122 := Try.call122
theorem pool_Pool__grow_run (k155 k154 : Sm O) : run (O := O) Try.prog [(155, k155), (154, k154)] Try.f122 (.n .z (.n (.n (.n .z (.n .z (.n (.d [] [0, 1, 2, 3, 4, 5, 6, 7, 8, 9] [0, 1, 3, 7, 0, 16, 48, 112, 255, 511]) (.n .z .z)))) .z) (.n .z (.n (.n (.d [] [0, 1, 2, 3, 4, 5, 6, 7, 8, 9, 10, 11, 12, 13] [0, 1, 3, 7, 0, 16, 48, 112, 0, 0, 512, 1792, 4095, 8191]) (.n .z (.n .z .z))) (.n .z .z))))) = pool_Pool__grow_c k155 k154 := by kernel_rfl
theorem pool_Pool__grow_sound : FSound RO Try.prog 122 pool_Pool__grow := sdf (pool_Pool__grow_run _ _) (gcons pool_Pool__width_ent pool_Pool__width_sound <| gcons mem_Mem__Grow_ent mem_Mem__Grow_sound <| gnil) Try.func122 (by kernel_rfl)
def pool_Pool__at_c (k155 : Sm O) : Sm O := fun xs h =>
 bif Nat.beq xs.length 3 then
 (AV.asP (xs.getD 0 .u)).bind fun p0 =>
 gtI xs 1 fun n1 =>
 gtI xs 2 fun n2 =>
 (k155 [(.p p0)] h).bind fun r3 =>
 (AV.asI .i64 r3.1).bind fun n4 =>
 let v5 : Int := (IntKind.i64.wrap ((IntKind.i64.wrap (n1 - 1)) * n4))
 let v6 : Int := (IntKind.i64.wrap ((IntKind.i64.wrap (v5 + 1)) + n2))
 some ((.i .i64 v6), r3.2)
 else none
def pool_Pool__at : Sm O := pool_Pool__at_c pool_Pool__width
theorem pool_Pool__at_ent : Entered Try.prog 123 := Try.call123
theorem pool_Pool__at_run (k155 : Sm O) : run (O := O) Try.prog [(155, k155)] Try.f123 (.n .z .z) = pool_Pool__at_c k155 := by kernel_rfl
theorem pool_Pool__at_sound : FSound RO Try.prog 123 pool_Pool__at := sdf (pool_Pool__at_run _) (gcons pool_Pool__width_ent pool_Pool__width_sound <| gnil) Try.func123 (by kernel_rfl)
def mem_Mem__within_c (k138 : Sm O) : Sm O := fun xs h =>
 bif Nat.beq xs.length 4 then
 (AV.asP (xs.getD 0 .u)).bind fun p0 =>
 gtI xs 1 fun n1 =>
 gtI xs 2 fun n2 =>
 gtI xs 3 fun n3 =>
 (k138 [(.p p0), (.i .i64 n1)] h).bind fun r4 =>
 (AV.asP r4.1).bind fun p5 =>
 (bif (Option.isNone p5) then
 some ((.tup [(.sl .nil 0), (.i .i64 10)]), r4.2)
 else ((bif ((decide (n3 < 0)) == false) then
 some ([(.b (decide (n2 < 0)))], r4.2)
 else some ([(.b true)], r4.2)) : Option (List AV × AH O)).bind fun r6 =>
 (AV.asB (r6.1.getD 0 .u)).bind fun b7 =>
 ((bif (b7 == false) then
 Option.bind p5 fun q8 =>
 ldS r6.2 q8.1 q8.2 fun l10 =>
 some ([(.b (decide (n2 > (l10.2 : Int))))], r6.2)
 else some ([(.b true)], r6.2)) : Option (List AV × AH O)).bind fun r11 =>
 (AV.asB (r11.1.getD 0 .u)).bind fun b12 =>
 ((bif (b12 == false) then
 Option.bind p5 fun q13 =>
 ldS r11.2 q13.1 q13.2 fun l15 =>
 let c16 : Bool := (decide (n3 > (IntKind.i64.wrap ((l15.2 : Int) - n2))))
 some ([(.b c16)], r11.2)
 else some ([(.b true)], r11.2)) : Option (List AV × AH O)).bind fun r17 =>
 (AV.asB (r17.1.getD 0 .u)).bind fun b18 =>
 (bif b18 then
 some ((.tup [(.sl .nil 0), (.i .i64 11)]), r17.2)
 else Option.bind p5 fun q19 =>
 ldS r17.2 q19.1 q19.2 fun l21 =>
 (bif (((decide ((0 : Int) <= n2)) && (decide (n2 <= (IntKind.i64.wrap (n2 + n3))))) && (decide ((IntKind.i64.wrap (n2 + n3)) <= (l21.2 : Int)))) then
 (SA.adv l21.1 n2.toNat 1).bind fun a22 =>
 some ((.tup [(.sl a22 ((IntKind.i64.wrap (n2 + n3)).toNat - n2.toNat)), (.i .i64 0)]), r17.2)
 else none)))
 else none
def mem_Mem__within : Sm O := mem_Mem__within_c mem_Mem__at
theorem mem_Mem__within_ent : Entered Try.prog 142 := Try.call142
theorem mem_Mem__within_run (k138 : Sm O) : run (O := O) Try.prog [(138, k138)] Try.f142 (.n .z (.n .z (.n (.n (.n .z (.n .z (.n (.g [(2, 2, [(23, .one .b)]), (6, 7, [(32, .one .b)]), (15, 9, [(43, .one .b)])]) (.n .z .z)))) .z) .z))) = mem_Mem__within_c k138 := by kernel_rfl
theorem mem_Mem__within_sound : FSound RO Try.prog 142 mem_Mem__within := sdf (mem_Mem__within_run _) (gcons mem_Mem__at_ent mem_Mem__at_sound <| gnil) Try.func142 (by kernel_rfl)
def wide_Of_c : Sm O := fun xs h =>
 bif Nat.beq xs.length 1 then
 gtU xs 0 fun n0 =>
 let h1 := h.bump 1
 let h2 := h1.put h.next (.cells true 38 [(.i .u64 0), (.i .u64 0)])
 (h2.st (.n h.next) 0 [(.i .u64 0), (.i .u64 n0)]).bind fun h3 =>
 ldU h3 (.n h.next) 0 fun n5 =>
 ldU h3 (.n h.next) 1 fun n7 =>
 some ((.agg [(.i .u64 n5), (.i .u64 n7)]), h3)
 else none
def wide_Of : Sm O := wide_Of_c
theorem wide_Of_ent : Entered Try.prog 162 := Try.call162
theorem wide_Of_run : run (O := O) Try.prog [] Try.f162 (.n .z .z) = wide_Of_c  := by kernel_rfl
theorem wide_Of_sound : FSound RO Try.prog 162 wide_Of := sdf wide_Of_run (gnil) Try.func162 (by kernel_rfl)
def wide_Most_c : Sm O := fun xs h =>
 bif Nat.beq xs.length 0 then
 let h0 := h.bump 1
 let h1 := h0.put h.next (.cells true 38 [(.i .u64 0), (.i .u64 0)])
 (h1.st (.n h.next) 0 [(.i .u64 18446744073709551615), (.i .u64 18446744073709551615)]).bind fun h2 =>
 ldU h2 (.n h.next) 0 fun n4 =>
 ldU h2 (.n h.next) 1 fun n6 =>
 some ((.agg [(.i .u64 n4), (.i .u64 n6)]), h2)
 else none
def wide_Most : Sm O := wide_Most_c
theorem wide_Most_ent : Entered Try.prog 121 := Try.call121
theorem wide_Most_run : run (O := O) Try.prog [] Try.f121 (.n .z .z) = wide_Most_c  := by kernel_rfl
theorem wide_Most_sound : FSound RO Try.prog 121 wide_Most := sdf wide_Most_run (gnil) Try.func121 (by kernel_rfl)
def wide_Add_c (k120 k121 : Sm O) : Sm O := fun xs h =>
 bif Nat.beq xs.length 2 then
 (AV.asAgg 2 (xs.getD 0 .u)).bind fun c0 =>
 gtU c0 0 fun n1 =>
 gtU c0 1 fun n2 =>
 (AV.asAgg 2 (xs.getD 1 .u)).bind fun c3 =>
 gtU c3 0 fun n4 =>
 gtU c3 1 fun n5 =>
 let h6 := h.bump 3
 let h7 := h6.put h.next (.cells true 38 [(.i .u64 n1), (.i .u64 n2)])
 let h8 := h7.put (h.next + 1) (.cells true 38 [(.i .u64 n4), (.i .u64 n5)])
 let h9 := h8.put ((h.next + 1) + 1) (.cells true 38 [(.i .u64 0), (.i .u64 0)])
 ldU h9 (.n h.next) 1 fun n11 =>
 ldU h9 (.n (h.next + 1)) 1 fun n13 =>
 (k120 [(.i .u64 n11), (.i .u64 n13), (.i .u64 0)] h9).bind fun r14 =>
 (AV.asTup 2 r14.1).bind fun c15 =>
 gtU c15 0 fun n16 =>
 gtU c15 1 fun n17 =>
 ldU r14.2 (.n h.next) 0 fun n19 =>
 ldU r14.2 (.n (h.next + 1)) 0 fun n21 =>
 (k120 [(.i .u64 n19), (.i .u64 n21), (.i .u64 n17)] r14.2).bind fun r22 =>
 (AV.asTup 2 r22.1).bind fun c23 =>
 gtU c23 0 fun n24 =>
 gtU c23 1 fun n25 =>
 (bif ((n25 : Int) != 0) then
 (k121 [] r22.2).bind fun r26 =>
 (AV.asAgg 2 r26.1).bind fun c27 =>
 gtU c27 0 fun n28 =>
 gtU c27 1 fun n29 =>
 (r26.2.st (.n ((h.next + 1) + 1)) 0 [(.i .u64 n28), (.i .u64 n29)]).bind fun h30 =>
 ldU h30 (.n ((h.next + 1) + 1)) 0 fun n32 =>
 ldU h30 (.n ((h.next + 1) + 1)) 1 fun n34 =>
 some ((.tup [(.agg [(.i .u64 n32), (.i .u64 n34)]), (.b false)]), h30)
 else (r22.2.st (.n ((h.next + 1) + 1)) 0 [(.i .u64 n24), (.i .u64 n16)]).bind fun h35 =>
 ldU h35 (.n ((h.next + 1) + 1)) 0 fun n37 =>
 ldU h35 (.n ((h.next + 1) + 1)) 1 fun n39 =>
 some ((.tup [(.agg [(.i .u64 n37), (.i .u64 n39)]), (.b true)]), h35))
 else none
def wide_Add : Sm O := wide_Add_c bits_Add64 wide_Most
theorem wide_Add_ent : Entered Try.prog 58 := Try.call58
theorem wide_Add_run (k120 k121 : Sm O) : run (O := O) Try.prog [(120, k120), (121, k121)] Try.f58 (.n .z (.n .z (.n .z (.n (.n .z (.n .z .z)) .z)))) = wide_Add_c k120 k121 := by kernel_rfl
theorem wide_Add_sound : FSound RO Try.prog 58 wide_Add := sdf (wide_Add_run _ _) (gext bits_Add64_ext <| gcons wide_Most_ent wide_Most_sound <| gnil) Try.func58 (by kernel_rfl)
def meter_Meter__Step_c (k162 k58 : Sm O) : Sm O := fun xs h =>
 bif Nat.beq xs.length 3 then
 (AV.asP (xs.getD 0 .u)).bind fun p0 =>
 gtI xs 1 fun n1 =>
 gtI xs 2 fun n2 =>
 ((bif ((Option.isNone p0) == false) then
 some ([(.b (decide (n1 < 0)))], h)
 else some ([(.b true)], h)) : Option (List AV × AH O)).bind fun r3 =>
 (AV.asB (r3.1.getD 0 .u)).bind fun b4 =>
 ((bif (b4 == false) then
 some ([(.b (decide (n1 >= 2)))], r3.2)
 else some ([(.b true)], r3.2)) : Option (List AV × AH O)).bind fun r5 =>
 (AV.asB (r5.1.getD 0 .u)).bind fun b6 =>
 ((bif (b6 == false) then
 some ([(.b (decide (n2 < 1)))], r5.2)
 else some ([(.b true)], r5.2)) : Option (List AV × AH O)).bind fun r7 =>
 (AV.asB (r7.1.getD 0 .u)).bind fun b8 =>
 (bif b8 then
 some ((.tup []), r7.2)
 else Option.bind p0 fun q9 =>
 (bif ((decide ((0 : Int) <= n1)) && (decide (n1 < 2))) then
 ldU r7.2 q9.1 (q9.2 + (n1.toNat * 2)) fun n11 =>
 ldU r7.2 q9.1 ((q9.2 + (n1.toNat * 2)) + 1) fun n13 =>
 Option.bind p0 fun q14 =>
 (k162 [(.i .u64 (IntKind.u64.wrap n2))] r7.2).bind fun r15 =>
 (AV.asAgg 2 r15.1).bind fun c16 =>
 gtU c16 0 fun n17 =>
 gtU c16 1 fun n18 =>
 (chkE (r15.2.ld q9.1 (q9.2 + (n1.toNat * 2))) (some (.i .u64 n11))).bind fun _ =>
 (chkE (r15.2.ld q9.1 ((q9.2 + (n1.toNat * 2)) + 1)) (some (.i .u64 n13))).bind fun _ =>
 (k58 [(.agg [(.i .u64 n11), (.i .u64 n13)]), (.agg [(.i .u64 n17), (.i .u64 n18)])] r15.2).bind fun r19 =>
 (AV.asTup 2 r19.1).bind fun c20 =>
 (AV.asAgg 2 (c20.getD 0 .u)).bind fun c21 =>
 gtU c21 0 fun n22 =>
 gtU c21 1 fun n23 =>
 (AV.asB (c20.getD 1 .u)).bind fun b24 =>
 (bif ((decide ((0 : Int) <= n1)) && (decide (n1 < 2))) then
 (r19.2.st q14.1 (q14.2 + (n1.toNat * 2)) [(.i .u64 n22), (.i .u64 n23)]).bind fun h25 =>
 some ((.tup []), h25)
 else none)
 else none))
 else none
def meter_Meter__Step : Sm O := meter_Meter__Step_c wide_Of wide_Add
theorem meter_Meter__Step_ent : Entered Try.prog 143 := Try.call143
theorem meter_Meter__Step_run (k162 k58 : Sm O) : run (O := O) Try.prog [(162, k162), (58, k58)] Try.f143 (.n (.n (.g [(2, 2, [(11, .one .b)]), (6, 2, [(15, .one .b)]), (10, 2, [(19, .one .b)])]) .z) (.d [] [0, 1, 2, 3, 4, 5, 6, 7, 8, 9, 15, 16, 10, 11, 12, 13, 14, 17, 18] [0, 0, 0, 0, 4, 20, 60, 124, 0, 256, 768, 2044, 4092, 8188, 8188, 1, 32769, 114687, 245759])) = meter_Meter__Step_c k162 k58 := by kernel_rfl
theorem meter_Meter__Step_sound : FSound RO Try.prog 143 meter_Meter__Step := sdf (meter_Meter__Step_run _ _) (gcons wide_Of_ent wide_Of_sound <| gcons wide_Add_ent wide_Add_sound <| gnil) Try.func143 (by kernel_rfl)
def mem_Mem__Write_c (k142 k143 : Sm O) : Sm O := fun xs h =>
 bif Nat.beq xs.length 4 then
 (AV.asP (xs.getD 0 .u)).bind fun p0 =>
 gtI xs 1 fun n1 =>
 gtI xs 2 fun n2 =>
 gtU xs 3 fun n3 =>
 (k142 [(.p p0), (.i .i64 n1), (.i .i64 n2), (.i .i64 1)] h).bind fun r4 =>
 (AV.asTup 2 r4.1).bind fun c5 =>
 gtS c5 0 fun l6 =>
 gtI c5 1 fun n7 =>
 (bif ((n7 : Int) != 0) then
 some ((.i .i64 n7), r4.2)
 else Option.bind p0 fun q8 =>
 ldP r4.2 q8.1 q8.2 fun p10 =>
 (k143 [(.p p10), (.i .i64 1), (.i .i64 1)] r4.2).bind fun r11 =>
 (AV.asTup 0 r11.1).bind fun c12 =>
 (bif (decide ((0 : Int) < (l6.2 : Int))) then
 (SA.ref l6.1).bind fun q13 =>
 (r11.2.st q13.1 q13.2 [(.i .u64 n3)]).bind fun h14 =>
 some ((.i .i64 0), h14)
 else none))
 else none
def mem_Mem__Write : Sm O := mem_Mem__Write_c mem_Mem__within meter_Meter__Step
theorem mem_Mem__Write_ent : Entered Try.prog 89 := Try.call89
theorem mem_Mem__Write_run (k142 k143 : Sm O) : run (O := O) Try.prog [(142, k142), (143, k143)] Try.f89 (.n .z (.n .z (.n (.n .z (.n .z .z)) (.n .z (.n .z .z))))) = mem_Mem__Write_c k142 k143 := by kernel_rfl
theorem mem_Mem__Write_sound : FSound RO Try.prog 89 mem_Mem__Write := sdf (mem_Mem__Write_run _ _) (gcons mem_Mem__within_ent mem_Mem__within_sound <| gcons meter_Meter__Step_ent meter_Meter__Step_sound <| gnil) Try.func89 (by kernel_rfl)
def mem_Mem__Read_c (k142 k143 : Sm O) : Sm O := fun xs h =>
 bif Nat.beq xs.length 3 then
 (AV.asP (xs.getD 0 .u)).bind fun p0 =>
 gtI xs 1 fun n1 =>
 gtI xs 2 fun n2 =>
 (k142 [(.p p0), (.i .i64 n1), (.i .i64 n2), (.i .i64 1)] h).bind fun r3 =>
 (AV.asTup 2 r3.1).bind fun c4 =>
 gtS c4 0 fun l5 =>
 gtI c4 1 fun n6 =>
 (bif ((n6 : Int) != 0) then
 some ((.tup [(.i .u64 0), (.i .i64 n6)]), r3.2)
 else Option.bind p0 fun q7 =>
 ldP r3.2 q7.1 q7.2 fun p9 =>
 (k143 [(.p p9), (.i .i64 0), (.i .i64 1)] r3.2).bind fun r10 =>
 (AV.asTup 0 r10.1).bind fun c11 =>
 (bif (decide ((0 : Int) < (l5.2 : Int))) then
 (SA.ref l5.1).bind fun q12 =>
 ldU r10.2 q12.1 q12.2 fun n14 =>
 some ((.tup [(.i .u64 n14), (.i .i64 0)]), r10.2)
 else none))
 else none
def mem_Mem__Read : Sm O := mem_Mem__Read_c mem_Mem__within meter_Meter__Step
theorem mem_Mem__Read_ent : Entered Try.prog 92 := Try.call92
theorem mem_Mem__Read_run (k142 k143 : Sm O) : run (O := O) Try.prog [(142, k142), (143, k143)] Try.f92 (.n .z (.n .z (.n (.n .z (.n .z .z)) (.n .z .z)))) = mem_Mem__Read_c k142 k143 := by kernel_rfl
theorem mem_Mem__Read_sound : FSound RO Try.prog 92 mem_Mem__Read := sdf (mem_Mem__Read_run _ _) (gcons mem_Mem__within_ent mem_Mem__within_sound <| gcons meter_Meter__Step_ent meter_Meter__Step_sound <| gnil) Try.func92 (by kernel_rfl)
def mem_Mem__Zero_c (k142 k143 : Sm O) : Sm O := fun xs h =>
 bif Nat.beq xs.length 4 then
 (AV.asP (xs.getD 0 .u)).bind fun p0 =>
 gtI xs 1 fun n1 =>
 gtI xs 2 fun n2 =>
 gtI xs 3 fun n3 =>
 (k142 [(.p p0), (.i .i64 n1), (.i .i64 n2), (.i .i64 n3)] h).bind fun r4 =>
 (AV.asTup 2 r4.1).bind fun c5 =>
 gtS c5 0 fun l6 =>
 gtI c5 1 fun n7 =>
 (bif ((n7 : Int) != 0) then
 some ((.i .i64 n7), r4.2)
 else Option.bind p0 fun q8 =>
 ldP r4.2 q8.1 q8.2 fun p10 =>
 (k143 [(.p p10), (.i .i64 1), (.i .i64 n3)] r4.2).bind fun r11 =>
 (AV.asTup 0 r11.1).bind fun c12 =>
 (bif Nat.beq l6.2 0 then
 some ((.i .i64 0), r11.2)
 else
 (r11.2.wrSl l6.1 ((List.replicate l6.2 [(.i .u64 0)]).flatten)).bind fun h13 =>
 some ((.i .i64 0), h13)))
 else none
def mem_Mem__Zero : Sm O := mem_Mem__Zero_c mem_Mem__within meter_Meter__Step
theorem mem_Mem__Zero_ent : Entered Try.prog 124 := Try.call124
theorem mem_Mem__Zero_run (k142 k143 : Sm O) : run (O := O) Try.prog [(142, k142), (143, k143)] Try.f124 (.n .z (.n .z (.n (.n .z (.n .z .z)) (.n .z (.n .z .z))))) = mem_Mem__Zero_c k142 k143 := by kernel_rfl
theorem mem_Mem__Zero_sound : FSound RO Try.prog 124 mem_Mem__Zero := sdf (mem_Mem__Zero_run _ _) (gcons mem_Mem__within_ent mem_Mem__within_sound <| gcons meter_Meter__Step_ent meter_Meter__Step_sound <| gnil) Try.func124 (by kernel_rfl)
def pool_Pool__Take_c (k122 k123 k89 k92 k124 : Sm O) : Sm O := fun xs h =>
 bif Nat.beq xs.length 1 then
 (AV.asP (xs.getD 0 .u)).bind fun p0 =>
 Option.bind p0 fun q1 =>
 ldI h q1.1 (q1.2 + 5) fun n3 =>
 (bif ((n3 : Int) == 0) then
 (k122 [(.p p0)] h).bind fun r4 =>
 (AV.asI .i64 r4.1).bind fun n5 =>
 (bif ((n5 : Int) != 0) then
 some ((.tup [(.i .i64 0), (.i .i64 n5)]), r4.2)
 else Option.bind p0 fun q6 =>
 ldI r4.2 q6.1 (q6.2 + 3) fun n8 =>
 Option.bind p0 fun q9 =>
 (r4.2.st q9.1 (q9.2 + 3) [(.i .i64 (IntKind.i64.wrap (n8 + 1)))]).bind fun h10 =>
 Option.bind p0 fun q11 =>
 ldI h10 q11.1 (q11.2 + 3) fun n13 =>
 Option.bind p0 fun q14 =>
 ldP h10 q14.1 q14.2 fun p16 =>
 Option.bind p0 fun q17 =>
 ldI h10 q17.1 (q17.2 + 1) fun n19 =>
 (k123 [(.p p0), (.i .i64 n13), (.i .i64 (-1))] h10).bind fun r20 =>
 (AV.asI .i64 r20.1).bind fun n21 =>
 (chkE (r20.2.ld q14.1 q14.2) (some (.p p16))).bind fun _ =>
 (chkE (r20.2.ld q17.1 (q17.2 + 1)) (some (.i .i64 n19))).bind fun _ =>
 (k89 [(.p p16), (.i .i64 n19), (.i .i64 n21), (.i .u64 1)] r20.2).bind fun r22 =>
 (AV.asI .i64 r22.1).bind fun n23 =>
 Option.bind p0 fun q24 =>
 ldI r22.2 q24.1 (q24.2 + 6) fun n26 =>
 Option.bind p0 fun q27 =>
 (r22.2.st q27.1 (q27.2 + 6) [(.i .i64 (IntKind.i64.wrap (n26 + 1)))]).bind fun h28 =>
 some ((.tup [(.i .i64 n13), (.i .i64 0)]), h28))
 else Option.bind p0 fun q29 =>
 ldP h q29.1 q29.2 fun p31 =>
 Option.bind p0 fun q32 =>
 ldI h q32.1 (q32.2 + 1) fun n34 =>
 (k123 [(.p p0), (.i .i64 n3), (.i .i64 0)] h).bind fun r35 =>
 (AV.asI .i64 r35.1).bind fun n36 =>
 (chkE (r35.2.ld q29.1 q29.2) (some (.p p31))).bind fun _ =>
 (chkE (r35.2.ld q32.1 (q32.2 + 1)) (some (.i .i64 n34))).bind fun _ =>
 (k92 [(.p p31), (.i .i64 n34), (.i .i64 n36)] r35.2).bind fun r37 =>
 (AV.asTup 2 r37.1).bind fun c38 =>
 gtU c38 0 fun n39 =>
 gtI c38 1 fun n40 =>
 Option.bind p0 fun q41 =>
 ldP r37.2 q41.1 q41.2 fun p43 =>
 Option.bind p0 fun q44 =>
 ldI r37.2 q44.1 (q44.2 + 1) fun n46 =>
 (k123 [(.p p0), (.i .i64 n3), (.i .i64 (-1))] r37.2).bind fun r47 =>
 (AV.asI .i64 r47.1).bind fun n48 =>
 (chkE (r47.2.ld q41.1 q41.2) (some (.p p43))).bind fun _ =>
 (chkE (r47.2.ld q44.1 (q44.2 + 1)) (some (.i .i64 n46))).bind fun _ =>
 (k92 [(.p p43), (.i .i64 n46), (.i .i64 n48)] r47.2).bind fun r49 =>
 (AV.asTup 2 r49.1).bind fun c50 =>
 gtU c50 0 fun n51 =>
 gtI c50 1 fun n52 =>
 Option.bind p0 fun q53 =>
 ldP r49.2 q53.1 q53.2 fun p55 =>
 Option.bind p0 fun q56 =>
 ldI r49.2 q56.1 (q56.2 + 1) fun n58 =>
 (k123 [(.p p0), (.i .i64 n3), (.i .i64 (-1))] r49.2).bind fun r59 =>
 (AV.asI .i64 r59.1).bind fun n60 =>
 (chkE (r59.2.ld q53.1 q53.2) (some (.p p55))).bind fun _ =>
 (chkE (r59.2.ld q56.1 (q56.2 + 1)) (some (.i .i64 n58))).bind fun _ =>
 (k89 [(.p p55), (.i .i64 n58), (.i .i64 n60), (.i .u64 (ibits .or .u64 n51 1))] r59.2).bind fun r61 =>
 (AV.asI .i64 r61.1).bind fun n62 =>
 Option.bind p0 fun q63 =>
 ldP r61.2 q63.1 q63.2 fun p65 =>
 Option.bind p0 fun q66 =>
 ldI r61.2 q66.1 (q66.2 + 1) fun n68 =>
 Option.bind p0 fun q69 =>
 ldI r61.2 q69.1 (q69.2 + 2) fun n71 =>
 (k123 [(.p p0), (.i .i64 n3), (.i .i64 0)] r61.2).bind fun r72 =>
 (AV.asI .i64 r72.1).bind fun n73 =>
 (chkE (r72.2.ld q63.1 q63.2) (some (.p p65))).bind fun _ =>
 (chkE (r72.2.ld q66.1 (q66.2 + 1)) (some (.i .i64 n68))).bind fun _ =>
 (chkE (r72.2.ld q69.1 (q69.2 + 2)) (some (.i .i64 n71))).bind fun _ =>
 (k124 [(.p p65), (.i .i64 n68), (.i .i64 n73), (.i .i64 n71)] r72.2).bind fun r74 =>
 (AV.asI .i64 r74.1).bind fun n75 =>
 Option.bind p0 fun q76 =>
 (r74.2.st q76.1 (q76.2 + 5) [(.i .i64 (IntKind.i64.wrap n39))]).bind fun h77 =>
 Option.bind p0 fun q78 =>
 ldI h77 q78.1 (q78.2 + 6) fun n80 =>
 Option.bind p0 fun q81 =>
 (h77.st q81.1 (q81.2 + 6) [(.i .i64 (IntKind.i64.wrap (n80 + 1)))]).bind fun h82 =>
 some ((.tup [(.i .i64 n3), (.i .i64 0)]), h82))
 else none
def pool_Pool__Take : Sm O := pool_Pool__Take_c pool_Pool__grow pool_Pool__at mem_Mem__Write mem_Mem__Read mem_Mem__Zero
theorem pool_Pool__Take_ent : Entered Try.prog 60 := Try.call60
theorem pool_Pool__Take_run (k122 k123 k89 k92 k124 : Sm O) : run (O := O) Try.prog [(122, k122), (123, k123), (89, k89), (92, k92), (124, k124)] Try.f60 (.n .z (.n .z (.n (.n .z (.n (.n (.n .z (.n .z (.n .z .z))) (.n .z (.n .z (.n (.d [] [0, 1, 2, 3, 4, 5, 6, 7, 8, 9, 10, 11] [0, 1, 3, 7, 0, 16, 48, 112, 0, 0, 768, 2047]) (.n .z .z))))) .z)) (.n (.d [] [0, 1, 2, 3, 4, 5, 6, 7, 8, 9, 10, 11, 12, 13, 14, 15, 16] [0, 1, 3, 7, 0, 16, 48, 112, 0, 0, 768, 2047, 4095, 8191, 8191, 16383, 65535]) (.n (.d [] [0, 1, 2, 3, 4, 5, 6, 7, 8, 9, 10, 11, 12, 13, 14, 15, 16] [0, 1, 3, 7, 0, 16, 48, 112, 0, 0, 768, 2047, 4095, 8191, 8191, 16383, 65535]) (.n (.d [] [0, 1, 2, 3, 4, 5, 6, 7, 8, 9, 11, 12, 10, 13] [0, 1, 3, 7, 0, 16, 48, 112, 0, 0, 768, 0, 2048, 8191]) (.n (.d [] [0, 1, 2, 3, 4, 5, 6, 7, 8, 9, 11, 12, 13, 14, 10, 15] [0, 1, 3, 7, 0, 16, 48, 112, 0, 0, 768, 0, 2048, 6144, 14336, 32767]) (.n .z (.n .z .z))))))))) = pool_Pool__Take_c k122 k123 k89 k92 k124 := by kernel_rfl
theorem pool_Pool__Take_sound : FSound RO Try.prog 60 pool_Pool__Take := sdf (pool_Pool__Take_run _ _ _ _ _) (gcons pool_Pool__grow_ent pool_Pool__grow_sound <| gcons pool_Pool__at_ent pool_Pool__at_sound <| gcons mem_Mem__Write_ent mem_Mem__Write_sound <| gcons mem_Mem__Read_ent mem_Mem__Read_sound <| gcons mem_Mem__Zero_ent mem_Mem__Zero_sound <| gnil) Try.func60 (by kernel_rfl)
def meter_Meter__Free_c : Sm O := fun xs h =>
 bif Nat.beq xs.length 2 then
 (AV.asP (xs.getD 0 .u)).bind fun p0 =>
 gtI xs 1 fun n1 =>
 ((bif ((Option.isNone p0) == false) then
 some ([(.b (decide (n1 < 0)))], h)
 else some ([(.b true)], h)) : Option (List AV × AH O)).bind fun r2 =>
 (AV.asB (r2.1.getD 0 .u)).bind fun b3 =>
 (bif b3 then
 some ((.i .i64 1), r2.2)
 else Option.bind p0 fun q4 =>
 ldI r2.2 q4.1 (q4.2 + 4) fun n6 =>
 (bif (decide (n1 > n6)) then
 some ((.i .i64 4), r2.2)
 else Option.bind p0 fun q7 =>
 ldI r2.2 q7.1 (q7.2 + 4) fun n9 =>
 Option.bind p0 fun q10 =>
 (r2.2.st q10.1 (q10.2 + 4) [(.i .i64 (IntKind.i64.wrap (n9 - n1)))]).bind fun h11 =>
 some ((.i .i64 0), h11)))
 else none
def meter_Meter__Free : Sm O := meter_Meter__Free_c
theorem meter_Meter__Free_ent : Entered Try.prog 139 := Try.call139
theorem meter_Meter__Free_run : run (O := O) Try.prog [] Try.f139 (.n .z (.n (.n (.n (.g [(2, 2, [(11, .one .b)])]) (.n .z (.n .z (.n .z .z)))) .z) (.n .z .z))) = meter_Meter__Free_c  := by kernel_rfl
theorem meter_Meter__Free_sound : FSound RO Try.prog 139 meter_Meter__Free := sdf meter_Meter__Free_run (gnil) Try.func139 (by kernel_rfl)
def mem_Mem__Close_c (k138 k139 : Sm O) : Sm O := fun xs h =>
 bif Nat.beq xs.length 2 then
 (AV.asP (xs.getD 0 .u)).bind fun p0 =>
 gtI xs 1 fun n1 =>
 (k138 [(.p p0), (.i .i64 n1)] h).bind fun r2 =>
 (AV.asP r2.1).bind fun p3 =>
 (bif (Option.isNone p3) then
 some ((.i .i64 10), r2.2)
 else Option.bind p0 fun q4 =>
 ldP r2.2 q4.1 q4.2 fun p6 =>
 Option.bind p3 fun q7 =>
 ldS r2.2 q7.1 q7.2 fun l9 =>
 (k139 [(.p p6), (.i .i64 (l9.2 : Int))] r2.2).bind fun r10 =>
 (AV.asI .i64 r10.1).bind fun n11 =>
 Option.bind p3 fun q12 =>
 (r10.2.st q12.1 q12.2 [(.sl .nil 0), (.b false)]).bind fun h13 =>
 Option.bind p0 fun q14 =>
 ldI h13 q14.1 (q14.2 + 2) fun n16 =>
 Option.bind p0 fun q17 =>
 ldI h13 q17.1 (q17.2 + 3) fun n19 =>
 Option.bind p0 fun q20 =>
 (h13.st q20.1 (q20.2 + 2) [(.i .i64 (if n1 < n16 then n1 else n16))]).bind fun h21 =>
 Option.bind p0 fun q22 =>
 (h21.st q22.1 (q22.2 + 3) [(.i .i64 (IntKind.i64.wrap (n19 - 1)))]).bind fun h23 =>
 some ((.i .i64 0), h23))
 else none
def mem_Mem__Close : Sm O := mem_Mem__Close_c mem_Mem__at meter_Meter__Free
theorem mem_Mem__Close_ent : Entered Try.prog 83 := Try.call83
theorem mem_Mem__Close_run (k138 k139 : Sm O) : run (O := O) Try.prog [(138, k138), (139, k139)] Try.f83 (.n .z (.n .z (.n (.n .z (.n .z .z)) (.n (.d [] [0, 1, 2, 3, 4, 5, 6, 7, 8, 9] [0, 1, 3, 7, 0, 16, 48, 112, 240, 511]) (.n .z (.n (.d [] [0, 1, 2, 3, 4, 5, 6, 7, 8, 9, 10, 11, 12, 13, 14, 15, 16, 17, 18] [0, 0, 0, 4, 12, 28, 0, 124, 0, 256, 768, 1792, 3840, 4093, 12285, 28669, 65535, 131071, 262143]) .z)))))) = mem_Mem__Close_c k138 k139 := by kernel_rfl
theorem mem_Mem__Close_sound : FSound RO Try.prog 83 mem_Mem__Close := sdf (mem_Mem__Close_run _ _) (gcons mem_Mem__at_ent mem_Mem__at_sound <| gcons meter_Meter__Free_ent meter_Meter__Free_sound <| gnil) Try.func83 (by kernel_rfl)
def pool_Pool__look_c (k123 k92 : Sm O) : Sm O := fun xs h =>
 bif Nat.beq xs.length 2 then
 (AV.asP (xs.getD 0 .u)).bind fun p0 =>
 gtI xs 1 fun n1 =>
 ((bif ((decide (n1 < 1)) == false) then
 Option.bind p0 fun q2 =>
 ldI h q2.1 (q2.2 + 3) fun n4 =>
 some ([(.b (decide (n1 > n4)))], h)
 else some ([(.b true)], h)) : Option (List AV × AH O)).bind fun r5 =>
 (AV.asB (r5.1.getD 0 .u)).bind fun b6 =>
 (bif b6 then
 some ((.tup [(.i .u64 0), (.b false)]), r5.2)
 else Option.bind p0 fun q7 =>
 ldP r5.2 q7.1 q7.2 fun p9 =>
 Option.bind p0 fun q10 =>
 ldI r5.2 q10.1 (q10.2 + 1) fun n12 =>
 (k123 [(.p p0), (.i .i64 n1), (.i .i64 (-1))] r5.2).bind fun r13 =>
 (AV.asI .i64 r13.1).bind fun n14 =>
 (chkE (r13.2.ld q7.1 q7.2) (some (.p p9))).bind fun _ =>
 (chkE (r13.2.ld q10.1 (q10.2 + 1)) (some (.i .i64 n12))).bind fun _ =>
 (k92 [(.p p9), (.i .i64 n12), (.i .i64 n14)] r13.2).bind fun r15 =>
 (AV.asTup 2 r15.1).bind fun c16 =>
 gtU c16 0 fun n17 =>
 gtI c16 1 fun n18 =>
 some ((.tup [(.i .u64 n17), (.b true)]), r15.2))
 else none
def pool_Pool__look : Sm O := pool_Pool__look_c pool_Pool__at mem_Mem__Read
theorem pool_Pool__look_ent : Entered Try.prog 129 := Try.call129
theorem pool_Pool__look_run (k123 k92 : Sm O) : run (O := O) Try.prog [(123, k123), (92, k92)] Try.f129 (.n .z (.n (.n (.g [(2, 6, [(17, .one .b)])]) (.n .z .z)) (.n (.d [] [0, 1, 2, 3, 4, 5, 6, 7, 8, 9, 10, 11, 12, 13, 14, 15, 16] [0, 1, 3, 7, 0, 16, 48, 112, 0, 0, 768, 2047, 4095, 8191, 8191, 16383, 65535]) .z))) = pool_Pool__look_c k123 k92 := by kernel_rfl
theorem pool_Pool__look_sound : FSound RO Try.prog 129 pool_Pool__look := sdf (pool_Pool__look_run _ _) (gcons pool_Pool__at_ent pool_Pool__at_sound <| gcons mem_Mem__Read_ent mem_Mem__Read_sound <| gnil) Try.func129 (by kernel_rfl)
def pool_Pool__Taken_c (k129 : Sm O) : Sm O := fun xs h =>
 bif Nat.beq xs.length 2 then
 (AV.asP (xs.getD 0 .u)).bind fun p0 =>
 gtI xs 1 fun n1 =>
 (k129 [(.p p0), (.i .i64 n1)] h).bind fun r2 =>
 (AV.asTup 2 r2.1).bind fun c3 =>
 gtU c3 0 fun n4 =>
 (AV.asB (c3.getD 1 .u)).bind fun b5 =>
 ((bif (b5 == true) then
 some ([(.b (((ibits .and .u64 n4 1) : Int) == 1))], r2.2)
 else some ([(.b false)], r2.2)) : Option (List AV × AH O)).bind fun r6 =>
 (AV.asB (r6.1.getD 0 .u)).bind fun b7 =>
 some ((.b b7), r6.2)
 else none
def pool_Pool__Taken : Sm O := pool_Pool__Taken_c pool_Pool__look
theorem pool_Pool__Taken_ent : Entered Try.prog 135 := Try.call135
theorem pool_Pool__Taken_run (k129 : Sm O) : run (O := O) Try.prog [(129, k129)] Try.f135 (.n .z (.n .z (.n (.g [(1, 3, [(18, .one .b)])]) .z))) = pool_Pool__Taken_c k129 := by kernel_rfl
theorem pool_Pool__Taken_sound : FSound RO Try.prog 135 pool_Pool__Taken := sdf (pool_Pool__Taken_run _) (gcons pool_Pool__look_ent pool_Pool__look_sound <| gnil) Try.func135 (by kernel_rfl)
def pool_Pool__check_c (k135 : Sm O) : Sm O := fun xs h =>
 bif Nat.beq xs.length 3 then
 (AV.asP (xs.getD 0 .u)).bind fun p0 =>
 gtI xs 1 fun n1 =>
 gtI xs 2 fun n2 =>
 (k135 [(.p p0), (.i .i64 n1)] h).bind fun r3 =>
 (AV.asB r3.1).bind fun b4 =>
 (bif (!b4) then
 some ((.i .i64 4), r3.2)
 else ((bif ((decide (n2 < 0)) == false) then
 Option.bind p0 fun q5 =>
 ldI r3.2 q5.1 (q5.2 + 2) fun n7 =>
 some ([(.b (decide (n2 >= n7)))], r3.2)
 else some ([(.b true)], r3.2)) : Option (List AV × AH O)).bind fun r8 =>
 (AV.asB (r8.1.getD 0 .u)).bind fun b9 =>
 (bif b9 then
 some ((.i .i64 32), r8.2)
 else some ((.i .i64 0), r8.2)))
 else none
def pool_Pool__check : Sm O := pool_Pool__check_c pool_Pool__Taken
theorem pool_Pool__check_ent : Entered Try.prog 125 := Try.call125
theorem pool_Pool__check_run (k135 : Sm O) : run (O := O) Try.prog [(135, k135)] Try.f125 (.n .z (.n (.n (.n .z (.n .z (.n (.g [(2, 6, [(22, .one .b)])]) (.n .z .z)))) .z) .z)) = pool_Pool__check_c k135 := by kernel_rfl
theorem pool_Pool__check_sound : FSound RO Try.prog 125 pool_Pool__check := sdf (pool_Pool__check_run _) (gcons pool_Pool__Taken_ent pool_Pool__Taken_sound <| gnil) Try.func125 (by kernel_rfl)
def pool_Pool__Set_c (k125 k123 k89 : Sm O) : Sm O := fun xs h =>
 bif Nat.beq xs.length 4 then
 (AV.asP (xs.getD 0 .u)).bind fun p0 =>
 gtI xs 1 fun n1 =>
 gtI xs 2 fun n2 =>
 gtU xs 3 fun n3 =>
 (k125 [(.p p0), (.i .i64 n1), (.i .i64 n2)] h).bind fun r4 =>
 (AV.asI .i64 r4.1).bind fun n5 =>
 (bif ((n5 : Int) != 0) then
 some ((.i .i64 n5), r4.2)
 else Option.bind p0 fun q6 =>
 ldP r4.2 q6.1 q6.2 fun p8 =>
 Option.bind p0 fun q9 =>
 ldI r4.2 q9.1 (q9.2 + 1) fun n11 =>
 (k123 [(.p p0), (.i .i64 n1), (.i .i64 n2)] r4.2).bind fun r12 =>
 (AV.asI .i64 r12.1).bind fun n13 =>
 (chkE (r12.2.ld q6.1 q6.2) (some (.p p8))).bind fun _ =>
 (chkE (r12.2.ld q9.1 (q9.2 + 1)) (some (.i .i64 n11))).bind fun _ =>
 (k89 [(.p p8), (.i .i64 n11), (.i .i64 n13), (.i .u64 n3)] r12.2).bind fun r14 =>
 (AV.asI .i64 r14.1).bind fun n15 =>
 some ((.i .i64 n15), r14.2))
 else none
def pool_Pool__Set : Sm O := pool_Pool__Set_c pool_Pool__check pool_Pool__at mem_Mem__Write
theorem pool_Pool__Set_ent : Entered Try.prog 61 := Try.call61
theorem pool_Pool__Set_run (k125 k123 k89 : Sm O) : run (O := O) Try.prog [(125, k125), (123, k123), (89, k89)] Try.f61 (.n .z (.n (.n .z (.n .z (.n .z .z))) (.n (.d [] [0, 1, 2, 3, 4, 5, 6, 7, 8, 9, 10, 12, 11, 13, 14] [0, 1, 3, 7, 0, 16, 48, 112, 0, 0, 0, 1792, 0, 8191, 16383]) .z))) = pool_Pool__Set_c k125 k123 k89 := by kernel_rfl
theorem pool_Pool__Set_sound : FSound RO Try.prog 61 pool_Pool__Set := sdf (pool_Pool__Set_run _ _ _) (gcons pool_Pool__check_ent pool_Pool__check_sound <| gcons pool_Pool__at_ent pool_Pool__at_sound <| gcons mem_Mem__Write_ent mem_Mem__Write_sound <| gnil) Try.func61 (by kernel_rfl)
def pool_Pool__Table_c (k155 : Sm O) : Sm O := fun xs h =>
 bif Nat.beq xs.length 3 then
 (AV.asP (xs.getD 0 .u)).bind fun p0 =>
 gtI xs 1 fun n1 =>
 gtI xs 2 fun n2 =>
 let h3 := h.bump 1
 let h4 := h3.put h.next (.cells true 136 [(.p none), (.i .i64 0), (.i .i64 0), (.i .i64 0), (.i .i64 0)])
 Option.bind p0 fun q5 =>
 ldP h4 q5.1 q5.2 fun p7 =>
 Option.bind p0 fun q8 =>
 ldI h4 q8.1 (q8.2 + 1) fun n10 =>
 (k155 [(.p p0)] h4).bind fun r11 =>
 (AV.asI .i64 r11.1).bind fun n12 =>
 (chkE (r11.2.ld q5.1 q5.2) (some (.p p7))).bind fun _ =>
 (chkE (r11.2.ld q8.1 (q8.2 + 1)) (some (.i .i64 n10))).bind fun _ =>
 (r11.2.st (.n h.next) 0 [(.p p7), (.i .i64 n10), (.i .i64 n12), (.i .i64 (IntKind.i64.wrap (n1 + 1))), (.i .i64 (IntKind.i64.wrap (n2 + 1)))]).bind fun h13 =>
 ldP h13 (.n h.next) 0 fun p15 =>
 ldI h13 (.n h.next) 1 fun n17 =>
 ldI h13 (.n h.next) 2 fun n19 =>
 ldI h13 (.n h.next) 3 fun n21 =>
 ldI h13 (.n h.next) 4 fun n23 =>
 some ((.agg [(.p p15), (.i .i64 n17), (.i .i64 n19), (.i .i64 n21), (.i .i64 n23)]), h13)
 else none
def pool_Pool__Table : Sm O := pool_Pool__Table_c pool_Pool__width
theorem pool_Pool__Table_ent : Entered Try.prog 126 := Try.call126
theorem pool_Pool__Table_run (k155 : Sm O) : run (O := O) Try.prog [(155, k155)] Try.f126 (.n .z (.n (.d [] [0, 1, 2, 3, 4, 5, 6, 7, 8, 10, 11, 12, 13, 9, 14, 15] [0, 1, 3, 7, 0, 16, 48, 112, 0, 256, 0, 1024, 0, 4096, 16383, 32767]) .z)) = pool_Pool__Table_c k155 := by kernel_rfl
theorem pool_Pool__Table_sound : FSound RO Try.prog 126 pool_Pool__Table := sdf (pool_Pool__Table_run _) (gcons pool_Pool__width_ent pool_Pool__width_sound <| gnil) Try.func126 (by kernel_rfl)
def large_Large__table_c (k126 : Sm O) : Sm O := fun xs h =>
 bif Nat.beq xs.length 1 then
 (AV.asP (xs.getD 0 .u)).bind fun p0 =>
 let h1 := h.bump 1
 let h2 := h1.put h.next (.cells true 136 [(.p none), (.i .i64 0), (.i .i64 0), (.i .i64 0), (.i .i64 0)])
 Option.bind p0 fun q3 =>
 ldP h2 q3.1 (q3.2 + 1) fun p5 =>
 (k126 [(.p p5), (.i .i64 2), (.i .i64 3)] h2).bind fun r6 =>
 (AV.asAgg 5 r6.1).bind fun c7 =>
 (AV.asP (c7.getD 0 .u)).bind fun p8 =>
 gtI c7 1 fun n9 =>
 gtI c7 2 fun n10 =>
 gtI c7 3 fun n11 =>
 gtI c7 4 fun n12 =>
 (r6.2.st (.n h.next) 0 [(.p p8), (.i .i64 n9), (.i .i64 n10), (.i .i64 n11), (.i .i64 n12)]).bind fun h13 =>
 ldP h13 (.n h.next) 0 fun p15 =>
 ldI h13 (.n h.next) 1 fun n17 =>
 ldI h13 (.n h.next) 2 fun n19 =>
 ldI h13 (.n h.next) 3 fun n21 =>
 ldI h13 (.n h.next) 4 fun n23 =>
 some ((.agg [(.p p15), (.i .i64 n17), (.i .i64 n19), (.i .i64 n21), (.i .i64 n23)]), h13)
 else none
def large_Large__table : Sm O := large_Large__table_c pool_Pool__Table
theorem large_Large__table_ent : Entered Try.prog 84 := Try.call84
theorem large_Large__table_run (k126 : Sm O) : run (O := O) Try.prog [(126, k126)] Try.f84 (.n .z .z) = large_Large__table_c k126 := by kernel_rfl
theorem large_Large__table_sound : FSound RO Try.prog 84 large_Large__table := sdf (large_Large__table_run _) (gcons pool_Pool__Table_ent pool_Pool__Table_sound <| gnil) Try.func84 (by kernel_rfl)
def chain_Table__Right_1_c : Sm O := fun xs h =>
 bif Nat.beq xs.length 2 then
 gtI xs 0 fun n0 =>
 ((bif ((decide (n0 >= 0)) == true) then
 (AV.asPS (xs.getD 1 .u)).bind fun q1 =>
 ldI h q1.1 (q1.2 + 2) fun n3 =>
 some ([(.b (decide (n0 < n3)))], h)
 else some ([(.b false)], h)) : Option (List AV × AH O)).bind fun r4 =>
 (AV.asB (r4.1.getD 0 .u)).bind fun b5 =>
 some ((.b b5), r4.2)
 else none
def chain_Table__Right_1 : Sm O := chain_Table__Right_1_c
theorem chain_Table__Right_1_ent : Entered Try.prog 161 := Try.call161
theorem chain_Table__Right_1_run : run (O := O) Try.prog [] Try.f161 (.n .z (.n (.g [(2, 4, [(11, .one .b)])]) .z)) = chain_Table__Right_1_c  := by kernel_rfl
theorem chain_Table__Right_1_sound : FSound RO Try.prog 161 chain_Table__Right_1 := sdf chain_Table__Right_1_run (gnil) Try.func161 (by kernel_rfl)
def chain_Table__Right_c (k161 : Sm O) : Sm O := fun xs h =>
 bif Nat.beq xs.length 1 then
 (AV.asAgg 5 (xs.getD 0 .u)).bind fun c0 =>
 (AV.asP (c0.getD 0 .u)).bind fun p1 =>
 gtI c0 1 fun n2 =>
 gtI c0 2 fun n3 =>
 gtI c0 3 fun n4 =>
 gtI c0 4 fun n5 =>
 let h6 := h.bump 1
 let h7 := h6.put h.next (.cells true 136 [(.p p1), (.i .i64 n2), (.i .i64 n3), (.i .i64 n4), (.i .i64 n5)])
 ldP h7 (.n h.next) 0 fun p9 =>
 ((bif ((!(Option.isNone p9)) == true) then
 ldI h7 (.n h.next) 2 fun n11 =>
 some ([(.b (decide (n11 >= 2)))], h7)
 else some ([(.b false)], h7)) : Option (List AV × AH O)).bind fun r12 =>
 (AV.asB (r12.1.getD 0 .u)).bind fun b13 =>
 ((bif (b13 == true) then
 ldI r12.2 (.n h.next) 2 fun n15 =>
 some ([(.b (decide (n15 <= 64)))], r12.2)
 else some ([(.b false)], r12.2)) : Option (List AV × AH O)).bind fun r16 =>
 (AV.asB (r16.1.getD 0 .u)).bind fun b17 =>
 ((bif (b17 == true) then
 ldI r16.2 (.n h.next) 3 fun n19 =>
 (k161 [(.i .i64 n19), (.p (some ((.n h.next), 0)))] r16.2).bind fun r20 =>
 (AV.asB r20.1).bind fun b21 =>
 some ([(.b b21)], r20.2)
 else some ([(.b false)], r16.2)) : Option (List AV × AH O)).bind fun r22 =>
 (AV.asB (r22.1.getD 0 .u)).bind fun b23 =>
 ((bif (b23 == true) then
 ldI r22.2 (.n h.next) 4 fun n25 =>
 (k161 [(.i .i64 n25), (.p (some ((.n h.next), 0)))] r22.2).bind fun r26 =>
 (AV.asB r26.1).bind fun b27 =>
 some ([(.b b27)], r26.2)
 else some ([(.b false)], r22.2)) : Option (List AV × AH O)).bind fun r28 =>
 (AV.asB (r28.1.getD 0 .u)).bind fun b29 =>
 ((bif (b29 == true) then
 ldI r28.2 (.n h.next) 3 fun n31 =>
 ldI r28.2 (.n h.next) 4 fun n33 =>
 some ([(.b ((n31 : Int) != n33))], r28.2)
 else some ([(.b false)], r28.2)) : Option (List AV × AH O)).bind fun r34 =>
 (AV.asB (r34.1.getD 0 .u)).bind fun b35 =>
 some ((.b b35), r34.2)
 else none
def chain_Table__Right : Sm O := chain_Table__Right_c chain_Table__Right_1
theorem chain_Table__Right_ent : Entered Try.prog 140 := Try.call140
theorem chain_Table__Right_run (k161 : Sm O) : run (O := O) Try.prog [(161, k161)] Try.f140 (.n .z (.n .z (.n (.g [(3, 3, [(12, .one .b)]), (8, 3, [(17, .one .b)]), (13, 4, [(23, .one .b)]), (19, 4, [(29, .one .b)]), (25, 5, [(36, .one .b)])]) .z))) = chain_Table__Right_c k161 := by kernel_rfl
theorem chain_Table__Right_sound : FSound RO Try.prog 140 chain_Table__Right := sdf (chain_Table__Right_run _) (gcons chain_Table__Right_1_ent chain_Table__Right_1_sound <| gnil) Try.func140 (by kernel_rfl)
def mem_Mem__Size_c (k138 : Sm O) : Sm O := fun xs h =>
 bif Nat.beq xs.length 2 then
 (AV.asP (xs.getD 0 .u)).bind fun p0 =>
 gtI xs 1 fun n1 =>
 (k138 [(.p p0), (.i .i64 n1)] h).bind fun r2 =>
 (AV.asP r2.1).bind fun p3 =>
 (bif (Option.isNone p3) then
 some ((.tup [(.i .i64 0), (.i .i64 10)]), r2.2)
 else Option.bind p3 fun q4 =>
 ldS r2.2 q4.1 q4.2 fun l6 =>
 some ((.tup [(.i .i64 (l6.2 : Int)), (.i .i64 0)]), r2.2))
 else none
def mem_Mem__Size : Sm O := mem_Mem__Size_c mem_Mem__at
theorem mem_Mem__Size_ent : Entered Try.prog 169 := Try.call169
theorem mem_Mem__Size_run (k138 : Sm O) : run (O := O) Try.prog [(138, k138)] Try.f169 (.n .z (.n .z (.n (.n .z (.n .z .z)) .z))) = mem_Mem__Size_c k138 := by kernel_rfl
theorem mem_Mem__Size_sound : FSound RO Try.prog 169 mem_Mem__Size := sdf (mem_Mem__Size_run _) (gcons mem_Mem__at_ent mem_Mem__at_sound <| gnil) Try.func169 (by kernel_rfl)
def chain_Table__Entries_c (k140 k169 : Sm O) : Sm O := fun xs h =>
 bif Nat.beq xs.length 1 then
 (AV.asAgg 5 (xs.getD 0 .u)).bind fun c0 =>
 (AV.asP (c0.getD 0 .u)).bind fun p1 =>
 gtI c0 1 fun n2 =>
 gtI c0 2 fun n3 =>
 gtI c0 3 fun n4 =>
 gtI c0 4 fun n5 =>
 let h6 := h.bump 1
 let h7 := h6.put h.next (.cells true 136 [(.p p1), (.i .i64 n2), (.i .i64 n3), (.i .i64 n4), (.i .i64 n5)])
 ldP h7 (.n h.next) 0 fun p9 =>
 ldI h7 (.n h.next) 1 fun n11 =>
 ldI h7 (.n h.next) 2 fun n13 =>
 ldI h7 (.n h.next) 3 fun n15 =>
 ldI h7 (.n h.next) 4 fun n17 =>
 (k140 [(.agg [(.p p9), (.i .i64 n11), (.i .i64 n13), (.i .i64 n15), (.i .i64 n17)])] h7).bind fun r18 =>
 (AV.asB r18.1).bind fun b19 =>
 (bif (!b19) then
 some ((.i .i64 0), r18.2)
 else ldP r18.2 (.n h.next) 0 fun p21 =>
 ldI r18.2 (.n h.next) 1 fun n23 =>
 (k169 [(.p p21), (.i .i64 n23)] r18.2).bind fun r24 =>
 (AV.asTup 2 r24.1).bind fun c25 =>
 gtI c25 0 fun n26 =>
 gtI c25 1 fun n27 =>
 ldI r24.2 (.n h.next) 2 fun n29 =>
 (bif (n29 == 0) then
 none
 else some ((.i .i64 (IntKind.i64.wrap (Int.tdiv n26 n29))), r24.2)))
 else none
def chain_Table__Entries : Sm O := chain_Table__Entries_c chain_Table__Right mem_Mem__Size
theorem chain_Table__Entries_ent : Entered Try.prog 156 := Try.call156
theorem chain_Table__Entries_run (k140 k169 : Sm O) : run (O := O) Try.prog [(140, k140), (169, k169)] Try.f156 (.n .z (.n (.n .z (.n .z .z)) (.n .z .z))) = chain_Table__Entries_c k140 k169 := by kernel_rfl
theorem chain_Table__Entries_sound : FSound RO Try.prog 156 chain_Table__Entries := sdf (chain_Table__Entries_run _ _) (gcons chain_Table__Right_ent chain_Table__Right_sound <| gcons mem_Mem__Size_ent mem_Mem__Size_sound <| gnil) Try.func156 (by kernel_rfl)
def chain_Table__check_c (k140 k156 : Sm O) : Sm O := fun xs h =>
 bif Nat.beq xs.length 2 then
 (AV.asAgg 5 (xs.getD 0 .u)).bind fun c0 =>
 (AV.asP (c0.getD 0 .u)).bind fun p1 =>
 gtI c0 1 fun n2 =>
 gtI c0 2 fun n3 =>
 gtI c0 3 fun n4 =>
 gtI c0 4 fun n5 =>
 gtI xs 1 fun n6 =>
 let h7 := h.bump 1
 let h8 := h7.put h.next (.cells true 136 [(.p p1), (.i .i64 n2), (.i .i64 n3), (.i .i64 n4), (.i .i64 n5)])
 ldP h8 (.n h.next) 0 fun p10 =>
 ldI h8 (.n h.next) 1 fun n12 =>
 ldI h8 (.n h.next) 2 fun n14 =>
 ldI h8 (.n h.next) 3 fun n16 =>
 ldI h8 (.n h.next) 4 fun n18 =>
 (k140 [(.agg [(.p p10), (.i .i64 n12), (.i .i64 n14), (.i .i64 n16), (.i .i64 n18)])] h8).bind fun r19 =>
 (AV.asB r19.1).bind fun b20 =>
 (bif (!b20) then
 some ((.i .i64 1), r19.2)
 else ((bif ((decide (n6 < 1)) == false) then
 ldP r19.2 (.n h.next) 0 fun p22 =>
 ldI r19.2 (.n h.next) 1 fun n24 =>
 ldI r19.2 (.n h.next) 2 fun n26 =>
 ldI r19.2 (.n h.next) 3 fun n28 =>
 ldI r19.2 (.n h.next) 4 fun n30 =>
 (k156 [(.agg [(.p p22), (.i .i64 n24), (.i .i64 n26), (.i .i64 n28), (.i .i64 n30)])] r19.2).bind fun r31 =>
 (AV.asI .i64 r31.1).bind fun n32 =>
 some ([(.b (decide (n6 > n32)))], r31.2)
 else some ([(.b true)], r19.2)) : Option (List AV × AH O)).bind fun r33 =>
 (AV.asB (r33.1.getD 0 .u)).bind fun b34 =>
 (bif b34 then
 some ((.i .i64 2), r33.2)
 else some ((.i .i64 0), r33.2)))
 else none
def chain_Table__check : Sm O := chain_Table__check_c chain_Table__Right chain_Table__Entries
theorem chain_Table__check_ent : Entered Try.prog 127 := Try.call127
theorem chain_Table__check_run (k140 k156 : Sm O) : run (O := O) Try.prog [(140, k140), (156, k156)] Try.f127 (.n .z (.n (.n (.n .z (.n .z (.n (.g [(2, 4, [(17, .one .b)])]) (.n .z .z)))) .z) .z)) = chain_Table__check_c k140 k156 := by kernel_rfl
theorem chain_Table__check_sound : FSound RO Try.prog 127 chain_Table__check := sdf (chain_Table__check_run _ _) (gcons chain_Table__Right_ent chain_Table__Right_sound <| gcons chain_Table__Entries_ent chain_Table__Entries_sound <| gnil) Try.func127 (by kernel_rfl)
def chain_Table__at_c : Sm O := fun xs h =>
 bif Nat.beq xs.length 3 then
 (AV.asAgg 5 (xs.getD 0 .u)).bind fun c0 =>
 (AV.asP (c0.getD 0 .u)).bind fun p1 =>
 gtI c0 1 fun n2 =>
 gtI c0 2 fun n3 =>
 gtI c0 3 fun n4 =>
 gtI c0 4 fun n5 =>
 gtI xs 1 fun n6 =>
 gtI xs 2 fun n7 =>
 let h8 := h.bump 1
 let h9 := h8.put h.next (.cells true 136 [(.p p1), (.i .i64 n2), (.i .i64 n3), (.i .i64 n4), (.i .i64 n5)])
 ldI h9 (.n h.next) 2 fun n11 =>
 let v12 : Int := (IntKind.i64.wrap ((IntKind.i64.wrap (n6 - 1)) * n11))
 some ((.i .i64 (IntKind.i64.wrap (v12 + n7))), h9)
 else none
def chain_Table__at : Sm O := chain_Table__at_c
theorem chain_Table__at_ent : Entered Try.prog 157 := Try.call157
theorem chain_Table__at_run : run (O := O) Try.prog [] Try.f157 (.n .z .z) = chain_Table__at_c  := by kernel_rfl
theorem chain_Table__at_sound : FSound RO Try.prog 157 chain_Table__at := sdf chain_Table__at_run (gnil) Try.func157 (by kernel_rfl)
def chain_Table__set_c (k157 k89 : Sm O) : Sm O := fun xs h =>
 bif Nat.beq xs.length 4 then
 (AV.asAgg 5 (xs.getD 0 .u)).bind fun c0 =>
 (AV.asP (c0.getD 0 .u)).bind fun p1 =>
 gtI c0 1 fun n2 =>
 gtI c0 2 fun n3 =>
 gtI c0 3 fun n4 =>
 gtI c0 4 fun n5 =>
 gtI xs 1 fun n6 =>
 gtI xs 2 fun n7 =>
 gtI xs 3 fun n8 =>
 let h9 := h.bump 1
 let h10 := h9.put h.next (.cells true 136 [(.p p1), (.i .i64 n2), (.i .i64 n3), (.i .i64 n4), (.i .i64 n5)])
 ldP h10 (.n h.next) 0 fun p12 =>
 ldI h10 (.n h.next) 1 fun n14 =>
 ldP h10 (.n h.next) 0 fun p16 =>
 ldI h10 (.n h.next) 1 fun n18 =>
 ldI h10 (.n h.next) 2 fun n20 =>
 ldI h10 (.n h.next) 3 fun n22 =>
 ldI h10 (.n h.next) 4 fun n24 =>
 (k157 [(.agg [(.p p16), (.i .i64 n18), (.i .i64 n20), (.i .i64 n22), (.i .i64 n24)]), (.i .i64 n6), (.i .i64 n7)] h10).bind fun r25 =>
 (AV.asI .i64 r25.1).bind fun n26 =>
 (chkE (r25.2.ld (.n h.next) 0) (some (.p p12))).bind fun _ =>
 (chkE (r25.2.ld (.n h.next) 1) (some (.i .i64 n14))).bind fun _ =>
 (k89 [(.p p12), (.i .i64 n14), (.i .i64 n26), (.i .u64 (IntKind.u64.wrap n8))] r25.2).bind fun r27 =>
 (AV.asI .i64 r27.1).bind fun n28 =>
 some ((.tup []), r27.2)
 else none
def chain_Table__set : Sm O := chain_Table__set_c chain_Table__at mem_Mem__Write
theorem chain_Table__set_ent : Entered Try.prog 128 := Try.call128
theorem chain_Table__set_run (k157 k89 : Sm O) : run (O := O) Try.prog [(157, k157), (89, k89)] Try.f128 (.n .z (.d [] [0, 1, 2, 3, 4, 5, 6, 8, 9, 7, 10] [0, 1, 0, 4, 0, 0, 0, 112, 0, 256, 1023])) = chain_Table__set_c k157 k89 := by kernel_rfl
theorem chain_Table__set_sound : FSound RO Try.prog 128 chain_Table__set := sdf (chain_Table__set_run _ _) (gcons chain_Table__at_ent chain_Table__at_sound <| gcons mem_Mem__Write_ent mem_Mem__Write_sound <| gnil) Try.func128 (by kernel_rfl)
def chain_Table__Push_c (k127 k128 : Sm O) : Sm O := fun xs h =>
 bif Nat.beq xs.length 3 then
 (AV.asAgg 5 (xs.getD 0 .u)).bind fun c0 =>
 (AV.asP (c0.getD 0 .u)).bind fun p1 =>
 gtI c0 1 fun n2 =>
 gtI c0 2 fun n3 =>
 gtI c0 3 fun n4 =>
 gtI c0 4 fun n5 =>
 (AV.asAgg 3 (xs.getD 1 .u)).bind fun c6 =>
 gtI c6 0 fun n7 =>
 gtI c6 1 fun n8 =>
 gtI c6 2 fun n9 =>
 gtI xs 2 fun n10 =>
 let h11 := h.bump 3
 let h12 := h11.put h.next (.cells true 136 [(.p p1), (.i .i64 n2), (.i .i64 n3), (.i .i64 n4), (.i .i64 n5)])
 let h13 := h12.put (h.next + 1) (.cells true 130 [(.i .i64 n7), (.i .i64 n8), (.i .i64 n9)])
 let h14 := h13.put ((h.next + 1) + 1) (.cells true 130 [(.i .i64 0), (.i .i64 0), (.i .i64 0)])
 ldP h14 (.n h.next) 0 fun p16 =>
 ldI h14 (.n h.next) 1 fun n18 =>
 ldI h14 (.n h.next) 2 fun n20 =>
 ldI h14 (.n h.next) 3 fun n22 =>
 ldI h14 (.n h.next) 4 fun n24 =>
 (k127 [(.agg [(.p p16), (.i .i64 n18), (.i .i64 n20), (.i .i64 n22), (.i .i64 n24)]), (.i .i64 n10)] h14).bind fun r25 =>
 (AV.asI .i64 r25.1).bind fun n26 =>
 (bif ((n26 : Int) != 0) then
 ldI r25.2 (.n (h.next + 1)) 0 fun n28 =>
 ldI r25.2 (.n (h.next + 1)) 1 fun n30 =>
 ldI r25.2 (.n (h.next + 1)) 2 fun n32 =>
 (r25.2.st (.n ((h.next + 1) + 1)) 0 [(.i .i64 n28), (.i .i64 n30), (.i .i64 n32)]).bind fun h33 =>
 ldI h33 (.n ((h.next + 1) + 1)) 0 fun n35 =>
 ldI h33 (.n ((h.next + 1) + 1)) 1 fun n37 =>
 ldI h33 (.n ((h.next + 1) + 1)) 2 fun n39 =>
 some ((.tup [(.agg [(.i .i64 n35), (.i .i64 n37), (.i .i64 n39)]), (.i .i64 n26)]), h33)
 else ldP r25.2 (.n h.next) 0 fun p41 =>
 ldI r25.2 (.n h.next) 1 fun n43 =>
 ldI r25.2 (.n h.next) 2 fun n45 =>
 ldI r25.2 (.n h.next) 3 fun n47 =>
 ldI r25.2 (.n h.next) 4 fun n49 =>
 ldI r25.2 (.n h.next) 4 fun n51 =>
 ldI r25.2 (.n (h.next + 1)) 1 fun n53 =>
 (k128 [(.agg [(.p p41), (.i .i64 n43), (.i .i64 n45), (.i .i64 n47), (.i .i64 n49)]), (.i .i64 n10), (.i .i64 n51), (.i .i64 n53)] r25.2).bind fun r54 =>
 (AV.asTup 0 r54.1).bind fun c55 =>
 ldP r54.2 (.n h.next) 0 fun p57 =>
 ldI r54.2 (.n h.next) 1 fun n59 =>
 ldI r54.2 (.n h.next) 2 fun n61 =>
 ldI r54.2 (.n h.next) 3 fun n63 =>
 ldI r54.2 (.n h.next) 4 fun n65 =>
 ldI r54.2 (.n h.next) 3 fun n67 =>
 (k128 [(.agg [(.p p57), (.i .i64 n59), (.i .i64 n61), (.i .i64 n63), (.i .i64 n65)]), (.i .i64 n10), (.i .i64 n67), (.i .i64 0)] r54.2).bind fun r68 =>
 (AV.asTup 0 r68.1).bind fun c69 =>
 ldI r68.2 (.n (h.next + 1)) 2 fun n71 =>
 (bif ((n71 : Int) == 0) then
 (r68.2.st (.n ((h.next + 1) + 1)) 0 [(.i .i64 n10), (.i .i64 n10), (.i .i64 1)]).bind fun h72 =>
 ldI h72 (.n ((h.next + 1) + 1)) 0 fun n74 =>
 ldI h72 (.n ((h.next + 1) + 1)) 1 fun n76 =>
 ldI h72 (.n ((h.next + 1) + 1)) 2 fun n78 =>
 some ((.tup [(.agg [(.i .i64 n74), (.i .i64 n76), (.i .i64 n78)]), (.i .i64 0)]), h72)
 else ldP r68.2 (.n h.next) 0 fun p80 =>
 ldI r68.2 (.n h.next) 1 fun n82 =>
 ldI r68.2 (.n h.next) 2 fun n84 =>
 ldI r68.2 (.n h.next) 3 fun n86 =>
 ldI r68.2 (.n h.next) 4 fun n88 =>
 ldI r68.2 (.n (h.next + 1)) 1 fun n90 =>
 ldI r68.2 (.n h.next) 3 fun n92 =>
 (k128 [(.agg [(.p p80), (.i .i64 n82), (.i .i64 n84), (.i .i64 n86), (.i .i64 n88)]), (.i .i64 n90), (.i .i64 n92), (.i .i64 n10)] r68.2).bind fun r93 =>
 (AV.asTup 0 r93.1).bind fun c94 =>
 ldI r93.2 (.n (h.next + 1)) 0 fun n96 =>
 ldI r93.2 (.n (h.next + 1)) 2 fun n98 =>
 (r93.2.st (.n ((h.next + 1) + 1)) 0 [(.i .i64 n96), (.i .i64 n10), (.i .i64 (IntKind.i64.wrap (n98 + 1)))]).bind fun h99 =>
 ldI h99 (.n ((h.next + 1) + 1)) 0 fun n101 =>
 ldI h99 (.n ((h.next + 1) + 1)) 1 fun n103 =>
 ldI h99 (.n ((h.next + 1) + 1)) 2 fun n105 =>
 some ((.tup [(.agg [(.i .i64 n101), (.i .i64 n103), (.i .i64 n105)]), (.i .i64 0)]), h99)))
 else none
def chain_Table__Push : Sm O := chain_Table__Push_c chain_Table__check chain_Table__set
theorem chain_Table__Push_ent : Entered Try.prog 63 := Try.call63
theorem chain_Table__Push_run (k127 k128 : Sm O) : run (O := O) Try.prog [(127, k127), (128, k128)] Try.f63 (.n .z (.n (.n .z (.n .z (.n .z .z))) (.n .z (.n .z (.n (.n .z (.n .z .z)) (.n .z .z)))))) = chain_Table__Push_c k127 k128 := by kernel_rfl
theorem chain_Table__Push_sound : FSound RO Try.prog 63 chain_Table__Push := sdf (chain_Table__Push_run _ _) (gcons chain_Table__check_ent chain_Table__check_sound <| gcons chain_Table__set_ent chain_Table__set_sound <| gnil) Try.func63 (by kernel_rfl)
def large_Large__Add_c (k82 k60 k83 k61 k84 k63 : Sm O) : Sm O := fun xs h =>
 bif Nat.beq xs.length 2 then
 (AV.asP (xs.getD 0 .u)).bind fun p0 =>
 gtI xs 1 fun n1 =>
 (bif (decide (n1 < 1)) then
 some ((.tup [(.i .i64 0), (.i .i64 1)]), h)
 else Option.bind p0 fun q2 =>
 ldP h q2.1 q2.2 fun p4 =>
 (k82 [(.p p4), (.i .i64 n1)] h).bind fun r5 =>
 (AV.asTup 2 r5.1).bind fun c6 =>
 gtI c6 0 fun n7 =>
 gtI c6 1 fun n8 =>
 (bif ((n8 : Int) != 0) then
 some ((.tup [(.i .i64 0), (.i .i64 n8)]), r5.2)
 else Option.bind p0 fun q9 =>
 ldP r5.2 q9.1 (q9.2 + 1) fun p11 =>
 (k60 [(.p p11)] r5.2).bind fun r12 =>
 (AV.asTup 2 r12.1).bind fun c13 =>
 gtI c13 0 fun n14 =>
 gtI c13 1 fun n15 =>
 (bif ((n15 : Int) != 0) then
 Option.bind p0 fun q16 =>
 ldP r12.2 q16.1 q16.2 fun p18 =>
 (k83 [(.p p18), (.i .i64 n7)] r12.2).bind fun r19 =>
 (AV.asI .i64 r19.1).bind fun n20 =>
 some ((.tup [(.i .i64 0), (.i .i64 n15)]), r19.2)
 else Option.bind p0 fun q21 =>
 ldP r12.2 q21.1 (q21.2 + 1) fun p23 =>
 (k61 [(.p p23), (.i .i64 n14), (.i .i64 0), (.i .u64 (IntKind.u64.wrap n7))] r12.2).bind fun r24 =>
 (AV.asI .i64 r24.1).bind fun n25 =>
 Option.bind p0 fun q26 =>
 ldP r24.2 q26.1 (q26.2 + 1) fun p28 =>
 (k61 [(.p p28), (.i .i64 n14), (.i .i64 1), (.i .u64 (IntKind.u64.wrap n1))] r24.2).bind fun r29 =>
 (AV.asI .i64 r29.1).bind fun n30 =>
 Option.bind p0 fun q31 =>
 ldP r29.2 q31.1 (q31.2 + 1) fun p33 =>
 Option.bind p0 fun q34 =>
 ldU r29.2 q34.1 (q34.2 + 8) fun n36 =>
 (k61 [(.p p33), (.i .i64 n14), (.i .i64 4), (.i .u64 n36)] r29.2).bind fun r37 =>
 (AV.asI .i64 r37.1).bind fun n38 =>
 Option.bind p0 fun q39 =>
 ldI r37.2 q39.1 (q39.2 + 2) fun n41 =>
 ldI r37.2 q39.1 ((q39.2 + 2) + 1) fun n43 =>
 ldI r37.2 q39.1 (((q39.2 + 2) + 1) + 1) fun n45 =>
 (k84 [(.p p0)] r37.2).bind fun r46 =>
 (AV.asAgg 5 r46.1).bind fun c47 =>
 (AV.asP (c47.getD 0 .u)).bind fun p48 =>
 gtI c47 1 fun n49 =>
 gtI c47 2 fun n50 =>
 gtI c47 3 fun n51 =>
 gtI c47 4 fun n52 =>
 (chkE (r46.2.ld q39.1 (q39.2 + 2)) (some (.i .i64 n41))).bind fun _ =>
 (chkE (r46.2.ld q39.1 ((q39.2 + 2) + 1)) (some (.i .i64 n43))).bind fun _ =>
 (chkE (r46.2.ld q39.1 (((q39.2 + 2) + 1) + 1)) (some (.i .i64 n45))).bind fun _ =>
 (k63 [(.agg [(.p p48), (.i .i64 n49), (.i .i64 n50), (.i .i64 n51), (.i .i64 n52)]), (.agg [(.i .i64 n41), (.i .i64 n43), (.i .i64 n45)]), (.i .i64 n14)] r46.2).bind fun r53 =>
 (AV.asTup 2 r53.1).bind fun c54 =>
 (AV.asAgg 3 (c54.getD 0 .u)).bind fun c55 =>
 gtI c55 0 fun n56 =>
 gtI c55 1 fun n57 =>
 gtI c55 2 fun n58 =>
 gtI c54 1 fun n59 =>
 Option.bind p0 fun q60 =>
 (r53.2.st q60.1 (q60.2 + 2) [(.i .i64 n56), (.i .i64 n57), (.i .i64 n58)]).bind fun h61 =>
 Option.bind p0 fun q62 =>
 ldI h61 q62.1 (q62.2 + 10) fun n64 =>
 Option.bind p0 fun q65 =>
 (h61.st q65.1 (q65.2 + 10) [(.i .i64 (IntKind.i64.wrap (n64 + n1)))]).bind fun h66 =>
 some ((.tup [(.i .i64 n14), (.i .i64 0)]), h66))))
 else none
def large_Large__Add : Sm O := large_Large__Add_c mem_Mem__Open pool_Pool__Take mem_Mem__Close pool_Pool__Set large_Large__table chain_Table__Push
theorem large_Large__Add_ent : Entered Try.prog 27 := Try.call27
theorem large_Large__Add_run (k82 k60 k83 k61 k84 k63 : Sm O) : run (O := O) Try.prog [(82, k82), (60, k60), (83, k83), (61, k61), (84, k84), (63, k63)] Try.f27 (.n .z (.n (.n .z (.n .z .z)) (.n .z (.n (.n .z (.n .z .z)) (.n .z (.n (.n .z (.n (.n .z .z) .z)) (.n .z (.n .z (.n (.d [] [0, 1, 2, 3, 4, 5, 6, 7, 8, 9] [0, 1, 3, 7, 0, 0, 32, 96, 224, 511]) (.n (.d [] [0, 1, 3, 4, 5, 6, 7, 2, 8, 9, 10, 11, 12, 13, 14] [0, 0, 2, 0, 8, 24, 56, 0, 254, 510, 1022, 1022, 2047, 6143, 14335]) (.n .z .z))))))))))) = large_Large__Add_c k82 k60 k83 k61 k84 k63 := by kernel_rfl
theorem large_Large__Add_sound : FSound RO Try.prog 27 large_Large__Add := sdf (large_Large__Add_run _ _ _ _ _ _) (gcons mem_Mem__Open_ent mem_Mem__Open_sound <| gcons pool_Pool__Take_ent pool_Pool__Take_sound <| gcons mem_Mem__Close_ent mem_Mem__Close_sound <| gcons pool_Pool__Set_ent pool_Pool__Set_sound <| gcons large_Large__table_ent large_Large__table_sound <| gcons chain_Table__Push_ent chain_Table__Push_sound <| gnil) Try.func27 (by kernel_rfl)
def chain_Table__Join_c (k140 k128 : Sm O) : Sm O := fun xs h =>
 bif Nat.beq xs.length 3 then
 (AV.asAgg 5 (xs.getD 0 .u)).bind fun c0 =>
 (AV.asP (c0.getD 0 .u)).bind fun p1 =>
 gtI c0 1 fun n2 =>
 gtI c0 2 fun n3 =>
 gtI c0 3 fun n4 =>
 gtI c0 4 fun n5 =>
 (AV.asAgg 3 (xs.getD 1 .u)).bind fun c6 =>
 gtI c6 0 fun n7 =>
 gtI c6 1 fun n8 =>
 gtI c6 2 fun n9 =>
 (AV.asAgg 3 (xs.getD 2 .u)).bind fun c10 =>
 gtI c10 0 fun n11 =>
 gtI c10 1 fun n12 =>
 gtI c10 2 fun n13 =>
 let h14 := h.bump 4
 let h15 := h14.put h.next (.cells true 136 [(.p p1), (.i .i64 n2), (.i .i64 n3), (.i .i64 n4), (.i .i64 n5)])
 let h16 := h15.put (h.next + 1) (.cells true 130 [(.i .i64 n7), (.i .i64 n8), (.i .i64 n9)])
 let h17 := h16.put ((h.next + 1) + 1) (.cells true 130 [(.i .i64 n11), (.i .i64 n12), (.i .i64 n13)])
 let h18 := h17.put (((h.next + 1) + 1) + 1) (.cells true 130 [(.i .i64 0), (.i .i64 0), (.i .i64 0)])
 ldP h18 (.n h.next) 0 fun p20 =>
 ldI h18 (.n h.next) 1 fun n22 =>
 ldI h18 (.n h.next) 2 fun n24 =>
 ldI h18 (.n h.next) 3 fun n26 =>
 ldI h18 (.n h.next) 4 fun n28 =>
 (k140 [(.agg [(.p p20), (.i .i64 n22), (.i .i64 n24), (.i .i64 n26), (.i .i64 n28)])] h18).bind fun r29 =>
 (AV.asB r29.1).bind fun b30 =>
 (bif (!b30) then
 ldI r29.2 (.n (h.next + 1)) 0 fun n32 =>
 ldI r29.2 (.n (h.next + 1)) 1 fun n34 =>
 ldI r29.2 (.n (h.next + 1)) 2 fun n36 =>
 (r29.2.st (.n (((h.next + 1) + 1) + 1)) 0 [(.i .i64 n32), (.i .i64 n34), (.i .i64 n36)]).bind fun h37 =>
 ldI h37 (.n (((h.next + 1) + 1) + 1)) 0 fun n39 =>
 ldI h37 (.n (((h.next + 1) + 1) + 1)) 1 fun n41 =>
 ldI h37 (.n (((h.next + 1) + 1) + 1)) 2 fun n43 =>
 some ((.tup [(.agg [(.i .i64 n39), (.i .i64 n41), (.i .i64 n43)]), (.i .i64 1)]), h37)
 else ldI r29.2 (.n (h.next + 1)) 2 fun n45 =>
 (bif ((n45 : Int) == 0) then
 ldI r29.2 (.n ((h.next + 1) + 1)) 0 fun n47 =>
 ldI r29.2 (.n ((h.next + 1) + 1)) 1 fun n49 =>
 ldI r29.2 (.n ((h.next + 1) + 1)) 2 fun n51 =>
 (r29.2.st (.n (((h.next + 1) + 1) + 1)) 0 [(.i .i64 n47), (.i .i64 n49), (.i .i64 n51)]).bind fun h52 =>
 ldI h52 (.n (((h.next + 1) + 1) + 1)) 0 fun n54 =>
 ldI h52 (.n (((h.next + 1) + 1) + 1)) 1 fun n56 =>
 ldI h52 (.n (((h.next + 1) + 1) + 1)) 2 fun n58 =>
 some ((.tup [(.agg [(.i .i64 n54), (.i .i64 n56), (.i .i64 n58)]), (.i .i64 0)]), h52)
 else ldI r29.2 (.n ((h.next + 1) + 1)) 2 fun n60 =>
 (bif ((n60 : Int) == 0) then
 ldI r29.2 (.n (h.next + 1)) 0 fun n62 =>
 ldI r29.2 (.n (h.next + 1)) 1 fun n64 =>
 ldI r29.2 (.n (h.next + 1)) 2 fun n66 =>
 (r29.2.st (.n (((h.next + 1) + 1) + 1)) 0 [(.i .i64 n62), (.i .i64 n64), (.i .i64 n66)]).bind fun h67 =>
 ldI h67 (.n (((h.next + 1) + 1) + 1)) 0 fun n69 =>
 ldI h67 (.n (((h.next + 1) + 1) + 1)) 1 fun n71 =>
 ldI h67 (.n (((h.next + 1) + 1) + 1)) 2 fun n73 =>
 some ((.tup [(.agg [(.i .i64 n69), (.i .i64 n71), (.i .i64 n73)]), (.i .i64 0)]), h67)
 else ldP r29.2 (.n h.next) 0 fun p75 =>
 ldI r29.2 (.n h.next) 1 fun n77 =>
 ldI r29.2 (.n h.next) 2 fun n79 =>
 ldI r29.2 (.n h.next) 3 fun n81 =>
 ldI r29.2 (.n h.next) 4 fun n83 =>
 ldI r29.2 (.n (h.next + 1)) 1 fun n85 =>
 ldI r29.2 (.n h.next) 3 fun n87 =>
 ldI r29.2 (.n ((h.next + 1) + 1)) 0 fun n89 =>
 (k128 [(.agg [(.p p75), (.i .i64 n77), (.i .i64 n79), (.i .i64 n81), (.i .i64 n83)]), (.i .i64 n85), (.i .i64 n87), (.i .i64 n89)] r29.2).bind fun r90 =>
 (AV.asTup 0 r90.1).bind fun c91 =>
 ldP r90.2 (.n h.next) 0 fun p93 =>
 ldI r90.2 (.n h.next) 1 fun n95 =>
 ldI r90.2 (.n h.next) 2 fun n97 =>
 ldI r90.2 (.n h.next) 3 fun n99 =>
 ldI r90.2 (.n h.next) 4 fun n101 =>
 ldI r90.2 (.n ((h.next + 1) + 1)) 0 fun n103 =>
 ldI r90.2 (.n h.next) 4 fun n105 =>
 ldI r90.2 (.n (h.next + 1)) 1 fun n107 =>
 (k128 [(.agg [(.p p93), (.i .i64 n95), (.i .i64 n97), (.i .i64 n99), (.i .i64 n101)]), (.i .i64 n103), (.i .i64 n105), (.i .i64 n107)] r90.2).bind fun r108 =>
 (AV.asTup 0 r108.1).bind fun c109 =>
 ldI r108.2 (.n (h.next + 1)) 0 fun n111 =>
 ldI r108.2 (.n ((h.next + 1) + 1)) 1 fun n113 =>
 ldI r108.2 (.n (h.next + 1)) 2 fun n115 =>
 ldI r108.2 (.n ((h.next + 1) + 1)) 2 fun n117 =>
 (r108.2.st (.n (((h.next + 1) + 1) + 1)) 0 [(.i .i64 n111), (.i .i64 n113), (.i .i64 (IntKind.i64.wrap (n115 + n117)))]).bind fun h118 =>
 ldI h118 (.n (((h.next + 1) + 1) + 1)) 0 fun n120 =>
 ldI h118 (.n (((h.next + 1) + 1) + 1)) 1 fun n122 =>
 ldI h118 (.n (((h.next + 1) + 1) + 1)) 2 fun n124 =>
 some ((.tup [(.agg [(.i .i64 n120), (.i .i64 n122), (.i .i64 n124)]), (.i .i64 0)]), h118))))
 else none
def chain_Table__Join : Sm O := chain_Table__Join_c chain_Table__Right chain_Table__set
theorem chain_Table__Join_ent : Entered Try.prog 85 := Try.call85
theorem chain_Table__Join_run (k140 k128 : Sm O) : run (O := O) Try.prog [(140, k140), (128, k128)] Try.f85 (.n .z (.n (.n (.n .z (.n .z (.n .z (.n .z (.n .z (.n .z .z)))))) .z) (.n .z (.n .z .z)))) = chain_Table__Join_c k140 k128 := by kernel_rfl
theorem chain_Table__Join_sound : FSound RO Try.prog 85 chain_Table__Join := sdf (chain_Table__Join_run _ _) (gcons chain_Table__Right_ent chain_Table__Right_sound <| gcons chain_Table__set_ent chain_Table__set_sound <| gnil) Try.func85 (by kernel_rfl)
def large_Large__Begin_c (k84 k85 : Sm O) : Sm O := fun xs h =>
 bif Nat.beq xs.length 1 then
 (AV.asP (xs.getD 0 .u)).bind fun p0 =>
 Option.bind p0 fun q1 =>
 ldU h q1.1 (q1.2 + 8) fun n3 =>
 Option.bind p0 fun q4 =>
 (h.st q4.1 (q4.2 + 8) [(.i .u64 (IntKind.u64.wrap (n3 + 1)))]).bind fun h5 =>
 Option.bind p0 fun q6 =>
 ldI h5 q6.1 (q6.2 + 5) fun n8 =>
 ldI h5 q6.1 ((q6.2 + 5) + 1) fun n10 =>
 ldI h5 q6.1 (((q6.2 + 5) + 1) + 1) fun n12 =>
 Option.bind p0 fun q13 =>
 ldI h5 q13.1 (q13.2 + 2) fun n15 =>
 ldI h5 q13.1 ((q13.2 + 2) + 1) fun n17 =>
 ldI h5 q13.1 (((q13.2 + 2) + 1) + 1) fun n19 =>
 (k84 [(.p p0)] h5).bind fun r20 =>
 (AV.asAgg 5 r20.1).bind fun c21 =>
 (AV.asP (c21.getD 0 .u)).bind fun p22 =>
 gtI c21 1 fun n23 =>
 gtI c21 2 fun n24 =>
 gtI c21 3 fun n25 =>
 gtI c21 4 fun n26 =>
 (chkE (r20.2.ld q6.1 (q6.2 + 5)) (some (.i .i64 n8))).bind fun _ =>
 (chkE (r20.2.ld q6.1 ((q6.2 + 5) + 1)) (some (.i .i64 n10))).bind fun _ =>
 (chkE (r20.2.ld q6.1 (((q6.2 + 5) + 1) + 1)) (some (.i .i64 n12))).bind fun _ =>
 (chkE (r20.2.ld q13.1 (q13.2 + 2)) (some (.i .i64 n15))).bind fun _ =>
 (chkE (r20.2.ld q13.1 ((q13.2 + 2) + 1)) (some (.i .i64 n17))).bind fun _ =>
 (chkE (r20.2.ld q13.1 (((q13.2 + 2) + 1) + 1)) (some (.i .i64 n19))).bind fun _ =>
 (k85 [(.agg [(.p p22), (.i .i64 n23), (.i .i64 n24), (.i .i64 n25), (.i .i64 n26)]), (.agg [(.i .i64 n8), (.i .i64 n10), (.i .i64 n12)]), (.agg [(.i .i64 n15), (.i .i64 n17), (.i .i64 n19)])] r20.2).bind fun r27 =>
 (AV.asTup 2 r27.1).bind fun c28 =>
 (AV.asAgg 3 (c28.getD 0 .u)).bind fun c29 =>
 gtI c29 0 fun n30 =>
 gtI c29 1 fun n31 =>
 gtI c29 2 fun n32 =>
 gtI c28 1 fun n33 =>
 Option.bind p0 fun q34 =>
 (r27.2.st q34.1 (q34.2 + 5) [(.i .i64 n30), (.i .i64 n31), (.i .i64 n32)]).bind fun h35 =>
 Option.bind p0 fun q36 =>
 (h35.st q36.1 (q36.2 + 2) [(.i .i64 0), (.i .i64 0), (.i .i64 0)]).bind fun h37 =>
 Option.bind p0 fun q38 =>
 (h37.st q38.1 (q38.2 + 9) [(.i .i64 0)]).bind fun h39 =>
 some ((.tup []), h39)
 else none
def large_Large__Begin : Sm O := large_Large__Begin_c large_Large__table chain_Table__Join
theorem large_Large__Begin_ent : Entered Try.prog 28 := Try.call28
theorem large_Large__Begin_run (k84 k85 : Sm O) : run (O := O) Try.prog [(84, k84), (85, k85)] Try.f28 (.n .z (.n (.d [] [0, 1, 3, 4, 5, 6, 7, 8, 9, 10, 2, 11, 12, 13, 14, 15, 16, 17] [0, 0, 2, 0, 8, 24, 56, 0, 128, 384, 896, 2046, 4094, 8190, 8190, 16383, 49151, 114687]) .z)) = large_Large__Begin_c k84 k85 := by kernel_rfl
theorem large_Large__Begin_sound : FSound RO Try.prog 28 large_Large__Begin := sdf (large_Large__Begin_run _ _) (gcons large_Large__table_ent large_Large__table_sound <| gcons chain_Table__Join_ent chain_Table__Join_sound <| gnil) Try.func28 (by kernel_rfl)
def pool_Pool__Get_c (k125 k123 k92 : Sm O) : Sm O := fun xs h =>
 bif Nat.beq xs.length 3 then
 (AV.asP (xs.getD 0 .u)).bind fun p0 =>
 gtI xs 1 fun n1 =>
 gtI xs 2 fun n2 =>
 (k125 [(.p p0), (.i .i64 n1), (.i .i64 n2)] h).bind fun r3 =>
 (AV.asI .i64 r3.1).bind fun n4 =>
 (bif ((n4 : Int) != 0) then
 some ((.tup [(.i .u64 0), (.i .i64 n4)]), r3.2)
 else Option.bind p0 fun q5 =>
 ldP r3.2 q5.1 q5.2 fun p7 =>
 Option.bind p0 fun q8 =>
 ldI r3.2 q8.1 (q8.2 + 1) fun n10 =>
 (k123 [(.p p0), (.i .i64 n1), (.i .i64 n2)] r3.2).bind fun r11 =>
 (AV.asI .i64 r11.1).bind fun n12 =>
 (chkE (r11.2.ld q5.1 q5.2) (some (.p p7))).bind fun _ =>
 (chkE (r11.2.ld q8.1 (q8.2 + 1)) (some (.i .i64 n10))).bind fun _ =>
 (k92 [(.p p7), (.i .i64 n10), (.i .i64 n12)] r11.2).bind fun r13 =>
 (AV.asTup 2 r13.1).bind fun c14 =>
 gtU c14 0 fun n15 =>
 gtI c14 1 fun n16 =>
 some ((.tup [(.i .u64 n15), (.i .i64 n16)]), r13.2))
 else none
def pool_Pool__Get : Sm O := pool_Pool__Get_c pool_Pool__check pool_Pool__at mem_Mem__Read
theorem pool_Pool__Get_ent : Entered Try.prog 79 := Try.call79
theorem pool_Pool__Get_run (k125 k123 k92 : Sm O) : run (O := O) Try.prog [(125, k125), (123, k123), (92, k92)] Try.f79 (.n .z (.n (.n .z (.n .z (.n .z .z))) (.n (.d [] [0, 1, 2, 3, 4, 5, 6, 7, 8, 9, 10, 11, 12, 13, 14, 15, 16] [0, 1, 3, 7, 0, 16, 48, 112, 0, 0, 0, 1792, 4095, 8191, 8191, 32767, 65535]) .z))) = pool_Pool__Get_c k125 k123 k92 := by kernel_rfl
theorem pool_Pool__Get_sound : FSound RO Try.prog 79 pool_Pool__Get := sdf (pool_Pool__Get_run _ _ _) (gcons pool_Pool__check_ent pool_Pool__check_sound <| gcons pool_Pool__at_ent pool_Pool__at_sound <| gcons mem_Mem__Read_ent mem_Mem__Read_sound <| gnil) Try.func79 (by kernel_rfl)
def large_Large__Marked_c (k79 : Sm O) : Sm O := fun xs h =>
 bif Nat.beq xs.length 2 then
 (AV.asP (xs.getD 0 .u)).bind fun p0 =>
 gtI xs 1 fun n1 =>
 Option.bind p0 fun q2 =>
 ldP h q2.1 (q2.2 + 1) fun p4 =>
 (k79 [(.p p4), (.i .i64 n1), (.i .i64 4)] h).bind fun r5 =>
 (AV.asTup 2 r5.1).bind fun c6 =>
 gtU c6 0 fun n7 =>
 gtI c6 1 fun n8 =>
 ((bif (((n8 : Int) == 0) == true) then
 Option.bind p0 fun q9 =>
 ldU r5.2 q9.1 (q9.2 + 8) fun n11 =>
 some ([(.b ((n7 : Int) == n11))], r5.2)
 else some ([(.b false)], r5.2)) : Option (List AV × AH O)).bind fun r12 =>
 (AV.asB (r12.1.getD 0 .u)).bind fun b13 =>
 some ((.tup [(.b b13), (.i .i64 n8)]), r12.2)
 else none
def large_Large__Marked : Sm O := large_Large__Marked_c pool_Pool__Get
theorem large_Large__Marked_ent : Entered Try.prog 86 := Try.call86
theorem large_Large__Marked_run (k79 : Sm O) : run (O := O) Try.prog [(79, k79)] Try.f86 (.n .z (.n .z (.n (.g [(2, 6, [(26, .one .b)])]) .z))) = large_Large__Marked_c k79 := by kernel_rfl
theorem large_Large__Marked_sound : FSound RO Try.prog 86 large_Large__Marked := sdf (large_Large__Marked_run _) (gcons pool_Pool__Get_ent pool_Pool__Get_sound <| gnil) Try.func86 (by kernel_rfl)
def chain_Table__get_c (k157 k92 : Sm O) : Sm O := fun xs h =>
 bif Nat.beq xs.length 3 then
 (AV.asAgg 5 (xs.getD 0 .u)).bind fun c0 =>
 (AV.asP (c0.getD 0 .u)).bind fun p1 =>
 gtI c0 1 fun n2 =>
 gtI c0 2 fun n3 =>
 gtI c0 3 fun n4 =>
 gtI c0 4 fun n5 =>
 gtI xs 1 fun n6 =>
 gtI xs 2 fun n7 =>
 let h8 := h.bump 1
 let h9 := h8.put h.next (.cells true 136 [(.p p1), (.i .i64 n2), (.i .i64 n3), (.i .i64 n4), (.i .i64 n5)])
 ldP h9 (.n h.next) 0 fun p11 =>
 ldI h9 (.n h.next) 1 fun n13 =>
 ldP h9 (.n h.next) 0 fun p15 =>
 ldI h9 (.n h.next) 1 fun n17 =>
 ldI h9 (.n h.next) 2 fun n19 =>
 ldI h9 (.n h.next) 3 fun n21 =>
 ldI h9 (.n h.next) 4 fun n23 =>
 (k157 [(.agg [(.p p15), (.i .i64 n17), (.i .i64 n19), (.i .i64 n21), (.i .i64 n23)]), (.i .i64 n6), (.i .i64 n7)] h9).bind fun r24 =>
 (AV.asI .i64 r24.1).bind fun n25 =>
 (chkE (r24.2.ld (.n h.next) 0) (some (.p p11))).bind fun _ =>
 (chkE (r24.2.ld (.n h.next) 1) (some (.i .i64 n13))).bind fun _ =>
 (k92 [(.p p11), (.i .i64 n13), (.i .i64 n25)] r24.2).bind fun r26 =>
 (AV.asTup 2 r26.1).bind fun c27 =>
 gtU c27 0 fun n28 =>
 gtI c27 1 fun n29 =>
 some ((.i .i64 (IntKind.i64.wrap n28)), r26.2)
 else none
def chain_Table__get : Sm O := chain_Table__get_c chain_Table__at mem_Mem__Read
theorem chain_Table__get_ent : Entered Try.prog 141 := Try.call141
theorem chain_Table__get_run (k157 k92 : Sm O) : run (O := O) Try.prog [(157, k157), (92, k92)] Try.f141 (.n .z (.n (.d [] [0, 1, 2, 3, 4, 5, 6, 7, 8, 9, 10, 11, 12, 13] [0, 1, 0, 4, 0, 0, 0, 112, 255, 511, 1023, 1023, 2047, 8191]) .z)) = chain_Table__get_c k157 k92 := by kernel_rfl
theorem chain_Table__get_sound : FSound RO Try.prog 141 chain_Table__get := sdf (chain_Table__get_run _ _) (gcons chain_Table__at_ent chain_Table__at_sound <| gcons mem_Mem__Read_ent mem_Mem__Read_sound <| gnil) Try.func141 (by kernel_rfl)
def chain_Table__Drop_c (k127 k141 k128 : Sm O) : Sm O := fun xs h =>
 bif Nat.beq xs.length 3 then
 (AV.asAgg 5 (xs.getD 0 .u)).bind fun c0 =>
 (AV.asP (c0.getD 0 .u)).bind fun p1 =>
 gtI c0 1 fun n2 =>
 gtI c0 2 fun n3 =>
 gtI c0 3 fun n4 =>
 gtI c0 4 fun n5 =>
 (AV.asAgg 3 (xs.getD 1 .u)).bind fun c6 =>
 gtI c6 0 fun n7 =>
 gtI c6 1 fun n8 =>
 gtI c6 2 fun n9 =>
 gtI xs 2 fun n10 =>
 let h11 := h.bump 3
 let h12 := h11.put h.next (.cells true 136 [(.p p1), (.i .i64 n2), (.i .i64 n3), (.i .i64 n4), (.i .i64 n5)])
 let h13 := h12.put (h.next + 1) (.cells true 130 [(.i .i64 n7), (.i .i64 n8), (.i .i64 n9)])
 let h14 := h13.put ((h.next + 1) + 1) (.cells true 130 [(.i .i64 0), (.i .i64 0), (.i .i64 0)])
 ldP h14 (.n h.next) 0 fun p16 =>
 ldI h14 (.n h.next) 1 fun n18 =>
 ldI h14 (.n h.next) 2 fun n20 =>
 ldI h14 (.n h.next) 3 fun n22 =>
 ldI h14 (.n h.next) 4 fun n24 =>
 (k127 [(.agg [(.p p16), (.i .i64 n18), (.i .i64 n20), (.i .i64 n22), (.i .i64 n24)]), (.i .i64 n10)] h14).bind fun r25 =>
 (AV.asI .i64 r25.1).bind fun n26 =>
 (bif ((n26 : Int) != 0) then
 ldI r25.2 (.n (h.next + 1)) 0 fun n28 =>
 ldI r25.2 (.n (h.next + 1)) 1 fun n30 =>
 ldI r25.2 (.n (h.next + 1)) 2 fun n32 =>
 (r25.2.st (.n ((h.next + 1) + 1)) 0 [(.i .i64 n28), (.i .i64 n30), (.i .i64 n32)]).bind fun h33 =>
 ldI h33 (.n ((h.next + 1) + 1)) 0 fun n35 =>
 ldI h33 (.n ((h.next + 1) + 1)) 1 fun n37 =>
 ldI h33 (.n ((h.next + 1) + 1)) 2 fun n39 =>
 some ((.tup [(.agg [(.i .i64 n35), (.i .i64 n37), (.i .i64 n39)]), (.i .i64 n26)]), h33)
 else ldP r25.2 (.n h.next) 0 fun p41 =>
 ldI r25.2 (.n h.next) 1 fun n43 =>
 ldI r25.2 (.n h.next) 2 fun n45 =>
 ldI r25.2 (.n h.next) 3 fun n47 =>
 ldI r25.2 (.n h.next) 4 fun n49 =>
 ldI r25.2 (.n h.next) 3 fun n51 =>
 ldP r25.2 (.n h.next) 0 fun p53 =>
 ldI r25.2 (.n h.next) 1 fun n55 =>
 ldI r25.2 (.n h.next) 2 fun n57 =>
 ldI r25.2 (.n h.next) 3 fun n59 =>
 ldI r25.2 (.n h.next) 4 fun n61 =>
 ldI r25.2 (.n h.next) 4 fun n63 =>
 (k141 [(.agg [(.p p41), (.i .i64 n43), (.i .i64 n45), (.i .i64 n47), (.i .i64 n49)]), (.i .i64 n10), (.i .i64 n51)] r25.2).bind fun r64 =>
 (AV.asI .i64 r64.1).bind fun n65 =>
 (chkE (r64.2.ld (.n h.next) 0) (some (.p p53))).bind fun _ =>
 (chkE (r64.2.ld (.n h.next) 1) (some (.i .i64 n55))).bind fun _ =>
 (chkE (r64.2.ld (.n h.next) 2) (some (.i .i64 n57))).bind fun _ =>
 (chkE (r64.2.ld (.n h.next) 3) (some (.i .i64 n59))).bind fun _ =>
 (chkE (r64.2.ld (.n h.next) 4) (some (.i .i64 n61))).bind fun _ =>
 (chkE (r64.2.ld (.n h.next) 4) (some (.i .i64 n63))).bind fun _ =>
 (k141 [(.agg [(.p p53), (.i .i64 n55), (.i .i64 n57), (.i .i64 n59), (.i .i64 n61)]), (.i .i64 n10), (.i .i64 n63)] r64.2).bind fun r66 =>
 (AV.asI .i64 r66.1).bind fun n67 =>
 ((bif ((n67 : Int) != 0) then
 ldP r66.2 (.n h.next) 0 fun p69 =>
 ldI r66.2 (.n h.next) 1 fun n71 =>
 ldI r66.2 (.n h.next) 2 fun n73 =>
 ldI r66.2 (.n h.next) 3 fun n75 =>
 ldI r66.2 (.n h.next) 4 fun n77 =>
 ldI r66.2 (.n h.next) 3 fun n79 =>
 (k128 [(.agg [(.p p69), (.i .i64 n71), (.i .i64 n73), (.i .i64 n75), (.i .i64 n77)]), (.i .i64 n67), (.i .i64 n79), (.i .i64 n65)] r66.2).bind fun r80 =>
 (AV.asTup 0 r80.1).bind fun c81 =>
 some ([], r80.2)
 else (r66.2.st (.n (h.next + 1)) 0 [(.i .i64 n65)]).bind fun h82 =>
 some ([], h82)) : Option (List AV × AH O)).bind fun r83 =>
 ((bif ((n65 : Int) != 0) then
 ldP r83.2 (.n h.next) 0 fun p85 =>
 ldI r83.2 (.n h.next) 1 fun n87 =>
 ldI r83.2 (.n h.next) 2 fun n89 =>
 ldI r83.2 (.n h.next) 3 fun n91 =>
 ldI r83.2 (.n h.next) 4 fun n93 =>
 ldI r83.2 (.n h.next) 4 fun n95 =>
 (k128 [(.agg [(.p p85), (.i .i64 n87), (.i .i64 n89), (.i .i64 n91), (.i .i64 n93)]), (.i .i64 n65), (.i .i64 n95), (.i .i64 n67)] r83.2).bind fun r96 =>
 (AV.asTup 0 r96.1).bind fun c97 =>
 some ([], r96.2)
 else (r83.2.st (.n (h.next + 1)) 1 [(.i .i64 n67)]).bind fun h98 =>
 some ([], h98)) : Option (List AV × AH O)).bind fun r99 =>
 ldI r99.2 (.n (h.next + 1)) 2 fun n101 =>
 (r99.2.st (.n (h.next + 1)) 2 [(.i .i64 (IntKind.i64.wrap (n101 - 1)))]).bind fun h102 =>
 ldI h102 (.n (h.next + 1)) 0 fun n104 =>
 ldI h102 (.n (h.next + 1)) 1 fun n106 =>
 ldI h102 (.n (h.next + 1)) 2 fun n108 =>
 (h102.st (.n ((h.next + 1) + 1)) 0 [(.i .i64 n104), (.i .i64 n106), (.i .i64 n108)]).bind fun h109 =>
 ldI h109 (.n ((h.next + 1) + 1)) 0 fun n111 =>
 ldI h109 (.n ((h.next + 1) + 1)) 1 fun n113 =>
 ldI h109 (.n ((h.next + 1) + 1)) 2 fun n115 =>
 some ((.tup [(.agg [(.i .i64 n111), (.i .i64 n113), (.i .i64 n115)]), (.i .i64 0)]), h109))
 else none
def chain_Table__Drop : Sm O := chain_Table__Drop_c chain_Table__check chain_Table__get chain_Table__set
theorem chain_Table__Drop_ent : Entered Try.prog 87 := Try.call87
theorem chain_Table__Drop_run (k127 k141 k128 : Sm O) : run (O := O) Try.prog [(127, k127), (141, k141), (128, k128)] Try.f87 (.n .z (.n (.n .z (.n .z (.n .z .z))) (.n (.d [] [0, 1, 2, 3, 5, 6, 7, 8, 4, 9, 10, 11] [0, 0, 0, 4, 15, 0, 0, 0, 128, 511, 1023, 2047]) (.n (.n .z (.j false [] .z .z)) (.n (.n .z (.j false [] .z .z)) (.n .z .z)))))) = chain_Table__Drop_c k127 k141 k128 := by kernel_rfl
theorem chain_Table__Drop_sound : FSound RO Try.prog 87 chain_Table__Drop := sdf (chain_Table__Drop_run _ _ _) (gcons chain_Table__check_ent chain_Table__check_sound <| gcons chain_Table__get_ent chain_Table__get_sound <| gcons chain_Table__set_ent chain_Table__set_sound <| gnil) Try.func87 (by kernel_rfl)
def large_Large__Mark_c (k86 k84 k87 k63 k61 : Sm O) : Sm O := fun xs h =>
 bif Nat.beq xs.length 2 then
 (AV.asP (xs.getD 0 .u)).bind fun p0 =>
 gtI xs 1 fun n1 =>
 (k86 [(.p p0), (.i .i64 n1)] h).bind fun r2 =>
 (AV.asTup 2 r2.1).bind fun c3 =>
 (AV.asB (c3.getD 0 .u)).bind fun b4 =>
 gtI c3 1 fun n5 =>
 ((bif (b4 == false) then
 some ([(.b ((n5 : Int) != 0))], r2.2)
 else some ([(.b true)], r2.2)) : Option (List AV × AH O)).bind fun r6 =>
 (AV.asB (r6.1.getD 0 .u)).bind fun b7 =>
 (bif b7 then
 some ((.tup [(.b false), (.i .i64 n5)]), r6.2)
 else Option.bind p0 fun q8 =>
 ldI r6.2 q8.1 (q8.2 + 5) fun n10 =>
 ldI r6.2 q8.1 ((q8.2 + 5) + 1) fun n12 =>
 ldI r6.2 q8.1 (((q8.2 + 5) + 1) + 1) fun n14 =>
 (k84 [(.p p0)] r6.2).bind fun r15 =>
 (AV.asAgg 5 r15.1).bind fun c16 =>
 (AV.asP (c16.getD 0 .u)).bind fun p17 =>
 gtI c16 1 fun n18 =>
 gtI c16 2 fun n19 =>
 gtI c16 3 fun n20 =>
 gtI c16 4 fun n21 =>
 (chkE (r15.2.ld q8.1 (q8.2 + 5)) (some (.i .i64 n10))).bind fun _ =>
 (chkE (r15.2.ld q8.1 ((q8.2 + 5) + 1)) (some (.i .i64 n12))).bind fun _ =>
 (chkE (r15.2.ld q8.1 (((q8.2 + 5) + 1) + 1)) (some (.i .i64 n14))).bind fun _ =>
 (k87 [(.agg [(.p p17), (.i .i64 n18), (.i .i64 n19), (.i .i64 n20), (.i .i64 n21)]), (.agg [(.i .i64 n10), (.i .i64 n12), (.i .i64 n14)]), (.i .i64 n1)] r15.2).bind fun r22 =>
 (AV.asTup 2 r22.1).bind fun c23 =>
 (AV.asAgg 3 (c23.getD 0 .u)).bind fun c24 =>
 gtI c24 0 fun n25 =>
 gtI c24 1 fun n26 =>
 gtI c24 2 fun n27 =>
 gtI c23 1 fun n28 =>
 Option.bind p0 fun q29 =>
 (r22.2.st q29.1 (q29.2 + 5) [(.i .i64 n25), (.i .i64 n26), (.i .i64 n27)]).bind fun h30 =>
 Option.bind p0 fun q31 =>
 ldI h30 q31.1 (q31.2 + 2) fun n33 =>
 ldI h30 q31.1 ((q31.2 + 2) + 1) fun n35 =>
 ldI h30 q31.1 (((q31.2 + 2) + 1) + 1) fun n37 =>
 (k84 [(.p p0)] h30).bind fun r38 =>
 (AV.asAgg 5 r38.1).bind fun c39 =>
 (AV.asP (c39.getD 0 .u)).bind fun p40 =>
 gtI c39 1 fun n41 =>
 gtI c39 2 fun n42 =>
 gtI c39 3 fun n43 =>
 gtI c39 4 fun n44 =>
 (chkE (r38.2.ld q31.1 (q31.2 + 2)) (some (.i .i64 n33))).bind fun _ =>
 (chkE (r38.2.ld q31.1 ((q31.2 + 2) + 1)) (some (.i .i64 n35))).bind fun _ =>
 (chkE (r38.2.ld q31.1 (((q31.2 + 2) + 1) + 1)) (some (.i .i64 n37))).bind fun _ =>
 (k63 [(.agg [(.p p40), (.i .i64 n41), (.i .i64 n42), (.i .i64 n43), (.i .i64 n44)]), (.agg [(.i .i64 n33), (.i .i64 n35), (.i .i64 n37)]), (.i .i64 n1)] r38.2).bind fun r45 =>
 (AV.asTup 2 r45.1).bind fun c46 =>
 (AV.asAgg 3 (c46.getD 0 .u)).bind fun c47 =>
 gtI c47 0 fun n48 =>
 gtI c47 1 fun n49 =>
 gtI c47 2 fun n50 =>
 gtI c46 1 fun n51 =>
 Option.bind p0 fun q52 =>
 (r45.2.st q52.1 (q52.2 + 2) [(.i .i64 n48), (.i .i64 n49), (.i .i64 n50)]).bind fun h53 =>
 Option.bind p0 fun q54 =>
 ldP h53 q54.1 (q54.2 + 1) fun p56 =>
 Option.bind p0 fun q57 =>
 ldU h53 q57.1 (q57.2 + 8) fun n59 =>
 (k61 [(.p p56), (.i .i64 n1), (.i .i64 4), (.i .u64 n59)] h53).bind fun r60 =>
 (AV.asI .i64 r60.1).bind fun n61 =>
 some ((.tup [(.b true), (.i .i64 n61)]), r60.2))
 else none
def large_Large__Mark : Sm O := large_Large__Mark_c large_Large__Marked large_Large__table chain_Table__Drop chain_Table__Push pool_Pool__Set
theorem large_Large__Mark_ent : Entered Try.prog 29 := Try.call29
theorem large_Large__Mark_run (k86 k84 k87 k63 k61 : Sm O) : run (O := O) Try.prog [(86, k86), (84, k84), (87, k87), (63, k63), (61, k61)] Try.f29 (.n .z (.n .z (.n (.n (.g [(1, 2, [(18, .one .b)])]) (.n .z .z)) (.n (.d [] [0, 1, 3, 4, 5, 6, 7, 2, 8, 9, 10, 11, 12, 13, 14] [0, 0, 2, 0, 8, 24, 56, 0, 254, 510, 1022, 1022, 2047, 6143, 14335]) (.n (.d [] [0, 1, 3, 4, 5, 6, 7, 2, 8, 9, 10, 11, 12, 13, 14] [0, 0, 2, 0, 8, 24, 56, 0, 254, 510, 1022, 1022, 2047, 6143, 14335]) (.n (.d [] [0, 1, 2, 3, 4, 5, 6, 7, 8, 9, 10, 11] [0, 1, 3, 7, 0, 0, 32, 96, 224, 511, 1023, 2047]) .z)))))) = large_Large__Mark_c k86 k84 k87 k63 k61 := by kernel_rfl
theorem large_Large__Mark_sound : FSound RO Try.prog 29 large_Large__Mark := sdf (large_Large__Mark_run _ _ _ _ _) (gcons large_Large__Marked_ent large_Large__Marked_sound <| gcons large_Large__table_ent large_Large__table_sound <| gcons chain_Table__Drop_ent chain_Table__Drop_sound <| gcons chain_Table__Push_ent chain_Table__Push_sound <| gcons pool_Pool__Set_ent pool_Pool__Set_sound <| gnil) Try.func29 (by kernel_rfl)
def chain_Table__After_c (k127 k141 : Sm O) : Sm O := fun xs h =>
 bif Nat.beq xs.length 2 then
 (AV.asAgg 5 (xs.getD 0 .u)).bind fun c0 =>
 (AV.asP (c0.getD 0 .u)).bind fun p1 =>
 gtI c0 1 fun n2 =>
 gtI c0 2 fun n3 =>
 gtI c0 3 fun n4 =>
 gtI c0 4 fun n5 =>
 gtI xs 1 fun n6 =>
 let h7 := h.bump 1
 let h8 := h7.put h.next (.cells true 136 [(.p p1), (.i .i64 n2), (.i .i64 n3), (.i .i64 n4), (.i .i64 n5)])
 ldP h8 (.n h.next) 0 fun p10 =>
 ldI h8 (.n h.next) 1 fun n12 =>
 ldI h8 (.n h.next) 2 fun n14 =>
 ldI h8 (.n h.next) 3 fun n16 =>
 ldI h8 (.n h.next) 4 fun n18 =>
 (k127 [(.agg [(.p p10), (.i .i64 n12), (.i .i64 n14), (.i .i64 n16), (.i .i64 n18)]), (.i .i64 n6)] h8).bind fun r19 =>
 (AV.asI .i64 r19.1).bind fun n20 =>
 (bif ((n20 : Int) != 0) then
 some ((.tup [(.i .i64 0), (.i .i64 n20)]), r19.2)
 else ldP r19.2 (.n h.next) 0 fun p22 =>
 ldI r19.2 (.n h.next) 1 fun n24 =>
 ldI r19.2 (.n h.next) 2 fun n26 =>
 ldI r19.2 (.n h.next) 3 fun n28 =>
 ldI r19.2 (.n h.next) 4 fun n30 =>
 ldI r19.2 (.n h.next) 3 fun n32 =>
 (k141 [(.agg [(.p p22), (.i .i64 n24), (.i .i64 n26), (.i .i64 n28), (.i .i64 n30)]), (.i .i64 n6), (.i .i64 n32)] r19.2).bind fun r33 =>
 (AV.asI .i64 r33.1).bind fun n34 =>
 some ((.tup [(.i .i64 n34), (.i .i64 0)]), r33.2))
 else none
def chain_Table__After : Sm O := chain_Table__After_c chain_Table__check chain_Table__get
theorem chain_Table__After_ent : Entered Try.prog 88 := Try.call88
theorem chain_Table__After_run (k127 k141 : Sm O) : run (O := O) Try.prog [(127, k127), (141, k141)] Try.f88 (.n .z (.n (.n .z (.n .z (.n .z .z))) .z)) = chain_Table__After_c k127 k141 := by kernel_rfl
theorem chain_Table__After_sound : FSound RO Try.prog 88 chain_Table__After := sdf (chain_Table__After_run _ _) (gcons chain_Table__check_ent chain_Table__check_sound <| gcons chain_Table__get_ent chain_Table__get_sound <| gnil) Try.func88 (by kernel_rfl)
def pool_Pool__Give_c (k129 k123 k89 : Sm O) : Sm O := fun xs h =>
 bif Nat.beq xs.length 2 then
 (AV.asP (xs.getD 0 .u)).bind fun p0 =>
 gtI xs 1 fun n1 =>
 (k129 [(.p p0), (.i .i64 n1)] h).bind fun r2 =>
 (AV.asTup 2 r2.1).bind fun c3 =>
 gtU c3 0 fun n4 =>
 (AV.asB (c3.getD 1 .u)).bind fun b5 =>
 ((bif ((!b5) == false) then
 some ([(.b (((ibits .and .u64 n4 1) : Int) == 0))], r2.2)
 else some ([(.b true)], r2.2)) : Option (List AV × AH O)).bind fun r6 =>
 (AV.asB (r6.1.getD 0 .u)).bind fun b7 =>
 (bif b7 then
 some ((.i .i64 4), r6.2)
 else Option.bind p0 fun q8 =>
 ldP r6.2 q8.1 q8.2 fun p10 =>
 Option.bind p0 fun q11 =>
 ldI r6.2 q11.1 (q11.2 + 1) fun n13 =>
 let v14 : Int := (IntKind.u64.wrap ((IntKind.u64.wrap ((Int.fdiv n4 (2 ^ 1)) + 1)) * 2 ^ 1))
 (k123 [(.p p0), (.i .i64 n1), (.i .i64 (-1))] r6.2).bind fun r15 =>
 (AV.asI .i64 r15.1).bind fun n16 =>
 (chkE (r15.2.ld q8.1 q8.2) (some (.p p10))).bind fun _ =>
 (chkE (r15.2.ld q11.1 (q11.2 + 1)) (some (.i .i64 n13))).bind fun _ =>
 (k89 [(.p p10), (.i .i64 n13), (.i .i64 n16), (.i .u64 v14)] r15.2).bind fun r17 =>
 (AV.asI .i64 r17.1).bind fun n18 =>
 Option.bind p0 fun q19 =>
 ldP r17.2 q19.1 q19.2 fun p21 =>
 Option.bind p0 fun q22 =>
 ldI r17.2 q22.1 (q22.2 + 1) fun n24 =>
 Option.bind p0 fun q25 =>
 ldI r17.2 q25.1 (q25.2 + 5) fun n27 =>
 (k123 [(.p p0), (.i .i64 n1), (.i .i64 0)] r17.2).bind fun r28 =>
 (AV.asI .i64 r28.1).bind fun n29 =>
 (chkE (r28.2.ld q19.1 q19.2) (some (.p p21))).bind fun _ =>
 (chkE (r28.2.ld q22.1 (q22.2 + 1)) (some (.i .i64 n24))).bind fun _ =>
 (chkE (r28.2.ld q25.1 (q25.2 + 5)) (some (.i .i64 n27))).bind fun _ =>
 (k89 [(.p p21), (.i .i64 n24), (.i .i64 n29), (.i .u64 (IntKind.u64.wrap n27))] r28.2).bind fun r30 =>
 (AV.asI .i64 r30.1).bind fun n31 =>
 Option.bind p0 fun q32 =>
 (r30.2.st q32.1 (q32.2 + 5) [(.i .i64 n1)]).bind fun h33 =>
 Option.bind p0 fun q34 =>
 ldI h33 q34.1 (q34.2 + 6) fun n36 =>
 Option.bind p0 fun q37 =>
 (h33.st q37.1 (q37.2 + 6) [(.i .i64 (IntKind.i64.wrap (n36 - 1)))]).bind fun h38 =>
 some ((.i .i64 0), h38))
 else none
def pool_Pool__Give : Sm O := pool_Pool__Give_c pool_Pool__look pool_Pool__at mem_Mem__Write
theorem pool_Pool__Give_ent : Entered Try.prog 90 := Try.call90
theorem pool_Pool__Give_run (k129 k123 k89 : Sm O) : run (O := O) Try.prog [(129, k129), (123, k123), (89, k89)] Try.f90 (.n .z (.n .z (.n (.n (.g [(2, 3, [(19, .one .b)])]) (.n .z .z)) (.n (.d [] [0, 1, 2, 3, 4, 5, 6, 7, 8, 9, 11, 12, 13, 14, 10, 15] [0, 1, 3, 7, 0, 16, 48, 112, 0, 0, 768, 0, 2048, 6144, 14336, 32767]) (.n (.d [] [0, 1, 2, 3, 4, 5, 6, 7, 8, 9, 11, 12, 13, 14, 15, 10, 16] [0, 1, 3, 7, 0, 16, 48, 112, 0, 0, 768, 0, 2048, 6144, 14336, 30720, 65535]) (.n .z (.n .z .z))))))) = pool_Pool__Give_c k129 k123 k89 := by kernel_rfl
theorem pool_Pool__Give_sound : FSound RO Try.prog 90 pool_Pool__Give := sdf (pool_Pool__Give_run _ _ _) (gcons pool_Pool__look_ent pool_Pool__look_sound <| gcons pool_Pool__at_ent pool_Pool__at_sound <| gcons mem_Mem__Write_ent mem_Mem__Write_sound <| gnil) Try.func90 (by kernel_rfl)
def large_Large__Sweep_L1 (n6 : Int) (k84 : Sm O) (p0 : Option (Bid × Nat)) (k88 : Sm O) (k79 : Sm O) (k83 : Sm O) (k90 : Sm O) : List AV × AH O -> Option ((List AV × AH O) ⊕ (List AV × AH O)) := (fun r7 =>
 (AV.asI .i64 (r7.1.getD 0 .u)).bind fun n8 =>
 (AV.asI .i64 (r7.1.getD 1 .u)).bind fun n9 =>
 (AV.asI .i64 (r7.1.getD 2 .u)).bind fun n10 =>
 (AV.asI .i64 (r7.1.getD 3 .u)).bind fun n11 =>
 (bif (decide (n11 < n6)) then
 (k84 [(.p p0)] r7.2).bind fun r12 =>
 (AV.asAgg 5 r12.1).bind fun c13 =>
 (AV.asP (c13.getD 0 .u)).bind fun p14 =>
 gtI c13 1 fun n15 =>
 gtI c13 2 fun n16 =>
 gtI c13 3 fun n17 =>
 gtI c13 4 fun n18 =>
 (k88 [(.agg [(.p p14), (.i .i64 n15), (.i .i64 n16), (.i .i64 n17), (.i .i64 n18)]), (.i .i64 n10)] r12.2).bind fun r19 =>
 (AV.asTup 2 r19.1).bind fun c20 =>
 gtI c20 0 fun n21 =>
 gtI c20 1 fun n22 =>
 Option.bind p0 fun q23 =>
 ldP r19.2 q23.1 (q23.2 + 1) fun p25 =>
 (k79 [(.p p25), (.i .i64 n10), (.i .i64 0)] r19.2).bind fun r26 =>
 (AV.asTup 2 r26.1).bind fun c27 =>
 gtU c27 0 fun n28 =>
 gtI c27 1 fun n29 =>
 Option.bind p0 fun q30 =>
 ldP r26.2 q30.1 (q30.2 + 1) fun p32 =>
 (k79 [(.p p32), (.i .i64 n10), (.i .i64 1)] r26.2).bind fun r33 =>
 (AV.asTup 2 r33.1).bind fun c34 =>
 gtU c34 0 fun n35 =>
 gtI c34 1 fun n36 =>
 Option.bind p0 fun q37 =>
 ldP r33.2 q37.1 q37.2 fun p39 =>
 (k83 [(.p p39), (.i .i64 (IntKind.i64.wrap n28))] r33.2).bind fun r40 =>
 (AV.asI .i64 r40.1).bind fun n41 =>
 Option.bind p0 fun q42 =>
 ldP r40.2 q42.1 (q42.2 + 1) fun p44 =>
 (k90 [(.p p44), (.i .i64 n10)] r40.2).bind fun r45 =>
 (AV.asI .i64 r45.1).bind fun n46 =>
 some (Sum.inl ([(.i .i64 (IntKind.i64.wrap (n8 + 1))), (.i .i64 (IntKind.i64.wrap (n9 + (IntKind.i64.wrap n35)))), (.i .i64 n21), (.i .i64 (IntKind.i64.wrap (n11 + 1)))], r45.2))
 else some (Sum.inr ([(.i .i64 n8), (.i .i64 n9)], r7.2))))
def large_Large__Sweep_c (k84 k88 k79 k83 k90 : Sm O) : Sm O := fun xs h =>
 bif Nat.beq xs.length 1 then
 (AV.asP (xs.getD 0 .u)).bind fun p0 =>
 Option.bind p0 fun q1 =>
 ldI h q1.1 (q1.2 + 5) fun n3 =>
 Option.bind p0 fun q4 =>
 ldI h q4.1 ((q4.2 + 5) + 2) fun n6 =>
 (loopF (S := List AV × AH O) (T := List AV × AH O) (large_Large__Sweep_L1 n6 k84 p0 k88 k79 k83 k90) ([(.i .i64 0), (.i .i64 0), (.i .i64 n3), (.i .i64 0)], h)).bind fun r47 =>
 (AV.asI .i64 (r47.1.getD 0 .u)).bind fun n48 =>
 (AV.asI .i64 (r47.1.getD 1 .u)).bind fun n49 =>
 Option.bind p0 fun q50 =>
 (r47.2.st q50.1 (q50.2 + 5) [(.i .i64 0), (.i .i64 0), (.i .i64 0)]).bind fun h51 =>
 Option.bind p0 fun q52 =>
 ldI h51 q52.1 (q52.2 + 10) fun n54 =>
 Option.bind p0 fun q55 =>
 (h51.st q55.1 (q55.2 + 10) [(.i .i64 (IntKind.i64.wrap (n54 - n49)))]).bind fun h56 =>
 some ((.tup [(.i .i64 n48), (.i .i64 n49)]), h56)
 else none
def large_Large__Sweep : Sm O := large_Large__Sweep_c large_Large__table chain_Table__After pool_Pool__Get mem_Mem__Close pool_Pool__Give
theorem large_Large__Sweep_ent : Entered Try.prog 34 := Try.call34
theorem large_Large__Sweep_run (k84 k88 k79 k83 k90 : Sm O) : run (O := O) Try.prog [(84, k84), (88, k88), (79, k79), (83, k83), (90, k90)] Try.f34 (.n .z (.n .z (.n (.n .z (.n (.lp false 0 [(2, .one (.i .i64)), (3, .one (.i .i64)), (4, .one (.i .i64)), (21, .one (.i .i64))] [(2, .one (.i .i64)), (3, .one (.i .i64))] (.n .z (.n .z (.n (.n (.n .z (.n .z (.n .z (.n .z (.n .z .z))))) .z) .z)))) .z)) (.n .z (.n .z .z))))) = large_Large__Sweep_c k84 k88 k79 k83 k90 := by kernel_rfl
theorem large_Large__Sweep_sound : FSound RO Try.prog 34 large_Large__Sweep := sdf (large_Large__Sweep_run _ _ _ _ _) (gcons large_Large__table_ent large_Large__table_sound <| gcons chain_Table__After_ent chain_Table__After_sound <| gcons pool_Pool__Get_ent pool_Pool__Get_sound <| gcons mem_Mem__Close_ent mem_Mem__Close_sound <| gcons pool_Pool__Give_ent pool_Pool__Give_sound <| gnil) Try.func34 (by kernel_rfl)
def chain_Table__All_1_L1 (n6 : Int) (k88 : Sm O) (ky0 : Sm O) (f0 : Option (Fn × List AV × List AV)) (xs : List AV) : List AV × AH O -> Option ((List AV × AH O) ⊕ ((List AV × AH O) ⊕ (AV × AH O))) := (fun r7 =>
 (AV.asI .i64 (r7.1.getD 0 .u)).bind fun n8 =>
 (AV.asI .i64 (r7.1.getD 1 .u)).bind fun n9 =>
 (bif (decide (n9 < n6)) then
 (callV [(88, k88), (1000000, ky0)] f0 [(.i .i64 n8)] r7.2).bind fun r10 =>
 (AV.asB r10.1).bind fun b11 =>
 (bif (!b11) then
 ((some ((.tup []), r10.2) : Option (AV × AH O)).map fun r => Sum.inr (Sum.inr r))
 else (AV.asPS (xs.getD 2 .u)).bind fun q12 =>
 ldP r10.2 q12.1 q12.2 fun p14 =>
 ldI r10.2 q12.1 (q12.2 + 1) fun n16 =>
 ldI r10.2 q12.1 ((q12.2 + 1) + 1) fun n18 =>
 ldI r10.2 q12.1 (((q12.2 + 1) + 1) + 1) fun n20 =>
 ldI r10.2 q12.1 ((((q12.2 + 1) + 1) + 1) + 1) fun n22 =>
 (k88 [(.agg [(.p p14), (.i .i64 n16), (.i .i64 n18), (.i .i64 n20), (.i .i64 n22)]), (.i .i64 n8)] r10.2).bind fun r23 =>
 (AV.asTup 2 r23.1).bind fun c24 =>
 gtI c24 0 fun n25 =>
 gtI c24 1 fun n26 =>
 (bif ((n26 : Int) != 0) then
 ((some ((.tup []), r23.2) : Option (AV × AH O)).map fun r => Sum.inr (Sum.inr r))
 else some (Sum.inl ([(.i .i64 n25), (.i .i64 (IntKind.i64.wrap (n9 + 1)))], r23.2))))
 else some (Sum.inr (Sum.inl ([], r7.2)))))
def chain_Table__All_1_c (k88 ky0 : Sm O) : Sm O := fun xs h =>
 bif Nat.beq xs.length 3 then
 (AV.asF (xs.getD 0 .u)).bind fun f0 =>
 (AV.asPS (xs.getD 1 .u)).bind fun q1 =>
 ldI h q1.1 q1.2 fun n3 =>
 (AV.asPS (xs.getD 1 .u)).bind fun q4 =>
 ldI h q4.1 (q4.2 + 2) fun n6 =>
 bindS (S := List AV × AH O) (R := (AV × AH O)) (loopF (S := List AV × AH O) (T := (List AV × AH O) ⊕ (AV × AH O)) (chain_Table__All_1_L1 n6 k88 ky0 f0 xs) ([(.i .i64 n3), (.i .i64 0)], h)) fun r27 =>
 some ((.tup []), r27.2)
 else none
def chain_Table__All_1 (ky0 : Sm O) : Sm O := chain_Table__All_1_c chain_Table__After ky0
theorem chain_Table__All_1_ent : Entered Try.prog 158 := Try.call158
theorem chain_Table__All_1_run (k88 ky0 : Sm O) : run (O := O) Try.prog [(88, k88), (1000000, ky0)] Try.f158 (.n .z (.n .z (.n (.lp true 0 [(4, .one (.i .i64)), (11, .one (.i .i64))] [] (.n .z (.n .z (.n (.n (.n (.n .z .z) (.n .z (.n (.n .z .z) .z))) .z) .z)))) .z))) = chain_Table__All_1_c k88 ky0 := by kernel_rfl
theorem chain_Table__All_1_sound {ky0 : Sm O} (hy : YSound RO Try.prog ky0) : FSound RO Try.prog 158 (chain_Table__All_1 ky0) :=
   have h : FSound RO Try.prog 158 (chain_Table__All_1_c chain_Table__After ky0) := (chain_Table__All_1_run chain_Table__After ky0) ▸ run_sound (gcons chain_Table__After_ent (chain_Table__After_sound) <| gyld hy <| gnil) mixed Try.func158 (by kernel_rfl) _
   h
def chain_Table__All_c : Sm O := fun xs h =>
 bif Nat.beq xs.length 2 then
 (AV.asAgg 5 (xs.getD 0 .u)).bind fun c0 =>
 (AV.asP (c0.getD 0 .u)).bind fun p1 =>
 gtI c0 1 fun n2 =>
 gtI c0 2 fun n3 =>
 gtI c0 3 fun n4 =>
 gtI c0 4 fun n5 =>
 (AV.asAgg 3 (xs.getD 1 .u)).bind fun c6 =>
 gtI c6 0 fun n7 =>
 gtI c6 1 fun n8 =>
 gtI c6 2 fun n9 =>
 let h10 := h.bump 2
 let h11 := h10.put h.next (.cells true 136 [(.p p1), (.i .i64 n2), (.i .i64 n3), (.i .i64 n4), (.i .i64 n5)])
 let h12 := h11.put (h.next + 1) (.cells true 130 [(.i .i64 n7), (.i .i64 n8), (.i .i64 n9)])
 some ((.fn (some (.func 158, [], [(.p (some ((.n (h.next + 1)), 0))), (.p (some ((.n h.next), 0)))]))), h12)
 else none
def chain_Table__All : Sm O := chain_Table__All_c
theorem chain_Table__All_ent : Entered Try.prog 132 := Try.call132
theorem chain_Table__All_run : run (O := O) Try.prog [] Try.f132 (.n .z .z) = chain_Table__All_c  := by kernel_rfl
theorem chain_Table__All_sound : FSound RO Try.prog 132 chain_Table__All := sdf chain_Table__All_run (gnil) Try.func132 (by kernel_rfl)
def large_Large__All_1_R0_c (ky0 : Sm O) : Sm O := roundW 144000 1 fun env0 ys0 blk0 h =>
 (AV.asP (env0 2)).bind fun p0 =>
 gtI ys0 0 fun n1 =>
 (busyL h blk0).bind fun h2 =>
 Option.bind p0 fun q3 =>
 (h2.ld q3.1 q3.2).bind fun w4 =>
 (AV.asF w4).bind fun f5 =>
 (callV [(1000000, ky0)] f5 [(.i .i64 n1)] h2).bind fun r6 =>
 (AV.asB r6.1).bind fun b7 =>
 (bif (!b7) then
 (markL r6.2 blk0 (.done none)).bind fun h => some (.b false, h)
 else (markL r6.2 blk0 .ready).bind fun h => some (.b true, h))
def large_Large__All_1_R0 (ky0 : Sm O) : Sm O := large_Large__All_1_R0_c ky0
theorem large_Large__All_1_R0_run (ky0 : Sm O) : roundAt (O := O) Try.prog [(1000000, ky0)] 144 Try.f144 0 [(2, .one .p)] [(24, .one (.i .i64))] (.n .z (.n (.n .z .z) .z)) = large_Large__All_1_R0_c ky0 := by kernel_rfl
theorem large_Large__All_1_R0_sound {ky0 : Sm O} (hy : YSound RO Try.prog ky0) : YSound RO Try.prog (large_Large__All_1_R0 ky0) :=
   have h : YSound RO Try.prog (large_Large__All_1_R0_c ky0) := (large_Large__All_1_R0_run ky0) ▸ roundAt_sound (gyld hy <| gnil) mixed Try.func144 _ _ _ _
   h
def large_Large__All_1_L1 (h2 : AH O) (xs : List AV) (k84 : Sm O) (k132 : Sm O) (kr158 : Sm O) (ky0 : Sm O) (h : AH O) : List AV × AH O -> Option ((List AV × AH O) ⊕ ((List AV × AH O) ⊕ (AV × AH O))) := (fun r27 =>
 (AV.asI .i64 (r27.1.getD 0 .u)).bind fun n28 =>
 (bif (decide (n28 < 2)) then
 let h29 := r27.2.bump 1
 (bif ((decide ((0 : Int) <= n28)) && (decide (n28 < 2))) then
 ldI h29 (.n h2.next) (0 + (n28.toNat * 3)) fun n31 =>
 ldI h29 (.n h2.next) ((0 + (n28.toNat * 3)) + 1) fun n33 =>
 ldI h29 (.n h2.next) (((0 + (n28.toNat * 3)) + 1) + 1) fun n35 =>
 let h36 := h29.put r27.2.next (.cells true 130 [(.i .i64 0), (.i .i64 0), (.i .i64 0)])
 (h36.st (.n r27.2.next) 0 [(.i .i64 n31), (.i .i64 n33), (.i .i64 n35)]).bind fun h37 =>
 (AV.asPS (xs.getD 1 .u)).bind fun q38 =>
 ldP h37 q38.1 q38.2 fun p40 =>
 (AV.asPS (xs.getD 1 .u)).bind fun q41 =>
 ldI h37 (.n r27.2.next) 0 fun n43 =>
 ldI h37 (.n r27.2.next) 1 fun n45 =>
 ldI h37 (.n r27.2.next) 2 fun n47 =>
 (k84 [(.p p40)] h37).bind fun r48 =>
 (AV.asAgg 5 r48.1).bind fun c49 =>
 (AV.asP (c49.getD 0 .u)).bind fun p50 =>
 gtI c49 1 fun n51 =>
 gtI c49 2 fun n52 =>
 gtI c49 3 fun n53 =>
 gtI c49 4 fun n54 =>
 (chkE (r48.2.ld (.n r27.2.next) 0) (some (.i .i64 n43))).bind fun _ =>
 (chkE (r48.2.ld (.n r27.2.next) 1) (some (.i .i64 n45))).bind fun _ =>
 (chkE (r48.2.ld (.n r27.2.next) 2) (some (.i .i64 n47))).bind fun _ =>
 (k132 [(.agg [(.p p50), (.i .i64 n51), (.i .i64 n52), (.i .i64 n53), (.i .i64 n54)]), (.agg [(.i .i64 n43), (.i .i64 n45), (.i .i64 n47)])] r48.2).bind fun r55 =>
 (AV.asF r55.1).bind fun f56 =>
 (rangeV [(84, k84), (132, k132), (2000158, kr158), (1000000, ky0)] f56 144000 [(2, (.p (some ((.n h.next), 0))))] r55.2).bind fun r57 =>
 (lstN r57.2 r55.2.next).bind fun st58 =>
 let h59 := r57.2.kill r55.2.next
 (bif Nat.beq st58 0 then
 some (Sum.inl ([(.i .i64 (IntKind.i64.wrap (n28 + 1)))], h59))
 else (bif Nat.beq st58 3 then
 ((some ((.tup []), h59) : Option (AV × AH O)).map fun r => Sum.inr (Sum.inr r))
 else none))
 else none)
 else some (Sum.inr (Sum.inl ([], r27.2)))))
def large_Large__All_1_c (k84 k132 kr158 ky0 : Sm O) : Sm O := fun xs h =>
 bif Nat.beq xs.length 2 then
 (AV.asF (xs.getD 0 .u)).bind fun f0 =>
 let h1 := h.bump 1
 let h2 := h1.put h.next (.cells true 217 [(.fn f0)])
 let h3 := h2.bump 1
 (AV.asPS (xs.getD 1 .u)).bind fun q4 =>
 ldP h3 q4.1 q4.2 fun p6 =>
 (AV.asPS (xs.getD 1 .u)).bind fun q7 =>
 Option.bind p6 fun q8 =>
 ldI h3 q8.1 (q8.2 + 2) fun n10 =>
 ldI h3 q8.1 ((q8.2 + 2) + 1) fun n12 =>
 ldI h3 q8.1 (((q8.2 + 2) + 1) + 1) fun n14 =>
 (AV.asPS (xs.getD 1 .u)).bind fun q15 =>
 ldP h3 q15.1 q15.2 fun p17 =>
 (AV.asPS (xs.getD 1 .u)).bind fun q18 =>
 Option.bind p17 fun q19 =>
 ldI h3 q19.1 (q19.2 + 5) fun n21 =>
 ldI h3 q19.1 ((q19.2 + 5) + 1) fun n23 =>
 ldI h3 q19.1 (((q19.2 + 5) + 1) + 1) fun n25 =>
 let h26 := h3.put h2.next (.cells true 130 [(.i .i64 n10), (.i .i64 n12), (.i .i64 n14), (.i .i64 n21), (.i .i64 n23), (.i .i64 n25)])
 bindS (S := List AV × AH O) (R := (AV × AH O)) (loopF (S := List AV × AH O) (T := (List AV × AH O) ⊕ (AV × AH O)) (large_Large__All_1_L1 h2 xs k84 k132 kr158 ky0 h) ([(.i .i64 0)], h26)) fun r60 =>
 some ((.tup []), r60.2)
 else none
def large_Large__All_1 (ky0 : Sm O) : Sm O := large_Large__All_1_c large_Large__table chain_Table__All (chain_Table__All_1 (large_Large__All_1_R0 ky0)) ky0
theorem large_Large__All_1_ent : Entered Try.prog 144 := Try.call144
theorem large_Large__All_1_run (k84 k132 kr158 ky0 : Sm O) : run (O := O) Try.prog [(84, k84), (132, k132), (2000158, kr158), (1000000, ky0)] Try.f144 (.n .z (.n (.d [] [0, 1, 2, 3, 4, 5, 6, 7, 10, 8, 9] [0, 1, 3, 7, 0, 16, 48, 112, 255, 511, 0]) (.n (.lp true 0 [(16, .one (.i .i64))] [] (.n .z (.n .z (.n (.n (.n .z (.n (.d [] [0, 2, 1, 3] [0, 1, 0, 7]) (.n (.rf 144000 [2] [3]) .z))) .z) .z)))) .z))) = large_Large__All_1_c k84 k132 kr158 ky0 := by kernel_rfl
theorem large_Large__All_1_sound {ky0 : Sm O} (hy : YSound RO Try.prog ky0) : FSound RO Try.prog 144 (large_Large__All_1 ky0) :=
   have h : FSound RO Try.prog 144 (large_Large__All_1_c large_Large__table chain_Table__All (chain_Table__All_1 (large_Large__All_1_R0 ky0)) ky0) := (large_Large__All_1_run large_Large__table chain_Table__All (chain_Table__All_1 (large_Large__All_1_R0 ky0)) ky0) ▸ run_soundR (gcons large_Large__table_ent (large_Large__table_sound) <| gcons chain_Table__All_ent (chain_Table__All_sound) <| grf (c := 158) chain_Table__All_1_ent (chain_Table__All_1_sound (large_Large__All_1_R0_sound hy)) <| gyld hy <| gnil) mixed Try.func144 (by kernel_rfl) _ (by kernel_rfl)
   h
def large_Large__All_c : Sm O := fun xs h =>
 bif Nat.beq xs.length 1 then
 (AV.asP (xs.getD 0 .u)).bind fun p0 =>
 let h1 := h.bump 1
 let h2 := h1.put h.next (.cells true 67 [(.p p0)])
 some ((.fn (some (.func 144, [], [(.p (some ((.n h.next), 0)))]))), h2)
 else none
def large_Large__All : Sm O := large_Large__All_c
theorem large_Large__All_ent : Entered Try.prog 91 := Try.call91
theorem large_Large__All_run : run (O := O) Try.prog [] Try.f91 (.n .z .z) = large_Large__All_c  := by kernel_rfl
theorem large_Large__All_sound : FSound RO Try.prog 91 large_Large__All := sdf large_Large__All_run (gnil) Try.func91 (by kernel_rfl)
def law15_told_R0_c : Sm O := roundW 35000 1 fun env0 ys0 blk0 h =>
 (AV.asP (env0 2)).bind fun p0 =>
 (AV.asP (env0 3)).bind fun p1 =>
 (AV.asP (env0 5)).bind fun p2 =>
 gtI ys0 0 fun n3 =>
 (busyL h blk0).bind fun h4 =>
 Option.bind p2 fun q5 =>
 ldS h4 q5.1 q5.2 fun l7 =>
 (bif (decide ((l7.2 : Int) > 200)) then
 Option.bind p2 fun q8 =>
 ldS h4 q8.1 q8.2 fun l10 =>
 Option.bind p0 fun q11 =>
 (h4.st q11.1 q11.2 [(.sl l10.1 l10.2)]).bind fun h12 =>
 Option.bind p1 fun q13 =>
 (h12.st q13.1 q13.2 [(.b false)]).bind fun h14 =>
 (markL h14 blk0 (.done none)).bind fun h => some (.b false, h)
 else let h15 := h4.bump 2
 Option.bind p2 fun q16 =>
 ldS h15 q16.1 q16.2 fun l18 =>
 let h19 := h15.put h4.next (.cells true 3 [(.i .i64 n3)])
 (h19.rdSl (.loc (.n h4.next) 0 1) 1 1).bind fun new20 =>
 (bif (Nat.ble ((l18.2 + 1) * 9) 35184372088832) then
 (h19.appSl (h4.next + 1) 3 1 l18.1 l18.2 1 new20).bind fun r21 =>
 (AV.asSl r21.1).bind fun l22 =>
 Option.bind p2 fun q23 =>
 (r21.2.st q23.1 q23.2 [(.sl l22.1 l22.2)]).bind fun h24 =>
 (markL h24 blk0 .ready).bind fun h => some (.b true, h)
 else none))
def law15_told_R0 : Sm O := law15_told_R0_c
theorem law15_told_R0_run : roundAt (O := O) Try.prog [] 35 Try.f35 0 [(2, .one .p), (3, .one .p), (5, .one .p)] [(12, .one (.i .i64))] (.n .z (.n (.n (.n .z (.n .z .z)) .z) .z)) = law15_told_R0_c  := by kernel_rfl
theorem law15_told_R0_sound : YSound RO Try.prog (law15_told_R0) :=
   have h : YSound RO Try.prog (law15_told_R0_c) := (law15_told_R0_run) ▸ roundAt_sound (gnil) mixed Try.func35 _ _ _ _
   h
def law15_told_c (k91 kr144 : Sm O) : Sm O := fun xs h =>
 bif Nat.beq xs.length 1 then
 (AV.asP (xs.getD 0 .u)).bind fun p0 =>
 let h1 := h.bump 2
 let h2 := h1.put h.next (.cells true 29 [(.sl .nil 0)])
 let h3 := h2.put (h.next + 1) (.cells true 4 [(.b false)])
 (k91 [(.p p0)] h3).bind fun r4 =>
 (AV.asF r4.1).bind fun f5 =>
 (bif (Option.isNone f5) then
 (r4.2.st (.n h.next) 0 [(.sl .nil 0)]).bind fun h6 =>
 (h6.st (.n (h.next + 1)) 0 [(.b false)]).bind fun h7 =>
 ldS h7 (.n h.next) 0 fun l9 =>
 (h7.ld (.n (h.next + 1)) 0).bind fun w10 =>
 (AV.asB w10).bind fun b11 =>
 some ((.tup [(.sl l9.1 l9.2), (.b b11)]), h7)
 else let h12 := r4.2.bump 1
 let h13 := h12.put r4.2.next (.cells true 29 [(.sl .nil 0)])
 (rangeV [(91, k91), (2000144, kr144)] f5 35000 [(2, (.p (some ((.n h.next), 0)))), (3, (.p (some ((.n (h.next + 1)), 0)))), (5, (.p (some ((.n r4.2.next), 0))))] h13).bind fun r14 =>
 (lstN r14.2 h13.next).bind fun st15 =>
 let h16 := r14.2.kill h13.next
 (bif Nat.beq st15 0 then
 ldS h16 (.n r4.2.next) 0 fun l18 =>
 (h16.st (.n h.next) 0 [(.sl l18.1 l18.2)]).bind fun h19 =>
 (h19.st (.n (h.next + 1)) 0 [(.b true)]).bind fun h20 =>
 ldS h20 (.n h.next) 0 fun l22 =>
 (h20.ld (.n (h.next + 1)) 0).bind fun w23 =>
 (AV.asB w23).bind fun b24 =>
 some ((.tup [(.sl l22.1 l22.2), (.b b24)]), h20)
 else (bif Nat.beq st15 3 then
 ldS h16 (.n h.next) 0 fun l26 =>
 (h16.ld (.n (h.next + 1)) 0).bind fun w27 =>
 (AV.asB w27).bind fun b28 =>
 some ((.tup [(.sl l26.1 l26.2), (.b b28)]), h16)
 else none)))
 else none
def law15_told : Sm O := law15_told_c large_Large__All (large_Large__All_1 (law15_told_R0))
theorem law15_told_ent : Entered Try.prog 35 := Try.call35
theorem law15_told_run (k91 kr144 : Sm O) : run (O := O) Try.prog [(91, k91), (2000144, kr144)] Try.f35 (.n .z (.n .z (.n (.n .z (.n .z .z)) (.n .z (.n (.n .z (.n (.rf 35000 [2, 3, 5] [3]) .z)) .z))))) = law15_told_c k91 kr144 := by kernel_rfl
theorem law15_told_sound : FSound RO Try.prog 35 (law15_told) :=
   have h : FSound RO Try.prog 35 (law15_told_c large_Large__All (large_Large__All_1 (law15_told_R0))) := (law15_told_run large_Large__All (large_Large__All_1 (law15_told_R0))) ▸ run_soundR (gcons large_Large__All_ent (large_Large__All_sound) <| grf (c := 144) large_Large__All_1_ent (large_Large__All_1_sound (law15_told_R0_sound)) <| gnil) mixed Try.func35 (by kernel_rfl) _ (by kernel_rfl)
   h
def haymowref02_Same_L1 (l0 : SA × Nat) (l1 : SA × Nat) : List AV × AH O -> Option ((List AV × AH O) ⊕ ((List AV × AH O) ⊕ (AV × AH O))) := (fun r2 =>
 (AV.asI .i64 (r2.1.getD 0 .u)).bind fun n3 =>
 (bif (decide (n3 < (l0.2 : Int))) then
 (bif ((decide ((0 : Int) <= n3)) && (decide (n3 < (l0.2 : Int)))) then
 (SA.ref l0.1).bind fun q4 =>
 ldI r2.2 q4.1 (q4.2 + (n3.toNat * 1)) fun n6 =>
 (bif ((decide ((0 : Int) <= n3)) && (decide (n3 < (l1.2 : Int)))) then
 (SA.ref l1.1).bind fun q7 =>
 ldI r2.2 q7.1 (q7.2 + (n3.toNat * 1)) fun n9 =>
 (bif ((n6 : Int) != n9) then
 ((some ((.b false), r2.2) : Option (AV × AH O)).map fun r => Sum.inr (Sum.inr r))
 else some (Sum.inl ([(.i .i64 (IntKind.i64.wrap (n3 + 1)))], r2.2)))
 else none)
 else none)
 else some (Sum.inr (Sum.inl ([], r2.2)))))
def haymowref02_Same_c : Sm O := fun xs h =>
 bif Nat.beq xs.length 2 then
 gtS xs 0 fun l0 =>
 gtS xs 1 fun l1 =>
 (bif (((l0.2 : Int) : Int) != (l1.2 : Int)) then
 some ((.b false), h)
 else bindS (S := List AV × AH O) (R := (AV × AH O)) (loopF (S := List AV × AH O) (T := (List AV × AH O) ⊕ (AV × AH O)) (haymowref02_Same_L1 l0 l1) ([(.i .i64 0)], h)) fun r10 =>
 some ((.b true), r10.2))
 else none
def haymowref02_Same : Sm O := haymowref02_Same_c
theorem haymowref02_Same_ent : Entered Try.prog 23 := Try.call23
theorem haymowref02_Same_run : run (O := O) Try.prog [] Try.f23 (.n .z (.n (.n .z (.n .z .z)) (.n (.n .z (.n (.lp true 0 [(5, .one (.i .i64))] [] (.n (.n .z .z) (.n (.n (.n (.d [] [0, 1, 2, 3, 4, 5, 6, 7, 8] [0, 0, 3, 7, 0, 0, 48, 112, 255]) (.n .z .z)) .z) .z))) .z)) .z))) = haymowref02_Same_c  := by kernel_rfl
theorem haymowref02_Same_sound : FSound RO Try.prog 23 haymowref02_Same := sdf haymowref02_Same_run (gnil) Try.func23 (by kernel_rfl)
def large_Large__Words_c : Sm O := fun xs h =>
 bif Nat.beq xs.length 1 then
 (AV.asP (xs.getD 0 .u)).bind fun p0 =>
 Option.bind p0 fun q1 =>
 ldI h q1.1 (q1.2 + 10) fun n3 =>
 some ((.i .i64 n3), h)
 else none
def large_Large__Words : Sm O := large_Large__Words_c
theorem large_Large__Words_ent : Entered Try.prog 32 := Try.call32
theorem large_Large__Words_run : run (O := O) Try.prog [] Try.f32 (.n .z .z) = large_Large__Words_c  := by kernel_rfl
theorem large_Large__Words_sound : FSound RO Try.prog 32 large_Large__Words := sdf large_Large__Words_run (gnil) Try.func32 (by kernel_rfl)
def law15_awake_c (k26 k27 k28 k29 k34 k35 k23 k32 : Sm O) : Sm O := fun xs h =>
 bif Nat.beq xs.length 0 then
 (k26 [] h).bind fun r0 =>
 (AV.asTup 3 r0.1).bind fun c1 =>
 (AV.asP (c1.getD 0 .u)).bind fun p2 =>
 (AV.asP (c1.getD 1 .u)).bind fun p3 =>
 (AV.asB (c1.getD 2 .u)).bind fun b4 =>
 (bif (!b4) then
 some ((.b false), r0.2)
 else (k27 [(.p p3), (.i .i64 100)] r0.2).bind fun r5 =>
 (AV.asTup 2 r5.1).bind fun c6 =>
 gtI c6 0 fun n7 =>
 gtI c6 1 fun n8 =>
 (k27 [(.p p3), (.i .i64 50)] r5.2).bind fun r9 =>
 (AV.asTup 2 r9.1).bind fun c10 =>
 gtI c10 0 fun n11 =>
 gtI c10 1 fun n12 =>
 (k28 [(.p p3)] r9.2).bind fun r13 =>
 (AV.asTup 0 r13.1).bind fun c14 =>
 (k29 [(.p p3), (.i .i64 2)] r13.2).bind fun r15 =>
 (AV.asTup 2 r15.1).bind fun c16 =>
 (AV.asB (c16.getD 0 .u)).bind fun b17 =>
 gtI c16 1 fun n18 =>
 (k34 [(.p p3)] r15.2).bind fun r19 =>
 (AV.asTup 2 r19.1).bind fun c20 =>
 gtI c20 0 fun n21 =>
 gtI c20 1 fun n22 =>
 (k35 [(.p p3)] r19.2).bind fun r23 =>
 (AV.asTup 2 r23.1).bind fun c24 =>
 gtS c24 0 fun l25 =>
 (AV.asB (c24.getD 1 .u)).bind fun b26 =>
 let h27 := r23.2.bump 1
 ((bif (b17 == true) then
 some ([(.b ((n18 : Int) == 0))], h27)
 else some ([(.b false)], h27)) : Option (List AV × AH O)).bind fun r28 =>
 (AV.asB (r28.1.getD 0 .u)).bind fun b29 =>
 ((bif (b29 == true) then
 some ([(.b ((n21 : Int) == 1))], r28.2)
 else some ([(.b false)], r28.2)) : Option (List AV × AH O)).bind fun r30 =>
 (AV.asB (r30.1.getD 0 .u)).bind fun b31 =>
 ((bif (b31 == true) then
 some ([(.b ((n22 : Int) == 100))], r30.2)
 else some ([(.b false)], r30.2)) : Option (List AV × AH O)).bind fun r32 =>
 (AV.asB (r32.1.getD 0 .u)).bind fun b33 =>
 ((bif (b33 == true) then
 some ([(.b b26)], r32.2)
 else some ([(.b false)], r32.2)) : Option (List AV × AH O)).bind fun r34 =>
 (AV.asB (r34.1.getD 0 .u)).bind fun b35 =>
 ((bif (b35 == true) then
 let h36 := r34.2.put r23.2.next (.cells true 3 [(.i .i64 2)])
 (k23 [(.sl l25.1 l25.2), (.sl (.loc (.n r23.2.next) 0 1) 1)] h36).bind fun r37 =>
 (AV.asB r37.1).bind fun b38 =>
 some ([(.b b38)], r37.2)
 else some ([(.b false)], r34.2)) : Option (List AV × AH O)).bind fun r39 =>
 (AV.asB (r39.1.getD 0 .u)).bind fun b40 =>
 ((bif (b40 == true) then
 (k32 [(.p p3)] r39.2).bind fun r41 =>
 (AV.asI .i64 r41.1).bind fun n42 =>
 some ([(.b ((n42 : Int) == 50))], r41.2)
 else some ([(.b false)], r39.2)) : Option (List AV × AH O)).bind fun r43 =>
 (AV.asB (r43.1.getD 0 .u)).bind fun b44 =>
 some ((.b b44), r43.2))
 else none
def law15_awake : Sm O := law15_awake_c law15_made large_Large__Add large_Large__Begin large_Large__Mark large_Large__Sweep law15_told haymowref02_Same large_Large__Words
theorem law15_awake_ent : Entered Try.prog 24 := Try.call24
theorem law15_awake_run (k26 k27 k28 k29 k34 k35 k23 k32 : Sm O) : run (O := O) Try.prog [(26, k26), (27, k27), (28, k28), (29, k29), (34, k34), (35, k35), (23, k23), (32, k32)] Try.f24 (.n .z (.n .z (.n (.n .z (.n .z .z)) (.n .z (.n .z (.n .z (.n .z (.n .z (.n .z (.n (.g [(1, 2, [(42, .one .b)]), (5, 2, [(46, .one .b)]), (9, 2, [(50, .one .b)]), (13, 1, [(53, .one .b)]), (16, 3, [(58, .one .b)]), (21, 3, [(63, .one .b)])]) .z)))))))))) = law15_awake_c k26 k27 k28 k29 k34 k35 k23 k32 := by kernel_rfl
theorem law15_awake_sound : FSound RO Try.prog 24 law15_awake := sdf (law15_awake_run _ _ _ _ _ _ _ _) (gcons law15_made_ent law15_made_sound <| gcons large_Large__Add_ent large_Large__Add_sound <| gcons large_Large__Begin_ent large_Large__Begin_sound <| gcons large_Large__Mark_ent large_Large__Mark_sound <| gcons large_Large__Sweep_ent large_Large__Sweep_sound <| gcons law15_told_ent law15_told_sound <| gcons haymowref02_Same_ent haymowref02_Same_sound <| gcons large_Large__Words_ent large_Large__Words_sound <| gnil) Try.func24 (by kernel_rfl)
def law15_few_L1 (l0 : SA × Nat) : List AV × AH O -> Option ((List AV × AH O) ⊕ ((List AV × AH O) ⊕ (AV × AH O))) := (fun r1 =>
 (AV.asI .i64 (r1.1.getD 0 .u)).bind fun n2 =>
 (bif (decide (n2 < (l0.2 : Int))) then
 (bif ((decide ((0 : Int) <= n2)) && (decide (n2 < (l0.2 : Int)))) then
 (SA.ref l0.1).bind fun q3 =>
 ldI r1.2 q3.1 (q3.2 + (n2.toNat * 5)) fun n5 =>
 ((bif (((n5 : Int) == 0) == true) then
 (bif ((decide ((0 : Int) <= n2)) && (decide (n2 < (l0.2 : Int)))) then
 (SA.ref l0.1).bind fun q6 =>
 ldI r1.2 q6.1 ((q6.2 + (n2.toNat * 5)) + 3) fun n8 =>
 some ([(.b (decide (n8 > 300)))], r1.2)
 else none)
 else some ([(.b false)], r1.2)) : Option (List AV × AH O)).bind fun r9 =>
 (AV.asB (r9.1.getD 0 .u)).bind fun b10 =>
 ((bif (b10 == true) then
 (bif ((decide ((0 : Int) <= n2)) && (decide (n2 < (l0.2 : Int)))) then
 (SA.ref l0.1).bind fun q11 =>
 ldI r9.2 q11.1 ((q11.2 + (n2.toNat * 5)) + 3) fun n13 =>
 some ([(.b (decide (n13 <= 4194304)))], r9.2)
 else none)
 else some ([(.b false)], r9.2)) : Option (List AV × AH O)).bind fun r14 =>
 (AV.asB (r14.1.getD 0 .u)).bind fun b15 =>
 (bif b15 then
 ((some ((.b false), r14.2) : Option (AV × AH O)).map fun r => Sum.inr (Sum.inr r))
 else some (Sum.inl ([(.i .i64 (IntKind.i64.wrap (n2 + 1)))], r14.2)))
 else none)
 else some (Sum.inr (Sum.inl ([], r1.2)))))
def law15_few_c : Sm O := fun xs h =>
 bif Nat.beq xs.length 1 then
 gtS xs 0 fun l0 =>
 (bif (decide ((l0.2 : Int) > 60)) then
 some ((.b false), h)
 else bindS (S := List AV × AH O) (R := (AV × AH O)) (loopF (S := List AV × AH O) (T := (List AV × AH O) ⊕ (AV × AH O)) (law15_few_L1 l0) ([(.i .i64 0)], h)) fun r16 =>
 some ((.b true), r16.2))
 else none
def law15_few : Sm O := law15_few_c
theorem law15_few_ent : Entered Try.prog 38 := Try.call38
theorem law15_few_run : run (O := O) Try.prog [] Try.f38 (.n .z (.n (.n .z (.n .z .z)) (.n (.n .z (.n (.lp true 0 [(3, .one (.i .i64))] [] (.n (.n .z .z) (.n (.n (.n (.g [(6, 6, [(26, .one .b)]), (14, 6, [(34, .one .b)])]) (.n .z .z)) .z) .z))) .z)) .z))) = law15_few_c  := by kernel_rfl
theorem law15_few_sound : FSound RO Try.prog 38 law15_few := sdf law15_few_run (gnil) Try.func38 (by kernel_rfl)
def haymowref15_New_c : Sm O := fun xs h =>
 bif Nat.beq xs.length 0 then
 let h0 := h.bump 1
 let h1 := h0.put h.next (.cells true 91 [(.i .i64 0), (.sl .nil 0), (.sl .nil 0), (.i .i64 0), (.sl .nil 0), (.sl .nil 0), (.sl .nil 0), (.i .i64 0)])
 (h1.st (.n h.next) 0 [(.i .i64 5), (.sl .nil 0), (.sl .nil 0), (.i .i64 0), (.sl .nil 0), (.sl .nil 0), (.sl .nil 0), (.i .i64 0)]).bind fun h2 =>
 ldI h2 (.n h.next) 0 fun n4 =>
 ldS h2 (.n h.next) 1 fun l6 =>
 ldS h2 (.n h.next) 2 fun l8 =>
 ldI h2 (.n h.next) 3 fun n10 =>
 ldS h2 (.n h.next) 4 fun l12 =>
 ldS h2 (.n h.next) 5 fun l14 =>
 ldS h2 (.n h.next) 6 fun l16 =>
 ldI h2 (.n h.next) 7 fun n18 =>
 some ((.agg [(.i .i64 n4), (.sl l6.1 l6.2), (.sl l8.1 l8.2), (.i .i64 n10), (.sl l12.1 l12.2), (.sl l14.1 l14.2), (.sl l16.1 l16.2), (.i .i64 n18)]), h2)
 else none
def haymowref15_New : Sm O := haymowref15_New_c
theorem haymowref15_New_ent : Entered Try.prog 39 := Try.call39
theorem haymowref15_New_run : run (O := O) Try.prog [] Try.f39 (.n .z .z) = haymowref15_New_c  := by kernel_rfl
theorem haymowref15_New_sound : FSound RO Try.prog 39 haymowref15_New := sdf haymowref15_New_run (gnil) Try.func39 (by kernel_rfl)
def meter_Meter__Of_c : Sm O := fun xs h =>
 bif Nat.beq xs.length 2 then
 (AV.asP (xs.getD 0 .u)).bind fun p0 =>
 gtI xs 1 fun n1 =>
 let h2 := h.bump 1
 let h3 := h2.put h.next (.cells true 38 [(.i .u64 0), (.i .u64 0)])
 ((bif ((Option.isNone p0) == false) then
 some ([(.b (decide (n1 < 0)))], h3)
 else some ([(.b true)], h3)) : Option (List AV × AH O)).bind fun r4 =>
 (AV.asB (r4.1.getD 0 .u)).bind fun b5 =>
 ((bif (b5 == false) then
 some ([(.b (decide (n1 >= 2)))], r4.2)
 else some ([(.b true)], r4.2)) : Option (List AV × AH O)).bind fun r6 =>
 (AV.asB (r6.1.getD 0 .u)).bind fun b7 =>
 (bif b7 then
 (r6.2.st (.n h.next) 0 [(.i .u64 0), (.i .u64 0)]).bind fun h8 =>
 ldU h8 (.n h.next) 0 fun n10 =>
 ldU h8 (.n h.next) 1 fun n12 =>
 some ((.agg [(.i .u64 n10), (.i .u64 n12)]), h8)
 else Option.bind p0 fun q13 =>
 (bif ((decide ((0 : Int) <= n1)) && (decide (n1 < 2))) then
 ldU r6.2 q13.1 (q13.2 + (n1.toNat * 2)) fun n15 =>
 ldU r6.2 q13.1 ((q13.2 + (n1.toNat * 2)) + 1) fun n17 =>
 (r6.2.st (.n h.next) 0 [(.i .u64 n15), (.i .u64 n17)]).bind fun h18 =>
 ldU h18 (.n h.next) 0 fun n20 =>
 ldU h18 (.n h.next) 1 fun n22 =>
 some ((.agg [(.i .u64 n20), (.i .u64 n22)]), h18)
 else none))
 else none
def meter_Meter__Of : Sm O := meter_Meter__Of_c
theorem meter_Meter__Of_ent : Entered Try.prog 59 := Try.call59
theorem meter_Meter__Of_run : run (O := O) Try.prog [] Try.f59 (.n .z (.n (.n (.g [(2, 2, [(10, .one .b)]), (6, 2, [(14, .one .b)])]) (.n .z .z)) .z)) = meter_Meter__Of_c  := by kernel_rfl
theorem meter_Meter__Of_sound : FSound RO Try.prog 59 meter_Meter__Of := sdf meter_Meter__Of_run (gnil) Try.func59 (by kernel_rfl)
def meter_Meter__Steps_c (k59 k58 : Sm O) : Sm O := fun xs h =>
 bif Nat.beq xs.length 1 then
 (AV.asP (xs.getD 0 .u)).bind fun p0 =>
 let h1 := h.bump 1
 let h2 := h1.put h.next (.cells true 38 [(.i .u64 0), (.i .u64 0)])
 let h3 := h2.bump 1
 (k59 [(.p p0), (.i .i64 0)] h3).bind fun r4 =>
 (AV.asAgg 2 r4.1).bind fun c5 =>
 gtU c5 0 fun n6 =>
 gtU c5 1 fun n7 =>
 (k59 [(.p p0), (.i .i64 1)] r4.2).bind fun r8 =>
 (AV.asAgg 2 r8.1).bind fun c9 =>
 gtU c9 0 fun n10 =>
 gtU c9 1 fun n11 =>
 (k58 [(.agg [(.i .u64 n6), (.i .u64 n7)]), (.agg [(.i .u64 n10), (.i .u64 n11)])] r8.2).bind fun r12 =>
 (AV.asTup 2 r12.1).bind fun c13 =>
 (AV.asAgg 2 (c13.getD 0 .u)).bind fun c14 =>
 gtU c14 0 fun n15 =>
 gtU c14 1 fun n16 =>
 (AV.asB (c13.getD 1 .u)).bind fun b17 =>
 let h18 := r12.2.put h2.next (.cells true 38 [(.i .u64 0), (.i .u64 0)])
 (h18.st (.n h2.next) 0 [(.i .u64 n15), (.i .u64 n16)]).bind fun h19 =>
 ldU h19 (.n h2.next) 0 fun n21 =>
 ldU h19 (.n h2.next) 1 fun n23 =>
 (h19.st (.n h.next) 0 [(.i .u64 n21), (.i .u64 n23)]).bind fun h24 =>
 ldU h24 (.n h.next) 0 fun n26 =>
 ldU h24 (.n h.next) 1 fun n28 =>
 some ((.agg [(.i .u64 n26), (.i .u64 n28)]), h24)
 else none
def meter_Meter__Steps : Sm O := meter_Meter__Steps_c meter_Meter__Of wide_Add
theorem meter_Meter__Steps_ent : Entered Try.prog 12 := Try.call12
theorem meter_Meter__Steps_run (k59 k58 : Sm O) : run (O := O) Try.prog [(59, k59), (58, k58)] Try.f12 (.n .z (.n .z .z)) = meter_Meter__Steps_c k59 k58 := by kernel_rfl
theorem meter_Meter__Steps_sound : FSound RO Try.prog 12 meter_Meter__Steps := sdf (meter_Meter__Steps_run _ _) (gcons meter_Meter__Of_ent meter_Meter__Of_sound <| gcons wide_Add_ent wide_Add_sound <| gnil) Try.func12 (by kernel_rfl)
def haymowref10_copied_L1 (l14 : SA × Nat) : List AV × AH O -> Option ((List AV × AH O) ⊕ (List AV × AH O)) := (fun r15 =>
 (AV.asI .i64 (r15.1.getD 0 .u)).bind fun n16 =>
 (bif (decide (n16 < (l14.2 : Int))) then
 let h17 := r15.2.bump 2
 let h18 := h17.put r15.2.next (.cells true 36 [])
 (bif ((decide ((0 : Int) <= n16)) && (decide (n16 < (l14.2 : Int)))) then
 (SA.ref l14.1).bind fun q19 =>
 ldS h18 q19.1 ((q19.2 + (n16.toNat * 3)) + 2) fun l21 =>
 (h18.rdSl l21.1 l21.2 1).bind fun new22 =>
 (bif (Nat.ble ((0 + l21.2) * 9) 35184372088832) then
 (h18.appSl (r15.2.next + 1) 36 1 (.loc (.n r15.2.next) 0 1) 0 l21.2 new22).bind fun r23 =>
 (AV.asSl r23.1).bind fun l24 =>
 (bif ((decide ((0 : Int) <= n16)) && (decide (n16 < (l14.2 : Int)))) then
 (SA.ref l14.1).bind fun q25 =>
 (r23.2.st q25.1 ((q25.2 + (n16.toNat * 3)) + 2) [(.sl l24.1 l24.2)]).bind fun h26 =>
 some (Sum.inl ([(.i .i64 (IntKind.i64.wrap (n16 + 1)))], h26))
 else none)
 else none)
 else none)
 else some (Sum.inr ([], r15.2))))
def haymowref10_copied_c : Sm O := fun xs h =>
 bif Nat.beq xs.length 1 then
 (AV.asAgg 4 (xs.getD 0 .u)).bind fun c0 =>
 gtI c0 0 fun n1 =>
 gtS c0 1 fun l2 =>
 gtS c0 2 fun l3 =>
 gtI c0 3 fun n4 =>
 let h5 := h.bump 2
 let h6 := h5.put h.next (.cells true 31 [(.i .i64 n1), (.sl l2.1 l2.2), (.sl l3.1 l3.2), (.i .i64 n4)])
 let h7 := h6.put (h.next + 1) (.cells true 31 [(.i .i64 0), (.sl .nil 0), (.sl .nil 0), (.i .i64 0)])
 let h8 := h7.bump 2
 let h9 := h8.put h7.next (.cells true 144 [])
 ldS h9 (.n h.next) 1 fun l11 =>
 (h9.rdSl l11.1 l11.2 3).bind fun new12 =>
 (bif (Nat.ble ((0 + l11.2) * 41) 35184372088832) then
 (h9.appSl (h7.next + 1) 144 3 (.loc (.n h7.next) 0 3) 0 l11.2 new12).bind fun r13 =>
 (AV.asSl r13.1).bind fun l14 =>
 (loopF (S := List AV × AH O) (T := List AV × AH O) (haymowref10_copied_L1 l14) ([(.i .i64 0)], r13.2)).bind fun r27 =>
 (r27.2.st (.n h.next) 1 [(.sl l14.1 l14.2)]).bind fun h28 =>
 let h29 := h28.bump 2
 let h30 := h29.put h28.next (.cells true 3 [])
 ldS h30 (.n h.next) 2 fun l32 =>
 (h30.rdSl l32.1 l32.2 1).bind fun new33 =>
 (bif (Nat.ble ((0 + l32.2) * 9) 35184372088832) then
 (h30.appSl (h28.next + 1) 3 1 (.loc (.n h28.next) 0 1) 0 l32.2 new33).bind fun r34 =>
 (AV.asSl r34.1).bind fun l35 =>
 (r34.2.st (.n h.next) 2 [(.sl l35.1 l35.2)]).bind fun h36 =>
 ldI h36 (.n h.next) 0 fun n38 =>
 ldS h36 (.n h.next) 1 fun l40 =>
 ldS h36 (.n h.next) 2 fun l42 =>
 ldI h36 (.n h.next) 3 fun n44 =>
 (h36.st (.n (h.next + 1)) 0 [(.i .i64 n38), (.sl l40.1 l40.2), (.sl l42.1 l42.2), (.i .i64 n44)]).bind fun h45 =>
 ldI h45 (.n (h.next + 1)) 0 fun n47 =>
 ldS h45 (.n (h.next + 1)) 1 fun l49 =>
 ldS h45 (.n (h.next + 1)) 2 fun l51 =>
 ldI h45 (.n (h.next + 1)) 3 fun n53 =>
 some ((.agg [(.i .i64 n47), (.sl l49.1 l49.2), (.sl l51.1 l51.2), (.i .i64 n53)]), h45)
 else none)
 else none)
 else none
def haymowref10_copied : Sm O := haymowref10_copied_c
theorem haymowref10_copied_ent : Entered Try.prog 130 := Try.call130
theorem haymowref10_copied_run : run (O := O) Try.prog [] Try.f130 (.n .z (.n .z (.n (.n .z (.n (.lp false 0 [(4, .one (.i .i64))] [] (.n (.n .z .z) (.n .z .z))) .z)) (.n .z (.n .z .z))))) = haymowref10_copied_c  := by kernel_rfl
theorem haymowref10_copied_sound : FSound RO Try.prog 130 haymowref10_copied := sdf haymowref10_copied_run (gnil) Try.func130 (by kernel_rfl)
def haymowref10_Take_c (k130 : Sm O) : Sm O := fun xs h =>
 bif Nat.beq xs.length 1 then
 (AV.asAgg 4 (xs.getD 0 .u)).bind fun c0 =>
 gtI c0 0 fun n1 =>
 gtS c0 1 fun l2 =>
 gtS c0 2 fun l3 =>
 gtI c0 3 fun n4 =>
 let h5 := h.bump 2
 let h6 := h5.put h.next (.cells true 31 [(.i .i64 n1), (.sl l2.1 l2.2), (.sl l3.1 l3.2), (.i .i64 n4)])
 let h7 := h6.put (h.next + 1) (.cells true 31 [(.i .i64 0), (.sl .nil 0), (.sl .nil 0), (.i .i64 0)])
 ldI h7 (.n h.next) 0 fun n9 =>
 ldS h7 (.n h.next) 1 fun l11 =>
 ldS h7 (.n h.next) 2 fun l13 =>
 ldI h7 (.n h.next) 3 fun n15 =>
 (k130 [(.agg [(.i .i64 n9), (.sl l11.1 l11.2), (.sl l13.1 l13.2), (.i .i64 n15)])] h7).bind fun r16 =>
 (AV.asAgg 4 r16.1).bind fun c17 =>
 gtI c17 0 fun n18 =>
 gtS c17 1 fun l19 =>
 gtS c17 2 fun l20 =>
 gtI c17 3 fun n21 =>
 (r16.2.st (.n h.next) 0 [(.i .i64 n18), (.sl l19.1 l19.2), (.sl l20.1 l20.2), (.i .i64 n21)]).bind fun h22 =>
 ldS h22 (.n h.next) 2 fun l24 =>
 (bif (decide ((l24.2 : Int) > 0)) then
 ldS h22 (.n h.next) 2 fun l26 =>
 (bif ((decide ((0 : Int) <= (IntKind.i64.wrap ((l24.2 : Int) - 1)))) && (decide ((IntKind.i64.wrap ((l24.2 : Int) - 1)) < (l26.2 : Int)))) then
 (SA.ref l26.1).bind fun q27 =>
 ldI h22 q27.1 (q27.2 + ((IntKind.i64.wrap ((l24.2 : Int) - 1)).toNat * 1)) fun n29 =>
 ldS h22 (.n h.next) 2 fun l31 =>
 (bif ((decide ((0 : Int) <= (IntKind.i64.wrap ((l24.2 : Int) - 1)))) && (decide ((IntKind.i64.wrap ((l24.2 : Int) - 1)) <= (l31.2 : Int)))) then
 (SA.adv l31.1 0 1).bind fun a32 =>
 (h22.st (.n h.next) 2 [(.sl a32 ((IntKind.i64.wrap ((l24.2 : Int) - 1)).toNat - 0))]).bind fun h33 =>
 ldS h33 (.n h.next) 1 fun l35 =>
 (bif ((decide ((0 : Int) <= (IntKind.i64.wrap (n29 - 1)))) && (decide ((IntKind.i64.wrap (n29 - 1)) < (l35.2 : Int)))) then
 (SA.ref l35.1).bind fun q36 =>
 (h33.st q36.1 (q36.2 + ((IntKind.i64.wrap (n29 - 1)).toNat * 3)) [(.b true)]).bind fun h37 =>
 let h38 := h37.bump 1
 ldS h38 (.n h.next) 1 fun l40 =>
 ldI h38 (.n h.next) 0 fun n42 =>
 (bif ((((decide ((0 : Int) <= n42)) && (decide (n42 <= n42))) && (decide ((n42 * 8) <= 140737488355328))) && (decide (n42 <= 140737488355328))) then
 let h43 := h38.put h37.next (.cells true 36 ((List.replicate n42.toNat [(.i .u64 0)]).flatten))
 (bif ((decide ((0 : Int) <= (IntKind.i64.wrap (n29 - 1)))) && (decide ((IntKind.i64.wrap (n29 - 1)) < (l40.2 : Int)))) then
 (SA.ref l40.1).bind fun q44 =>
 (h43.st q44.1 ((q44.2 + ((IntKind.i64.wrap (n29 - 1)).toNat * 3)) + 2) [(.sl (.loc (.n h37.next) 0 1) n42.toNat)]).bind fun h45 =>
 ldI h45 (.n h.next) 0 fun n47 =>
 ldS h45 (.n h.next) 1 fun l49 =>
 ldS h45 (.n h.next) 2 fun l51 =>
 ldI h45 (.n h.next) 3 fun n53 =>
 (h45.st (.n (h.next + 1)) 0 [(.i .i64 n47), (.sl l49.1 l49.2), (.sl l51.1 l51.2), (.i .i64 n53)]).bind fun h54 =>
 ldI h54 (.n (h.next + 1)) 0 fun n56 =>
 ldS h54 (.n (h.next + 1)) 1 fun l58 =>
 ldS h54 (.n (h.next + 1)) 2 fun l60 =>
 ldI h54 (.n (h.next + 1)) 3 fun n62 =>
 some ((.tup [(.agg [(.i .i64 n56), (.sl l58.1 l58.2), (.sl l60.1 l60.2), (.i .i64 n62)]), (.i .i64 n29)]), h54)
 else none)
 else none)
 else none)
 else none)
 else none)
 else ldS h22 (.n h.next) 1 fun l64 =>
 ldI h22 (.n h.next) 3 fun n66 =>
 ((bif (((l64.2 : Int) : Int) == n66) then
 ldI h22 (.n h.next) 3 fun n68 =>
 let v69 : Int := (if (IntKind.i64.wrap (2 * n68)) > 8 then (IntKind.i64.wrap (2 * n68)) else 8)
 (h22.st (.n h.next) 3 [(.i .i64 v69)]).bind fun h70 =>
 some ([], h70)
 else some ([], h22)) : Option (List AV × AH O)).bind fun r71 =>
 let h72 := r71.2.bump 3
 ldS h72 (.n h.next) 1 fun l74 =>
 ldI h72 (.n h.next) 0 fun n76 =>
 (bif ((((decide ((0 : Int) <= n76)) && (decide (n76 <= n76))) && (decide ((n76 * 8) <= 140737488355328))) && (decide (n76 <= 140737488355328))) then
 let h77 := h72.put r71.2.next (.cells true 36 ((List.replicate n76.toNat [(.i .u64 0)]).flatten))
 let h78 := h77.put (r71.2.next + 1) (.cells true 144 [(.b true), (.i .i64 0), (.sl (.loc (.n r71.2.next) 0 1) n76.toNat)])
 (h78.rdSl (.loc (.n (r71.2.next + 1)) 0 3) 1 3).bind fun new79 =>
 (bif (Nat.ble ((l74.2 + 1) * 41) 35184372088832) then
 (h78.appSl ((r71.2.next + 1) + 1) 144 3 l74.1 l74.2 1 new79).bind fun r80 =>
 (AV.asSl r80.1).bind fun l81 =>
 (r80.2.st (.n h.next) 1 [(.sl l81.1 l81.2)]).bind fun h82 =>
 ldI h82 (.n h.next) 0 fun n84 =>
 ldS h82 (.n h.next) 1 fun l86 =>
 ldS h82 (.n h.next) 2 fun l88 =>
 ldI h82 (.n h.next) 3 fun n90 =>
 ldS h82 (.n h.next) 1 fun l92 =>
 (h82.st (.n (h.next + 1)) 0 [(.i .i64 n84), (.sl l86.1 l86.2), (.sl l88.1 l88.2), (.i .i64 n90)]).bind fun h93 =>
 (chkE (h93.ld (.n h.next) 1) (some (.sl l92.1 l92.2))).bind fun _ =>
 ldI h93 (.n (h.next + 1)) 0 fun n95 =>
 ldS h93 (.n (h.next + 1)) 1 fun l97 =>
 ldS h93 (.n (h.next + 1)) 2 fun l99 =>
 ldI h93 (.n (h.next + 1)) 3 fun n101 =>
 some ((.tup [(.agg [(.i .i64 n95), (.sl l97.1 l97.2), (.sl l99.1 l99.2), (.i .i64 n101)]), (.i .i64 (l92.2 : Int))]), h93)
 else none)
 else none))
 else none
def haymowref10_Take : Sm O := frz (haymowref10_Take_c haymowref10_copied)
theorem haymowref10_Take_ent : Entered Try.prog 66 := Try.call66
theorem haymowref10_Take_run (k130 : Sm O) : run (O := O) Try.prog [(130, k130)] Try.f66 (.n .z (.n .z (.n (.n .z (.n .z (.n (.n .z (.n .z (.n .z (.n (.d [] [0, 1, 2, 3, 4, 5, 6, 7, 8, 9] [0, 1, 0, 4, 0, 16, 48, 127, 255, 511]) .z)))) .z))) (.n (.n .z (.j false [] .z .z)) (.n (.d [] [0, 1, 2, 3, 4, 5, 6, 7, 8, 9] [0, 1, 0, 4, 12, 28, 60, 127, 255, 511]) (.n (.d [] [0, 1, 2, 3, 4, 5] [0, 0, 2, 6, 1, 31]) .z)))))) = haymowref10_Take_c k130 := by kernel_rfl
theorem haymowref10_Take_sound : FSound RO Try.prog 66 (haymowref10_Take) :=
   have h : FSound RO Try.prog 66 (haymowref10_Take_c haymowref10_copied) := (haymowref10_Take_run haymowref10_copied) ▸ run_sound (gcons haymowref10_copied_ent (haymowref10_copied_sound) <| gnil) mixed Try.func66 (by kernel_rfl) _
   h.frz
def haymowref15_Add_c (k66 : Sm O) : Sm O := fun xs h =>
 bif Nat.beq xs.length 2 then
 (AV.asAgg 8 (xs.getD 0 .u)).bind fun c0 =>
 gtI c0 0 fun n1 =>
 gtS c0 1 fun l2 =>
 gtS c0 2 fun l3 =>
 gtI c0 3 fun n4 =>
 gtS c0 4 fun l5 =>
 gtS c0 5 fun l6 =>
 gtS c0 6 fun l7 =>
 gtI c0 7 fun n8 =>
 gtI xs 1 fun n9 =>
 let h10 := h.bump 2
 let h11 := h10.put h.next (.cells true 91 [(.i .i64 n1), (.sl l2.1 l2.2), (.sl l3.1 l3.2), (.i .i64 n4), (.sl l5.1 l5.2), (.sl l6.1 l6.2), (.sl l7.1 l7.2), (.i .i64 n8)])
 let h12 := h11.put (h.next + 1) (.cells true 91 [(.i .i64 0), (.sl .nil 0), (.sl .nil 0), (.i .i64 0), (.sl .nil 0), (.sl .nil 0), (.sl .nil 0), (.i .i64 0)])
 (bif (decide (n9 < 1)) then
 ldI h12 (.n h.next) 0 fun n14 =>
 ldS h12 (.n h.next) 1 fun l16 =>
 ldS h12 (.n h.next) 2 fun l18 =>
 ldI h12 (.n h.next) 3 fun n20 =>
 ldS h12 (.n h.next) 4 fun l22 =>
 ldS h12 (.n h.next) 5 fun l24 =>
 ldS h12 (.n h.next) 6 fun l26 =>
 ldI h12 (.n h.next) 7 fun n28 =>
 (h12.st (.n (h.next + 1)) 0 [(.i .i64 n14), (.sl l16.1 l16.2), (.sl l18.1 l18.2), (.i .i64 n20), (.sl l22.1 l22.2), (.sl l24.1 l24.2), (.sl l26.1 l26.2), (.i .i64 n28)]).bind fun h29 =>
 ldI h29 (.n (h.next + 1)) 0 fun n31 =>
 ldS h29 (.n (h.next + 1)) 1 fun l33 =>
 ldS h29 (.n (h.next + 1)) 2 fun l35 =>
 ldI h29 (.n (h.next + 1)) 3 fun n37 =>
 ldS h29 (.n (h.next + 1)) 4 fun l39 =>
 ldS h29 (.n (h.next + 1)) 5 fun l41 =>
 ldS h29 (.n (h.next + 1)) 6 fun l43 =>
 ldI h29 (.n (h.next + 1)) 7 fun n45 =>
 some ((.tup [(.agg [(.i .i64 n31), (.sl l33.1 l33.2), (.sl l35.1 l35.2), (.i .i64 n37), (.sl l39.1 l39.2), (.sl l41.1 l41.2), (.sl l43.1 l43.2), (.i .i64 n45)]), (.i .i64 0), (.i .i64 1)]), h29)
 else (bif (decide (n9 > 4194304)) then
 ldI h12 (.n h.next) 0 fun n47 =>
 ldS h12 (.n h.next) 1 fun l49 =>
 ldS h12 (.n h.next) 2 fun l51 =>
 ldI h12 (.n h.next) 3 fun n53 =>
 ldS h12 (.n h.next) 4 fun l55 =>
 ldS h12 (.n h.next) 5 fun l57 =>
 ldS h12 (.n h.next) 6 fun l59 =>
 ldI h12 (.n h.next) 7 fun n61 =>
 (h12.st (.n (h.next + 1)) 0 [(.i .i64 n47), (.sl l49.1 l49.2), (.sl l51.1 l51.2), (.i .i64 n53), (.sl l55.1 l55.2), (.sl l57.1 l57.2), (.sl l59.1 l59.2), (.i .i64 n61)]).bind fun h62 =>
 ldI h62 (.n (h.next + 1)) 0 fun n64 =>
 ldS h62 (.n (h.next + 1)) 1 fun l66 =>
 ldS h62 (.n (h.next + 1)) 2 fun l68 =>
 ldI h62 (.n (h.next + 1)) 3 fun n70 =>
 ldS h62 (.n (h.next + 1)) 4 fun l72 =>
 ldS h62 (.n (h.next + 1)) 5 fun l74 =>
 ldS h62 (.n (h.next + 1)) 6 fun l76 =>
 ldI h62 (.n (h.next + 1)) 7 fun n78 =>
 some ((.tup [(.agg [(.i .i64 n64), (.sl l66.1 l66.2), (.sl l68.1 l68.2), (.i .i64 n70), (.sl l72.1 l72.2), (.sl l74.1 l74.2), (.sl l76.1 l76.2), (.i .i64 n78)]), (.i .i64 0), (.i .i64 7)]), h62)
 else ldI h12 (.n h.next) 0 fun n80 =>
 ldS h12 (.n h.next) 1 fun l82 =>
 ldS h12 (.n h.next) 2 fun l84 =>
 ldI h12 (.n h.next) 3 fun n86 =>
 (k66 [(.agg [(.i .i64 n80), (.sl l82.1 l82.2), (.sl l84.1 l84.2), (.i .i64 n86)])] h12).bind fun r87 =>
 (AV.asTup 2 r87.1).bind fun c88 =>
 (AV.asAgg 4 (c88.getD 0 .u)).bind fun c89 =>
 gtI c89 0 fun n90 =>
 gtS c89 1 fun l91 =>
 gtS c89 2 fun l92 =>
 gtI c89 3 fun n93 =>
 gtI c88 1 fun n94 =>
 (r87.2.st (.n h.next) 0 [(.i .i64 n90), (.sl l91.1 l91.2), (.sl l92.1 l92.2), (.i .i64 n93)]).bind fun h95 =>
 let h96 := h95.bump 2
 let h97 := h96.put h95.next (.cells true 108 [])
 ldS h97 (.n h.next) 4 fun l99 =>
 (h97.rdSl l99.1 l99.2 1).bind fun new100 =>
 (bif (Nat.ble ((0 + l99.2) * 25) 35184372088832) then
 (h97.appSl (h95.next + 1) 108 1 (.loc (.n h95.next) 0 1) 0 l99.2 new100).bind fun r101 =>
 (AV.asSl r101.1).bind fun l102 =>
 ((bif (decide (n94 > (l102.2 : Int))) then
 let h103 := r101.2.bump 2
 let h104 := h103.put r101.2.next (.cells true 108 [(.sl .nil 0)])
 (h104.rdSl (.loc (.n r101.2.next) 0 1) 1 1).bind fun new105 =>
 (bif (Nat.ble ((l102.2 + 1) * 25) 35184372088832) then
 (h104.appSl (r101.2.next + 1) 108 1 l102.1 l102.2 1 new105).bind fun r106 =>
 (AV.asSl r106.1).bind fun l107 =>
 some ([(.sl l107.1 l107.2)], r106.2)
 else none)
 else some ([(.sl l102.1 l102.2)], r101.2)) : Option (List AV × AH O)).bind fun r108 =>
 (AV.asSl (r108.1.getD 0 .u)).bind fun l109 =>
 let h110 := r108.2.bump 1
 (bif ((((decide ((0 : Int) <= n9)) && (decide (n9 <= n9))) && (decide ((n9 * 8) <= 140737488355328))) && (decide (n9 <= 140737488355328))) then
 let h111 := h110.put r108.2.next (.cells true 36 ((List.replicate n9.toNat [(.i .u64 0)]).flatten))
 (bif ((decide ((0 : Int) <= (IntKind.i64.wrap (n94 - 1)))) && (decide ((IntKind.i64.wrap (n94 - 1)) < (l109.2 : Int)))) then
 (SA.ref l109.1).bind fun q112 =>
 (h111.st q112.1 (q112.2 + ((IntKind.i64.wrap (n94 - 1)).toNat * 1)) [(.sl (.loc (.n r108.2.next) 0 1) n9.toNat)]).bind fun h113 =>
 (h113.st (.n h.next) 4 [(.sl l109.1 l109.2)]).bind fun h114 =>
 let h115 := h114.bump 4
 let h116 := h115.put h114.next (.cells true 3 [])
 ldS h116 (.n h.next) 5 fun l118 =>
 (h116.rdSl l118.1 l118.2 1).bind fun new119 =>
 (bif (Nat.ble ((0 + l118.2) * 9) 35184372088832) then
 (h116.appSl (h114.next + 1) 3 1 (.loc (.n h114.next) 0 1) 0 l118.2 new119).bind fun r120 =>
 (AV.asSl r120.1).bind fun l121 =>
 let h122 := r120.2.put ((h114.next + 1) + 1) (.cells true 3 [(.i .i64 n94)])
 (h122.rdSl (.loc (.n ((h114.next + 1) + 1)) 0 1) 1 1).bind fun new123 =>
 (bif (Nat.ble ((l121.2 + 1) * 9) 35184372088832) then
 (h122.appSl (((h114.next + 1) + 1) + 1) 3 1 l121.1 l121.2 1 new123).bind fun r124 =>
 (AV.asSl r124.1).bind fun l125 =>
 (r124.2.st (.n h.next) 5 [(.sl l125.1 l125.2)]).bind fun h126 =>
 ldI h126 (.n h.next) 0 fun n128 =>
 ldS h126 (.n h.next) 1 fun l130 =>
 ldS h126 (.n h.next) 2 fun l132 =>
 ldI h126 (.n h.next) 3 fun n134 =>
 ldS h126 (.n h.next) 4 fun l136 =>
 ldS h126 (.n h.next) 5 fun l138 =>
 ldS h126 (.n h.next) 6 fun l140 =>
 ldI h126 (.n h.next) 7 fun n142 =>
 (h126.st (.n (h.next + 1)) 0 [(.i .i64 n128), (.sl l130.1 l130.2), (.sl l132.1 l132.2), (.i .i64 n134), (.sl l136.1 l136.2), (.sl l138.1 l138.2), (.sl l140.1 l140.2), (.i .i64 n142)]).bind fun h143 =>
 ldI h143 (.n (h.next + 1)) 0 fun n145 =>
 ldS h143 (.n (h.next + 1)) 1 fun l147 =>
 ldS h143 (.n (h.next + 1)) 2 fun l149 =>
 ldI h143 (.n (h.next + 1)) 3 fun n151 =>
 ldS h143 (.n (h.next + 1)) 4 fun l153 =>
 ldS h143 (.n (h.next + 1)) 5 fun l155 =>
 ldS h143 (.n (h.next + 1)) 6 fun l157 =>
 ldI h143 (.n (h.next + 1)) 7 fun n159 =>
 some ((.tup [(.agg [(.i .i64 n145), (.sl l147.1 l147.2), (.sl l149.1 l149.2), (.i .i64 n151), (.sl l153.1 l153.2), (.sl l155.1 l155.2), (.sl l157.1 l157.2), (.i .i64 n159)]), (.i .i64 n94), (.i .i64 0)]), h143)
 else none)
 else none)
 else none)
 else none)
 else none)))
 else none
def haymowref15_Add : Sm O := frz (haymowref15_Add_c haymowref10_Take)
theorem haymowref15_Add_ent : Entered Try.prog 93 := Try.call93
theorem haymowref15_Add_run (k66 : Sm O) : run (O := O) Try.prog [(66, k66)] Try.f93 (.n .z (.n (.n .z (.n .z .z)) (.n (.n .z (.n .z .z)) (.n .z (.n .z (.n .z (.n (.n .z (.j false [(8, .one .sl)] .z .z)) (.n .z (.n .z (.n .z .z)))))))))) = haymowref15_Add_c k66 := by kernel_rfl
theorem haymowref15_Add_sound : FSound RO Try.prog 93 (haymowref15_Add) :=
   have h : FSound RO Try.prog 93 (haymowref15_Add_c haymowref10_Take) := (haymowref15_Add_run haymowref10_Take) ▸ run_sound (gcons haymowref10_Take_ent (haymowref10_Take_sound) <| gnil) mixed Try.func93 (by kernel_rfl) _
   h.frz
def large_Large__Write_c (k79 k89 : Sm O) : Sm O := fun xs h =>
 bif Nat.beq xs.length 4 then
 (AV.asP (xs.getD 0 .u)).bind fun p0 =>
 gtI xs 1 fun n1 =>
 gtI xs 2 fun n2 =>
 gtU xs 3 fun n3 =>
 Option.bind p0 fun q4 =>
 ldP h q4.1 (q4.2 + 1) fun p6 =>
 (k79 [(.p p6), (.i .i64 n1), (.i .i64 0)] h).bind fun r7 =>
 (AV.asTup 2 r7.1).bind fun c8 =>
 gtU c8 0 fun n9 =>
 gtI c8 1 fun n10 =>
 (bif ((n10 : Int) != 0) then
 some ((.i .i64 n10), r7.2)
 else Option.bind p0 fun q11 =>
 ldP r7.2 q11.1 q11.2 fun p13 =>
 (k89 [(.p p13), (.i .i64 (IntKind.i64.wrap n9)), (.i .i64 n2), (.i .u64 n3)] r7.2).bind fun r14 =>
 (AV.asI .i64 r14.1).bind fun n15 =>
 some ((.i .i64 n15), r14.2))
 else none
def large_Large__Write : Sm O := large_Large__Write_c pool_Pool__Get mem_Mem__Write
theorem large_Large__Write_ent : Entered Try.prog 31 := Try.call31
theorem large_Large__Write_run (k79 k89 : Sm O) : run (O := O) Try.prog [(79, k79), (89, k89)] Try.f31 (.n .z (.n .z (.n (.n .z (.n .z .z)) .z))) = large_Large__Write_c k79 k89 := by kernel_rfl
theorem large_Large__Write_sound : FSound RO Try.prog 31 large_Large__Write := sdf (large_Large__Write_run _ _) (gcons pool_Pool__Get_ent pool_Pool__Get_sound <| gcons mem_Mem__Write_ent mem_Mem__Write_sound <| gnil) Try.func31 (by kernel_rfl)
def haymowref10_Is_c : Sm O := fun xs h =>
 bif Nat.beq xs.length 2 then
 (AV.asAgg 4 (xs.getD 0 .u)).bind fun c0 =>
 gtI c0 0 fun n1 =>
 gtS c0 1 fun l2 =>
 gtS c0 2 fun l3 =>
 gtI c0 3 fun n4 =>
 gtI xs 1 fun n5 =>
 let h6 := h.bump 1
 let h7 := h6.put h.next (.cells true 31 [(.i .i64 n1), (.sl l2.1 l2.2), (.sl l3.1 l3.2), (.i .i64 n4)])
 ((bif ((decide (n5 >= 1)) == true) then
 ldS h7 (.n h.next) 1 fun l9 =>
 some ([(.b (decide (n5 <= (l9.2 : Int))))], h7)
 else some ([(.b false)], h7)) : Option (List AV × AH O)).bind fun r10 =>
 (AV.asB (r10.1.getD 0 .u)).bind fun b11 =>
 ((bif (b11 == true) then
 ldS r10.2 (.n h.next) 1 fun l13 =>
 (bif ((decide ((0 : Int) <= (IntKind.i64.wrap (n5 - 1)))) && (decide ((IntKind.i64.wrap (n5 - 1)) < (l13.2 : Int)))) then
 (SA.ref l13.1).bind fun q14 =>
 (r10.2.ld q14.1 (q14.2 + ((IntKind.i64.wrap (n5 - 1)).toNat * 3))).bind fun w15 =>
 (AV.asB w15).bind fun b16 =>
 some ([(.b b16)], r10.2)
 else none)
 else some ([(.b false)], r10.2)) : Option (List AV × AH O)).bind fun r17 =>
 (AV.asB (r17.1.getD 0 .u)).bind fun b18 =>
 some ((.b b18), r17.2)
 else none
def haymowref10_Is : Sm O := haymowref10_Is_c
theorem haymowref10_Is_ent : Entered Try.prog 145 := Try.call145
theorem haymowref10_Is_run : run (O := O) Try.prog [] Try.f145 (.n .z (.n (.g [(2, 5, [(13, .one .b)]), (9, 7, [(22, .one .b)])]) .z)) = haymowref10_Is_c  := by kernel_rfl
theorem haymowref10_Is_sound : FSound RO Try.prog 145 haymowref10_Is := sdf haymowref10_Is_run (gnil) Try.func145 (by kernel_rfl)
def haymowref15_Is_c (k145 : Sm O) : Sm O := fun xs h =>
 bif Nat.beq xs.length 2 then
 (AV.asAgg 8 (xs.getD 0 .u)).bind fun c0 =>
 gtI c0 0 fun n1 =>
 gtS c0 1 fun l2 =>
 gtS c0 2 fun l3 =>
 gtI c0 3 fun n4 =>
 gtS c0 4 fun l5 =>
 gtS c0 5 fun l6 =>
 gtS c0 6 fun l7 =>
 gtI c0 7 fun n8 =>
 gtI xs 1 fun n9 =>
 let h10 := h.bump 1
 let h11 := h10.put h.next (.cells true 91 [(.i .i64 n1), (.sl l2.1 l2.2), (.sl l3.1 l3.2), (.i .i64 n4), (.sl l5.1 l5.2), (.sl l6.1 l6.2), (.sl l7.1 l7.2), (.i .i64 n8)])
 ldI h11 (.n h.next) 0 fun n13 =>
 ldS h11 (.n h.next) 1 fun l15 =>
 ldS h11 (.n h.next) 2 fun l17 =>
 ldI h11 (.n h.next) 3 fun n19 =>
 (k145 [(.agg [(.i .i64 n13), (.sl l15.1 l15.2), (.sl l17.1 l17.2), (.i .i64 n19)]), (.i .i64 n9)] h11).bind fun r20 =>
 (AV.asB r20.1).bind fun b21 =>
 some ((.b b21), r20.2)
 else none
def haymowref15_Is : Sm O := haymowref15_Is_c haymowref10_Is
theorem haymowref15_Is_ent : Entered Try.prog 97 := Try.call97
theorem haymowref15_Is_run (k145 : Sm O) : run (O := O) Try.prog [(145, k145)] Try.f97 (.n .z .z) = haymowref15_Is_c k145 := by kernel_rfl
theorem haymowref15_Is_sound : FSound RO Try.prog 97 haymowref15_Is := sdf (haymowref15_Is_run _) (gcons haymowref10_Is_ent haymowref10_Is_sound <| gnil) Try.func97 (by kernel_rfl)
def haymowref15_Wrong_c (k97 : Sm O) : Sm O := fun xs h =>
 bif Nat.beq xs.length 3 then
 (AV.asAgg 8 (xs.getD 0 .u)).bind fun c0 =>
 gtI c0 0 fun n1 =>
 gtS c0 1 fun l2 =>
 gtS c0 2 fun l3 =>
 gtI c0 3 fun n4 =>
 gtS c0 4 fun l5 =>
 gtS c0 5 fun l6 =>
 gtS c0 6 fun l7 =>
 gtI c0 7 fun n8 =>
 gtI xs 1 fun n9 =>
 gtI xs 2 fun n10 =>
 let h11 := h.bump 1
 let h12 := h11.put h.next (.cells true 91 [(.i .i64 n1), (.sl l2.1 l2.2), (.sl l3.1 l3.2), (.i .i64 n4), (.sl l5.1 l5.2), (.sl l6.1 l6.2), (.sl l7.1 l7.2), (.i .i64 n8)])
 ldI h12 (.n h.next) 0 fun n14 =>
 ldS h12 (.n h.next) 1 fun l16 =>
 ldS h12 (.n h.next) 2 fun l18 =>
 ldI h12 (.n h.next) 3 fun n20 =>
 ldS h12 (.n h.next) 4 fun l22 =>
 ldS h12 (.n h.next) 5 fun l24 =>
 ldS h12 (.n h.next) 6 fun l26 =>
 ldI h12 (.n h.next) 7 fun n28 =>
 (k97 [(.agg [(.i .i64 n14), (.sl l16.1 l16.2), (.sl l18.1 l18.2), (.i .i64 n20), (.sl l22.1 l22.2), (.sl l24.1 l24.2), (.sl l26.1 l26.2), (.i .i64 n28)]), (.i .i64 n9)] h12).bind fun r29 =>
 (AV.asB r29.1).bind fun b30 =>
 (bif (!b30) then
 some ((.i .i64 4), r29.2)
 else ((bif ((decide (n10 < 0)) == false) then
 ldS r29.2 (.n h.next) 4 fun l32 =>
 (bif ((decide ((0 : Int) <= (IntKind.i64.wrap (n9 - 1)))) && (decide ((IntKind.i64.wrap (n9 - 1)) < (l32.2 : Int)))) then
 (SA.ref l32.1).bind fun q33 =>
 ldS r29.2 q33.1 (q33.2 + ((IntKind.i64.wrap (n9 - 1)).toNat * 1)) fun l35 =>
 some ([(.b (decide (n10 >= (l35.2 : Int))))], r29.2)
 else none)
 else some ([(.b true)], r29.2)) : Option (List AV × AH O)).bind fun r36 =>
 (AV.asB (r36.1.getD 0 .u)).bind fun b37 =>
 (bif b37 then
 some ((.i .i64 11), r36.2)
 else some ((.i .i64 0), r36.2)))
 else none
def haymowref15_Wrong : Sm O := haymowref15_Wrong_c haymowref15_Is
theorem haymowref15_Wrong_ent : Entered Try.prog 95 := Try.call95
theorem haymowref15_Wrong_run (k97 : Sm O) : run (O := O) Try.prog [(97, k97)] Try.f95 (.n .z (.n (.n .z (.n .z .z)) (.n (.n (.g [(2, 9, [(23, .one .b)])]) (.n .z .z)) .z))) = haymowref15_Wrong_c k97 := by kernel_rfl
theorem haymowref15_Wrong_sound : FSound RO Try.prog 95 haymowref15_Wrong := sdf (haymowref15_Wrong_run _) (gcons haymowref15_Is_ent haymowref15_Is_sound <| gnil) Try.func95 (by kernel_rfl)
def haymowref15_Write_c (k95 : Sm O) : Sm O := fun xs h =>
 bif Nat.beq xs.length 4 then
 (AV.asAgg 8 (xs.getD 0 .u)).bind fun c0 =>
 gtI c0 0 fun n1 =>
 gtS c0 1 fun l2 =>
 gtS c0 2 fun l3 =>
 gtI c0 3 fun n4 =>
 gtS c0 4 fun l5 =>
 gtS c0 5 fun l6 =>
 gtS c0 6 fun l7 =>
 gtI c0 7 fun n8 =>
 gtI xs 1 fun n9 =>
 gtI xs 2 fun n10 =>
 gtU xs 3 fun n11 =>
 let h12 := h.bump 2
 let h13 := h12.put h.next (.cells true 91 [(.i .i64 n1), (.sl l2.1 l2.2), (.sl l3.1 l3.2), (.i .i64 n4), (.sl l5.1 l5.2), (.sl l6.1 l6.2), (.sl l7.1 l7.2), (.i .i64 n8)])
 let h14 := h13.put (h.next + 1) (.cells true 91 [(.i .i64 0), (.sl .nil 0), (.sl .nil 0), (.i .i64 0), (.sl .nil 0), (.sl .nil 0), (.sl .nil 0), (.i .i64 0)])
 ldI h14 (.n h.next) 0 fun n16 =>
 ldS h14 (.n h.next) 1 fun l18 =>
 ldS h14 (.n h.next) 2 fun l20 =>
 ldI h14 (.n h.next) 3 fun n22 =>
 ldS h14 (.n h.next) 4 fun l24 =>
 ldS h14 (.n h.next) 5 fun l26 =>
 ldS h14 (.n h.next) 6 fun l28 =>
 ldI h14 (.n h.next) 7 fun n30 =>
 (k95 [(.agg [(.i .i64 n16), (.sl l18.1 l18.2), (.sl l20.1 l20.2), (.i .i64 n22), (.sl l24.1 l24.2), (.sl l26.1 l26.2), (.sl l28.1 l28.2), (.i .i64 n30)]), (.i .i64 n9), (.i .i64 n10)] h14).bind fun r31 =>
 (AV.asI .i64 r31.1).bind fun n32 =>
 (bif ((n32 : Int) != 0) then
 ldI r31.2 (.n h.next) 0 fun n34 =>
 ldS r31.2 (.n h.next) 1 fun l36 =>
 ldS r31.2 (.n h.next) 2 fun l38 =>
 ldI r31.2 (.n h.next) 3 fun n40 =>
 ldS r31.2 (.n h.next) 4 fun l42 =>
 ldS r31.2 (.n h.next) 5 fun l44 =>
 ldS r31.2 (.n h.next) 6 fun l46 =>
 ldI r31.2 (.n h.next) 7 fun n48 =>
 (r31.2.st (.n (h.next + 1)) 0 [(.i .i64 n34), (.sl l36.1 l36.2), (.sl l38.1 l38.2), (.i .i64 n40), (.sl l42.1 l42.2), (.sl l44.1 l44.2), (.sl l46.1 l46.2), (.i .i64 n48)]).bind fun h49 =>
 ldI h49 (.n (h.next + 1)) 0 fun n51 =>
 ldS h49 (.n (h.next + 1)) 1 fun l53 =>
 ldS h49 (.n (h.next + 1)) 2 fun l55 =>
 ldI h49 (.n (h.next + 1)) 3 fun n57 =>
 ldS h49 (.n (h.next + 1)) 4 fun l59 =>
 ldS h49 (.n (h.next + 1)) 5 fun l61 =>
 ldS h49 (.n (h.next + 1)) 6 fun l63 =>
 ldI h49 (.n (h.next + 1)) 7 fun n65 =>
 some ((.tup [(.agg [(.i .i64 n51), (.sl l53.1 l53.2), (.sl l55.1 l55.2), (.i .i64 n57), (.sl l59.1 l59.2), (.sl l61.1 l61.2), (.sl l63.1 l63.2), (.i .i64 n65)]), (.i .i64 n32)]), h49)
 else let h66 := r31.2.bump 2
 let h67 := h66.put r31.2.next (.cells true 108 [])
 ldS h67 (.n h.next) 4 fun l69 =>
 (h67.rdSl l69.1 l69.2 1).bind fun new70 =>
 (bif (Nat.ble ((0 + l69.2) * 25) 35184372088832) then
 (h67.appSl (r31.2.next + 1) 108 1 (.loc (.n r31.2.next) 0 1) 0 l69.2 new70).bind fun r71 =>
 (AV.asSl r71.1).bind fun l72 =>
 let h73 := r71.2.bump 2
 let h74 := h73.put r71.2.next (.cells true 36 [])
 (bif ((decide ((0 : Int) <= (IntKind.i64.wrap (n9 - 1)))) && (decide ((IntKind.i64.wrap (n9 - 1)) < (l72.2 : Int)))) then
 (SA.ref l72.1).bind fun q75 =>
 ldS h74 q75.1 (q75.2 + ((IntKind.i64.wrap (n9 - 1)).toNat * 1)) fun l77 =>
 (h74.rdSl l77.1 l77.2 1).bind fun new78 =>
 (bif (Nat.ble ((0 + l77.2) * 9) 35184372088832) then
 (h74.appSl (r71.2.next + 1) 36 1 (.loc (.n r71.2.next) 0 1) 0 l77.2 new78).bind fun r79 =>
 (AV.asSl r79.1).bind fun l80 =>
 (bif ((decide ((0 : Int) <= (IntKind.i64.wrap (n9 - 1)))) && (decide ((IntKind.i64.wrap (n9 - 1)) < (l72.2 : Int)))) then
 (SA.ref l72.1).bind fun q81 =>
 (r79.2.st q81.1 (q81.2 + ((IntKind.i64.wrap (n9 - 1)).toNat * 1)) [(.sl l80.1 l80.2)]).bind fun h82 =>
 (bif ((decide ((0 : Int) <= (IntKind.i64.wrap (n9 - 1)))) && (decide ((IntKind.i64.wrap (n9 - 1)) < (l72.2 : Int)))) then
 (SA.ref l72.1).bind fun q83 =>
 ldS h82 q83.1 (q83.2 + ((IntKind.i64.wrap (n9 - 1)).toNat * 1)) fun l85 =>
 (bif ((decide ((0 : Int) <= n10)) && (decide (n10 < (l85.2 : Int)))) then
 (SA.ref l85.1).bind fun q86 =>
 (h82.st q86.1 (q86.2 + (n10.toNat * 1)) [(.i .u64 n11)]).bind fun h87 =>
 (h87.st (.n h.next) 4 [(.sl l72.1 l72.2)]).bind fun h88 =>
 ldI h88 (.n h.next) 0 fun n90 =>
 ldS h88 (.n h.next) 1 fun l92 =>
 ldS h88 (.n h.next) 2 fun l94 =>
 ldI h88 (.n h.next) 3 fun n96 =>
 ldS h88 (.n h.next) 4 fun l98 =>
 ldS h88 (.n h.next) 5 fun l100 =>
 ldS h88 (.n h.next) 6 fun l102 =>
 ldI h88 (.n h.next) 7 fun n104 =>
 (h88.st (.n (h.next + 1)) 0 [(.i .i64 n90), (.sl l92.1 l92.2), (.sl l94.1 l94.2), (.i .i64 n96), (.sl l98.1 l98.2), (.sl l100.1 l100.2), (.sl l102.1 l102.2), (.i .i64 n104)]).bind fun h105 =>
 ldI h105 (.n (h.next + 1)) 0 fun n107 =>
 ldS h105 (.n (h.next + 1)) 1 fun l109 =>
 ldS h105 (.n (h.next + 1)) 2 fun l111 =>
 ldI h105 (.n (h.next + 1)) 3 fun n113 =>
 ldS h105 (.n (h.next + 1)) 4 fun l115 =>
 ldS h105 (.n (h.next + 1)) 5 fun l117 =>
 ldS h105 (.n (h.next + 1)) 6 fun l119 =>
 ldI h105 (.n (h.next + 1)) 7 fun n121 =>
 some ((.tup [(.agg [(.i .i64 n107), (.sl l109.1 l109.2), (.sl l111.1 l111.2), (.i .i64 n113), (.sl l115.1 l115.2), (.sl l117.1 l117.2), (.sl l119.1 l119.2), (.i .i64 n121)]), (.i .i64 0)]), h105)
 else none)
 else none)
 else none)
 else none)
 else none)
 else none))
 else none
def haymowref15_Write : Sm O := frz (haymowref15_Write_c haymowref15_Wrong)
theorem haymowref15_Write_ent : Entered Try.prog 94 := Try.call94
theorem haymowref15_Write_run (k95 : Sm O) : run (O := O) Try.prog [(95, k95)] Try.f94 (.n .z (.n (.n .z (.n .z (.n .z .z))) (.n .z (.n .z (.n .z (.n .z .z)))))) = haymowref15_Write_c k95 := by kernel_rfl
theorem haymowref15_Write_sound : FSound RO Try.prog 94 (haymowref15_Write) :=
   have h : FSound RO Try.prog 94 (haymowref15_Write_c haymowref15_Wrong) := (haymowref15_Write_run haymowref15_Wrong) ▸ run_sound (gcons haymowref15_Wrong_ent (haymowref15_Wrong_sound) <| gnil) mixed Try.func94 (by kernel_rfl) _
   h.frz
def large_Large__Read_c (k79 k92 : Sm O) : Sm O := fun xs h =>
 bif Nat.beq xs.length 3 then
 (AV.asP (xs.getD 0 .u)).bind fun p0 =>
 gtI xs 1 fun n1 =>
 gtI xs 2 fun n2 =>
 Option.bind p0 fun q3 =>
 ldP h q3.1 (q3.2 + 1) fun p5 =>
 (k79 [(.p p5), (.i .i64 n1), (.i .i64 0)] h).bind fun r6 =>
 (AV.asTup 2 r6.1).bind fun c7 =>
 gtU c7 0 fun n8 =>
 gtI c7 1 fun n9 =>
 (bif ((n9 : Int) != 0) then
 some ((.tup [(.i .u64 0), (.i .i64 n9)]), r6.2)
 else Option.bind p0 fun q10 =>
 ldP r6.2 q10.1 q10.2 fun p12 =>
 (k92 [(.p p12), (.i .i64 (IntKind.i64.wrap n8)), (.i .i64 n2)] r6.2).bind fun r13 =>
 (AV.asTup 2 r13.1).bind fun c14 =>
 gtU c14 0 fun n15 =>
 gtI c14 1 fun n16 =>
 some ((.tup [(.i .u64 n15), (.i .i64 n16)]), r13.2))
 else none
def large_Large__Read : Sm O := large_Large__Read_c pool_Pool__Get mem_Mem__Read
theorem large_Large__Read_ent : Entered Try.prog 37 := Try.call37
theorem large_Large__Read_run (k79 k92 : Sm O) : run (O := O) Try.prog [(79, k79), (92, k92)] Try.f37 (.n .z (.n .z (.n (.n .z (.n .z .z)) .z))) = large_Large__Read_c k79 k92 := by kernel_rfl
theorem large_Large__Read_sound : FSound RO Try.prog 37 large_Large__Read := sdf (large_Large__Read_run _ _) (gcons pool_Pool__Get_ent pool_Pool__Get_sound <| gcons mem_Mem__Read_ent mem_Mem__Read_sound <| gnil) Try.func37 (by kernel_rfl)
def haymowref15_Begin_c : Sm O := fun xs h =>
 bif Nat.beq xs.length 1 then
 (AV.asAgg 8 (xs.getD 0 .u)).bind fun c0 =>
 gtI c0 0 fun n1 =>
 gtS c0 1 fun l2 =>
 gtS c0 2 fun l3 =>
 gtI c0 3 fun n4 =>
 gtS c0 4 fun l5 =>
 gtS c0 5 fun l6 =>
 gtS c0 6 fun l7 =>
 gtI c0 7 fun n8 =>
 let h9 := h.bump 2
 let h10 := h9.put h.next (.cells true 91 [(.i .i64 n1), (.sl l2.1 l2.2), (.sl l3.1 l3.2), (.i .i64 n4), (.sl l5.1 l5.2), (.sl l6.1 l6.2), (.sl l7.1 l7.2), (.i .i64 n8)])
 let h11 := h10.put (h.next + 1) (.cells true 91 [(.i .i64 0), (.sl .nil 0), (.sl .nil 0), (.i .i64 0), (.sl .nil 0), (.sl .nil 0), (.sl .nil 0), (.i .i64 0)])
 let h12 := h11.bump 3
 ldS h12 (.n h.next) 6 fun l14 =>
 ldS h12 (.n h.next) 5 fun l16 =>
 let h17 := h12.put h11.next (.cells true 3 [])
 (h17.rdSl l14.1 l14.2 1).bind fun new18 =>
 (bif (Nat.ble ((0 + l14.2) * 9) 35184372088832) then
 (h17.appSl (h11.next + 1) 3 1 (.loc (.n h11.next) 0 1) 0 l14.2 new18).bind fun r19 =>
 (AV.asSl r19.1).bind fun l20 =>
 (chkE (r19.2.ld (.n h.next) 5) (some (.sl l16.1 l16.2))).bind fun _ =>
 (r19.2.rdSl l16.1 l16.2 1).bind fun new21 =>
 (bif (Nat.ble ((l20.2 + l16.2) * 9) 35184372088832) then
 (r19.2.appSl ((h11.next + 1) + 1) 3 1 l20.1 l20.2 l16.2 new21).bind fun r22 =>
 (AV.asSl r22.1).bind fun l23 =>
 (r22.2.st (.n h.next) 6 [(.sl l23.1 l23.2)]).bind fun h24 =>
 (h24.st (.n h.next) 5 [(.sl .nil 0)]).bind fun h25 =>
 (h25.st (.n h.next) 7 [(.i .i64 0)]).bind fun h26 =>
 ldI h26 (.n h.next) 0 fun n28 =>
 ldS h26 (.n h.next) 1 fun l30 =>
 ldS h26 (.n h.next) 2 fun l32 =>
 ldI h26 (.n h.next) 3 fun n34 =>
 ldS h26 (.n h.next) 4 fun l36 =>
 ldS h26 (.n h.next) 5 fun l38 =>
 ldS h26 (.n h.next) 6 fun l40 =>
 ldI h26 (.n h.next) 7 fun n42 =>
 (h26.st (.n (h.next + 1)) 0 [(.i .i64 n28), (.sl l30.1 l30.2), (.sl l32.1 l32.2), (.i .i64 n34), (.sl l36.1 l36.2), (.sl l38.1 l38.2), (.sl l40.1 l40.2), (.i .i64 n42)]).bind fun h43 =>
 ldI h43 (.n (h.next + 1)) 0 fun n45 =>
 ldS h43 (.n (h.next + 1)) 1 fun l47 =>
 ldS h43 (.n (h.next + 1)) 2 fun l49 =>
 ldI h43 (.n (h.next + 1)) 3 fun n51 =>
 ldS h43 (.n (h.next + 1)) 4 fun l53 =>
 ldS h43 (.n (h.next + 1)) 5 fun l55 =>
 ldS h43 (.n (h.next + 1)) 6 fun l57 =>
 ldI h43 (.n (h.next + 1)) 7 fun n59 =>
 some ((.agg [(.i .i64 n45), (.sl l47.1 l47.2), (.sl l49.1 l49.2), (.i .i64 n51), (.sl l53.1 l53.2), (.sl l55.1 l55.2), (.sl l57.1 l57.2), (.i .i64 n59)]), h43)
 else none)
 else none)
 else none
def haymowref15_Begin : Sm O := frz (haymowref15_Begin_c)
theorem haymowref15_Begin_ent : Entered Try.prog 96 := Try.call96
theorem haymowref15_Begin_run : run (O := O) Try.prog [] Try.f96 (.n .z (.n (.d [] [1, 2, 4, 5, 0, 3, 6, 7, 8] [0, 0, 2, 7, 0, 16, 63, 127, 255]) (.n .z .z))) = haymowref15_Begin_c  := by kernel_rfl
theorem haymowref15_Begin_sound : FSound RO Try.prog 96 (haymowref15_Begin) :=
   have h : FSound RO Try.prog 96 (haymowref15_Begin_c) := (haymowref15_Begin_run) ▸ run_sound (gnil) mixed Try.func96 (by kernel_rfl) _
   h.frz
def haymowref15_Has_L1 (l0 : SA × Nat) (n1 : Int) : List AV × AH O -> Option ((List AV × AH O) ⊕ ((List AV × AH O) ⊕ (AV × AH O))) := (fun r2 =>
 (AV.asI .i64 (r2.1.getD 0 .u)).bind fun n3 =>
 (bif (decide (n3 < (l0.2 : Int))) then
 (bif ((decide ((0 : Int) <= n3)) && (decide (n3 < (l0.2 : Int)))) then
 (SA.ref l0.1).bind fun q4 =>
 ldI r2.2 q4.1 (q4.2 + (n3.toNat * 1)) fun n6 =>
 (bif ((n6 : Int) == n1) then
 ((some ((.b true), r2.2) : Option (AV × AH O)).map fun r => Sum.inr (Sum.inr r))
 else some (Sum.inl ([(.i .i64 (IntKind.i64.wrap (n3 + 1)))], r2.2)))
 else none)
 else some (Sum.inr (Sum.inl ([], r2.2)))))
def haymowref15_Has_c : Sm O := fun xs h =>
 bif Nat.beq xs.length 2 then
 gtS xs 0 fun l0 =>
 gtI xs 1 fun n1 =>
 bindS (S := List AV × AH O) (R := (AV × AH O)) (loopF (S := List AV × AH O) (T := (List AV × AH O) ⊕ (AV × AH O)) (haymowref15_Has_L1 l0 n1) ([(.i .i64 0)], h)) fun r7 =>
 some ((.b false), r7.2)
 else none
def haymowref15_Has : Sm O := haymowref15_Has_c
theorem haymowref15_Has_ent : Entered Try.prog 33 := Try.call33
theorem haymowref15_Has_run : run (O := O) Try.prog [] Try.f33 (.n .z (.n (.n .z (.n (.lp true 0 [(5, .one (.i .i64))] [] (.n (.n .z .z) (.n (.n (.n .z (.n .z .z)) .z) .z))) .z)) .z)) = haymowref15_Has_c  := by kernel_rfl
theorem haymowref15_Has_sound : FSound RO Try.prog 33 haymowref15_Has := sdf haymowref15_Has_run (gnil) Try.func33 (by kernel_rfl)
def haymowref15_Mark_L1 (h : AH O) (n9 : Int) : List AV × AH O -> Option ((List AV × AH O) ⊕ (List AV × AH O)) := (fun r50 =>
 (AV.asSl (r50.1.getD 0 .u)).bind fun l51 =>
 (AV.asI .i64 (r50.1.getD 1 .u)).bind fun n52 =>
 ldS r50.2 (.n h.next) 6 fun l54 =>
 (bif (decide (n52 < (l54.2 : Int))) then
 ldS r50.2 (.n h.next) 6 fun l56 =>
 (bif ((decide ((0 : Int) <= n52)) && (decide (n52 < (l56.2 : Int)))) then
 (SA.ref l56.1).bind fun q57 =>
 ldI r50.2 q57.1 (q57.2 + (n52.toNat * 1)) fun n59 =>
 ((bif ((n59 : Int) != n9) then
 let h60 := r50.2.bump 2
 ldS h60 (.n h.next) 6 fun l62 =>
 (bif ((decide ((0 : Int) <= n52)) && (decide (n52 < (l62.2 : Int)))) then
 (SA.ref l62.1).bind fun q63 =>
 ldI h60 q63.1 (q63.2 + (n52.toNat * 1)) fun n65 =>
 let h66 := h60.put r50.2.next (.cells true 3 [(.i .i64 n65)])
 (h66.rdSl (.loc (.n r50.2.next) 0 1) 1 1).bind fun new67 =>
 (bif (Nat.ble ((l51.2 + 1) * 9) 35184372088832) then
 (h66.appSl (r50.2.next + 1) 3 1 l51.1 l51.2 1 new67).bind fun r68 =>
 (AV.asSl r68.1).bind fun l69 =>
 some ([(.sl l69.1 l69.2)], r68.2)
 else none)
 else none)
 else some ([(.sl l51.1 l51.2)], r50.2)) : Option (List AV × AH O)).bind fun r70 =>
 (AV.asSl (r70.1.getD 0 .u)).bind fun l71 =>
 some (Sum.inl ([(.sl l71.1 l71.2), (.i .i64 (IntKind.i64.wrap (n52 + 1)))], r70.2))
 else none)
 else some (Sum.inr ([(.sl l51.1 l51.2)], r50.2))))
def haymowref15_Mark_c (k33 : Sm O) : Sm O := fun xs h =>
 bif Nat.beq xs.length 2 then
 (AV.asAgg 8 (xs.getD 0 .u)).bind fun c0 =>
 gtI c0 0 fun n1 =>
 gtS c0 1 fun l2 =>
 gtS c0 2 fun l3 =>
 gtI c0 3 fun n4 =>
 gtS c0 4 fun l5 =>
 gtS c0 5 fun l6 =>
 gtS c0 6 fun l7 =>
 gtI c0 7 fun n8 =>
 gtI xs 1 fun n9 =>
 let h10 := h.bump 2
 let h11 := h10.put h.next (.cells true 91 [(.i .i64 n1), (.sl l2.1 l2.2), (.sl l3.1 l3.2), (.i .i64 n4), (.sl l5.1 l5.2), (.sl l6.1 l6.2), (.sl l7.1 l7.2), (.i .i64 n8)])
 let h12 := h11.put (h.next + 1) (.cells true 91 [(.i .i64 0), (.sl .nil 0), (.sl .nil 0), (.i .i64 0), (.sl .nil 0), (.sl .nil 0), (.sl .nil 0), (.i .i64 0)])
 ldS h12 (.n h.next) 5 fun l14 =>
 (k33 [(.sl l14.1 l14.2), (.i .i64 n9)] h12).bind fun r15 =>
 (AV.asB r15.1).bind fun b16 =>
 (bif b16 then
 ldI r15.2 (.n h.next) 0 fun n18 =>
 ldS r15.2 (.n h.next) 1 fun l20 =>
 ldS r15.2 (.n h.next) 2 fun l22 =>
 ldI r15.2 (.n h.next) 3 fun n24 =>
 ldS r15.2 (.n h.next) 4 fun l26 =>
 ldS r15.2 (.n h.next) 5 fun l28 =>
 ldS r15.2 (.n h.next) 6 fun l30 =>
 ldI r15.2 (.n h.next) 7 fun n32 =>
 (r15.2.st (.n (h.next + 1)) 0 [(.i .i64 n18), (.sl l20.1 l20.2), (.sl l22.1 l22.2), (.i .i64 n24), (.sl l26.1 l26.2), (.sl l28.1 l28.2), (.sl l30.1 l30.2), (.i .i64 n32)]).bind fun h33 =>
 ldI h33 (.n (h.next + 1)) 0 fun n35 =>
 ldS h33 (.n (h.next + 1)) 1 fun l37 =>
 ldS h33 (.n (h.next + 1)) 2 fun l39 =>
 ldI h33 (.n (h.next + 1)) 3 fun n41 =>
 ldS h33 (.n (h.next + 1)) 4 fun l43 =>
 ldS h33 (.n (h.next + 1)) 5 fun l45 =>
 ldS h33 (.n (h.next + 1)) 6 fun l47 =>
 ldI h33 (.n (h.next + 1)) 7 fun n49 =>
 some ((.tup [(.agg [(.i .i64 n35), (.sl l37.1 l37.2), (.sl l39.1 l39.2), (.i .i64 n41), (.sl l43.1 l43.2), (.sl l45.1 l45.2), (.sl l47.1 l47.2), (.i .i64 n49)]), (.b false)]), h33)
 else (loopF (S := List AV × AH O) (T := List AV × AH O) (haymowref15_Mark_L1 h n9) ([(.sl .nil 0), (.i .i64 0)], r15.2)).bind fun r72 =>
 (AV.asSl (r72.1.getD 0 .u)).bind fun l73 =>
 (r72.2.st (.n h.next) 6 [(.sl l73.1 l73.2)]).bind fun h74 =>
 let h75 := h74.bump 4
 let h76 := h75.put h74.next (.cells true 3 [])
 ldS h76 (.n h.next) 5 fun l78 =>
 (h76.rdSl l78.1 l78.2 1).bind fun new79 =>
 (bif (Nat.ble ((0 + l78.2) * 9) 35184372088832) then
 (h76.appSl (h74.next + 1) 3 1 (.loc (.n h74.next) 0 1) 0 l78.2 new79).bind fun r80 =>
 (AV.asSl r80.1).bind fun l81 =>
 let h82 := r80.2.put ((h74.next + 1) + 1) (.cells true 3 [(.i .i64 n9)])
 (h82.rdSl (.loc (.n ((h74.next + 1) + 1)) 0 1) 1 1).bind fun new83 =>
 (bif (Nat.ble ((l81.2 + 1) * 9) 35184372088832) then
 (h82.appSl (((h74.next + 1) + 1) + 1) 3 1 l81.1 l81.2 1 new83).bind fun r84 =>
 (AV.asSl r84.1).bind fun l85 =>
 (r84.2.st (.n h.next) 5 [(.sl l85.1 l85.2)]).bind fun h86 =>
 ldI h86 (.n h.next) 0 fun n88 =>
 ldS h86 (.n h.next) 1 fun l90 =>
 ldS h86 (.n h.next) 2 fun l92 =>
 ldI h86 (.n h.next) 3 fun n94 =>
 ldS h86 (.n h.next) 4 fun l96 =>
 ldS h86 (.n h.next) 5 fun l98 =>
 ldS h86 (.n h.next) 6 fun l100 =>
 ldI h86 (.n h.next) 7 fun n102 =>
 (h86.st (.n (h.next + 1)) 0 [(.i .i64 n88), (.sl l90.1 l90.2), (.sl l92.1 l92.2), (.i .i64 n94), (.sl l96.1 l96.2), (.sl l98.1 l98.2), (.sl l100.1 l100.2), (.i .i64 n102)]).bind fun h103 =>
 ldI h103 (.n (h.next + 1)) 0 fun n105 =>
 ldS h103 (.n (h.next + 1)) 1 fun l107 =>
 ldS h103 (.n (h.next + 1)) 2 fun l109 =>
 ldI h103 (.n (h.next + 1)) 3 fun n111 =>
 ldS h103 (.n (h.next + 1)) 4 fun l113 =>
 ldS h103 (.n (h.next + 1)) 5 fun l115 =>
 ldS h103 (.n (h.next + 1)) 6 fun l117 =>
 ldI h103 (.n (h.next + 1)) 7 fun n119 =>
 some ((.tup [(.agg [(.i .i64 n105), (.sl l107.1 l107.2), (.sl l109.1 l109.2), (.i .i64 n111), (.sl l113.1 l113.2), (.sl l115.1 l115.2), (.sl l117.1 l117.2), (.i .i64 n119)]), (.b true)]), h103)
 else none)
 else none))
 else none
def haymowref15_Mark : Sm O := frz (haymowref15_Mark_c haymowref15_Has)
theorem haymowref15_Mark_ent : Entered Try.prog 98 := Try.call98
theorem haymowref15_Mark_run (k33 : Sm O) : run (O := O) Try.prog [(33, k33)] Try.f98 (.n .z (.n (.n .z (.n .z .z)) (.n .z (.n (.n .z (.n (.lp false 0 [(6, .one .sl), (7, .one (.i .i64))] [(6, .one .sl)] (.n (.n .z .z) (.n (.n (.n .z (.j false [(6, .one .sl)] .z .z)) .z) .z))) .z)) (.n .z (.n .z .z)))))) = haymowref15_Mark_c k33 := by kernel_rfl
theorem haymowref15_Mark_sound : FSound RO Try.prog 98 (haymowref15_Mark) :=
   have h : FSound RO Try.prog 98 (haymowref15_Mark_c haymowref15_Has) := (haymowref15_Mark_run haymowref15_Has) ▸ run_sound (gcons haymowref15_Has_ent (haymowref15_Has_sound) <| gnil) mixed Try.func98 (by kernel_rfl) _
   h.frz
def large_Large__Grey_c (k84 k88 : Sm O) : Sm O := fun xs h =>
 bif Nat.beq xs.length 1 then
 (AV.asP (xs.getD 0 .u)).bind fun p0 =>
 Option.bind p0 fun q1 =>
 ldI h q1.1 (q1.2 + 2) fun n3 =>
 Option.bind p0 fun q4 =>
 ldI h q4.1 (q4.2 + 9) fun n6 =>
 ((bif ((n6 : Int) != 0) then
 Option.bind p0 fun q7 =>
 ldI h q7.1 (q7.2 + 9) fun n9 =>
 (k84 [(.p p0)] h).bind fun r10 =>
 (AV.asAgg 5 r10.1).bind fun c11 =>
 (AV.asP (c11.getD 0 .u)).bind fun p12 =>
 gtI c11 1 fun n13 =>
 gtI c11 2 fun n14 =>
 gtI c11 3 fun n15 =>
 gtI c11 4 fun n16 =>
 (chkE (r10.2.ld q7.1 (q7.2 + 9)) (some (.i .i64 n9))).bind fun _ =>
 (k88 [(.agg [(.p p12), (.i .i64 n13), (.i .i64 n14), (.i .i64 n15), (.i .i64 n16)]), (.i .i64 n9)] r10.2).bind fun r17 =>
 (AV.asTup 2 r17.1).bind fun c18 =>
 gtI c18 0 fun n19 =>
 gtI c18 1 fun n20 =>
 some ([(.i .i64 n19)], r17.2)
 else some ([(.i .i64 n3)], h)) : Option (List AV × AH O)).bind fun r21 =>
 (AV.asI .i64 (r21.1.getD 0 .u)).bind fun n22 =>
 (bif ((n22 : Int) == 0) then
 some ((.tup [(.i .i64 0), (.b false)]), r21.2)
 else Option.bind p0 fun q23 =>
 (r21.2.st q23.1 (q23.2 + 9) [(.i .i64 n22)]).bind fun h24 =>
 some ((.tup [(.i .i64 n22), (.b true)]), h24))
 else none
def large_Large__Grey : Sm O := large_Large__Grey_c large_Large__table chain_Table__After
theorem large_Large__Grey_ent : Entered Try.prog 30 := Try.call30
theorem large_Large__Grey_run (k84 k88 : Sm O) : run (O := O) Try.prog [(84, k84), (88, k88)] Try.f30 (.n .z (.n .z (.n (.n .z (.j false [(4, .one (.i .i64))] (.d [] [0, 2, 3, 4, 5, 1, 6, 7, 8, 9, 10] [0, 1, 0, 4, 12, 28, 63, 127, 255, 255, 511]) .z)) (.n (.n .z (.n .z .z)) (.n .z .z))))) = large_Large__Grey_c k84 k88 := by kernel_rfl
theorem large_Large__Grey_sound : FSound RO Try.prog 30 large_Large__Grey := sdf (large_Large__Grey_run _ _) (gcons large_Large__table_ent large_Large__table_sound <| gcons chain_Table__After_ent chain_Table__After_sound <| gnil) Try.func30 (by kernel_rfl)
def haymowref15_Grey_c : Sm O := fun xs h =>
 bif Nat.beq xs.length 1 then
 (AV.asAgg 8 (xs.getD 0 .u)).bind fun c0 =>
 gtI c0 0 fun n1 =>
 gtS c0 1 fun l2 =>
 gtS c0 2 fun l3 =>
 gtI c0 3 fun n4 =>
 gtS c0 4 fun l5 =>
 gtS c0 5 fun l6 =>
 gtS c0 6 fun l7 =>
 gtI c0 7 fun n8 =>
 let h9 := h.bump 2
 let h10 := h9.put h.next (.cells true 91 [(.i .i64 n1), (.sl l2.1 l2.2), (.sl l3.1 l3.2), (.i .i64 n4), (.sl l5.1 l5.2), (.sl l6.1 l6.2), (.sl l7.1 l7.2), (.i .i64 n8)])
 let h11 := h10.put (h.next + 1) (.cells true 91 [(.i .i64 0), (.sl .nil 0), (.sl .nil 0), (.i .i64 0), (.sl .nil 0), (.sl .nil 0), (.sl .nil 0), (.i .i64 0)])
 ldI h11 (.n h.next) 7 fun n13 =>
 ldS h11 (.n h.next) 5 fun l15 =>
 (bif (decide (n13 >= (l15.2 : Int))) then
 ldI h11 (.n h.next) 0 fun n17 =>
 ldS h11 (.n h.next) 1 fun l19 =>
 ldS h11 (.n h.next) 2 fun l21 =>
 ldI h11 (.n h.next) 3 fun n23 =>
 ldS h11 (.n h.next) 4 fun l25 =>
 ldS h11 (.n h.next) 5 fun l27 =>
 ldS h11 (.n h.next) 6 fun l29 =>
 ldI h11 (.n h.next) 7 fun n31 =>
 (h11.st (.n (h.next + 1)) 0 [(.i .i64 n17), (.sl l19.1 l19.2), (.sl l21.1 l21.2), (.i .i64 n23), (.sl l25.1 l25.2), (.sl l27.1 l27.2), (.sl l29.1 l29.2), (.i .i64 n31)]).bind fun h32 =>
 ldI h32 (.n (h.next + 1)) 0 fun n34 =>
 ldS h32 (.n (h.next + 1)) 1 fun l36 =>
 ldS h32 (.n (h.next + 1)) 2 fun l38 =>
 ldI h32 (.n (h.next + 1)) 3 fun n40 =>
 ldS h32 (.n (h.next + 1)) 4 fun l42 =>
 ldS h32 (.n (h.next + 1)) 5 fun l44 =>
 ldS h32 (.n (h.next + 1)) 6 fun l46 =>
 ldI h32 (.n (h.next + 1)) 7 fun n48 =>
 some ((.tup [(.agg [(.i .i64 n34), (.sl l36.1 l36.2), (.sl l38.1 l38.2), (.i .i64 n40), (.sl l42.1 l42.2), (.sl l44.1 l44.2), (.sl l46.1 l46.2), (.i .i64 n48)]), (.i .i64 0), (.b false)]), h32)
 else ldI h11 (.n h.next) 7 fun n50 =>
 (h11.st (.n h.next) 7 [(.i .i64 (IntKind.i64.wrap (n50 + 1)))]).bind fun h51 =>
 ldI h51 (.n h.next) 0 fun n53 =>
 ldS h51 (.n h.next) 1 fun l55 =>
 ldS h51 (.n h.next) 2 fun l57 =>
 ldI h51 (.n h.next) 3 fun n59 =>
 ldS h51 (.n h.next) 4 fun l61 =>
 ldS h51 (.n h.next) 5 fun l63 =>
 ldS h51 (.n h.next) 6 fun l65 =>
 ldI h51 (.n h.next) 7 fun n67 =>
 ldS h51 (.n h.next) 5 fun l69 =>
 ldI h51 (.n h.next) 7 fun n71 =>
 (bif ((decide ((0 : Int) <= (IntKind.i64.wrap (n71 - 1)))) && (decide ((IntKind.i64.wrap (n71 - 1)) < (l69.2 : Int)))) then
 (SA.ref l69.1).bind fun q72 =>
 ldI h51 q72.1 (q72.2 + ((IntKind.i64.wrap (n71 - 1)).toNat * 1)) fun n74 =>
 (h51.st (.n (h.next + 1)) 0 [(.i .i64 n53), (.sl l55.1 l55.2), (.sl l57.1 l57.2), (.i .i64 n59), (.sl l61.1 l61.2), (.sl l63.1 l63.2), (.sl l65.1 l65.2), (.i .i64 n67)]).bind fun h75 =>
 (chkE (h75.ld (.n h.next) 5) (some (.sl l69.1 l69.2))).bind fun _ =>
 (chkE (h75.ld (.n h.next) 7) (some (.i .i64 n71))).bind fun _ =>
 (chkE (h75.ld q72.1 (q72.2 + ((IntKind.i64.wrap (n71 - 1)).toNat * 1))) (some (.i .i64 n74))).bind fun _ =>
 ldI h75 (.n (h.next + 1)) 0 fun n77 =>
 ldS h75 (.n (h.next + 1)) 1 fun l79 =>
 ldS h75 (.n (h.next + 1)) 2 fun l81 =>
 ldI h75 (.n (h.next + 1)) 3 fun n83 =>
 ldS h75 (.n (h.next + 1)) 4 fun l85 =>
 ldS h75 (.n (h.next + 1)) 5 fun l87 =>
 ldS h75 (.n (h.next + 1)) 6 fun l89 =>
 ldI h75 (.n (h.next + 1)) 7 fun n91 =>
 some ((.tup [(.agg [(.i .i64 n77), (.sl l79.1 l79.2), (.sl l81.1 l81.2), (.i .i64 n83), (.sl l85.1 l85.2), (.sl l87.1 l87.2), (.sl l89.1 l89.2), (.i .i64 n91)]), (.i .i64 n74), (.b true)]), h75)
 else none))
 else none
def haymowref15_Grey : Sm O := haymowref15_Grey_c
theorem haymowref15_Grey_ent : Entered Try.prog 99 := Try.call99
theorem haymowref15_Grey_run : run (O := O) Try.prog [] Try.f99 (.n .z (.n (.n .z (.n .z .z)) (.n .z (.n (.d [] [0, 1, 2, 3, 4, 5, 6, 7, 8, 9, 10] [0, 0, 2, 0, 8, 24, 62, 126, 1, 511, 1023]) .z)))) = haymowref15_Grey_c  := by kernel_rfl
theorem haymowref15_Grey_sound : FSound RO Try.prog 99 haymowref15_Grey := sdf haymowref15_Grey_run (gnil) Try.func99 (by kernel_rfl)
def haymowref10_Give_c (k145 k130 : Sm O) : Sm O := fun xs h =>
 bif Nat.beq xs.length 2 then
 (AV.asAgg 4 (xs.getD 0 .u)).bind fun c0 =>
 gtI c0 0 fun n1 =>
 gtS c0 1 fun l2 =>
 gtS c0 2 fun l3 =>
 gtI c0 3 fun n4 =>
 gtI xs 1 fun n5 =>
 let h6 := h.bump 2
 let h7 := h6.put h.next (.cells true 31 [(.i .i64 n1), (.sl l2.1 l2.2), (.sl l3.1 l3.2), (.i .i64 n4)])
 let h8 := h7.put (h.next + 1) (.cells true 31 [(.i .i64 0), (.sl .nil 0), (.sl .nil 0), (.i .i64 0)])
 ldI h8 (.n h.next) 0 fun n10 =>
 ldS h8 (.n h.next) 1 fun l12 =>
 ldS h8 (.n h.next) 2 fun l14 =>
 ldI h8 (.n h.next) 3 fun n16 =>
 (k145 [(.agg [(.i .i64 n10), (.sl l12.1 l12.2), (.sl l14.1 l14.2), (.i .i64 n16)]), (.i .i64 n5)] h8).bind fun r17 =>
 (AV.asB r17.1).bind fun b18 =>
 (bif (!b18) then
 ldI r17.2 (.n h.next) 0 fun n20 =>
 ldS r17.2 (.n h.next) 1 fun l22 =>
 ldS r17.2 (.n h.next) 2 fun l24 =>
 ldI r17.2 (.n h.next) 3 fun n26 =>
 (r17.2.st (.n (h.next + 1)) 0 [(.i .i64 n20), (.sl l22.1 l22.2), (.sl l24.1 l24.2), (.i .i64 n26)]).bind fun h27 =>
 ldI h27 (.n (h.next + 1)) 0 fun n29 =>
 ldS h27 (.n (h.next + 1)) 1 fun l31 =>
 ldS h27 (.n (h.next + 1)) 2 fun l33 =>
 ldI h27 (.n (h.next + 1)) 3 fun n35 =>
 some ((.tup [(.agg [(.i .i64 n29), (.sl l31.1 l31.2), (.sl l33.1 l33.2), (.i .i64 n35)]), (.i .i64 4)]), h27)
 else ldI r17.2 (.n h.next) 0 fun n37 =>
 ldS r17.2 (.n h.next) 1 fun l39 =>
 ldS r17.2 (.n h.next) 2 fun l41 =>
 ldI r17.2 (.n h.next) 3 fun n43 =>
 (k130 [(.agg [(.i .i64 n37), (.sl l39.1 l39.2), (.sl l41.1 l41.2), (.i .i64 n43)])] r17.2).bind fun r44 =>
 (AV.asAgg 4 r44.1).bind fun c45 =>
 gtI c45 0 fun n46 =>
 gtS c45 1 fun l47 =>
 gtS c45 2 fun l48 =>
 gtI c45 3 fun n49 =>
 (r44.2.st (.n h.next) 0 [(.i .i64 n46), (.sl l47.1 l47.2), (.sl l48.1 l48.2), (.i .i64 n49)]).bind fun h50 =>
 ldS h50 (.n h.next) 1 fun l52 =>
 (bif ((decide ((0 : Int) <= (IntKind.i64.wrap (n5 - 1)))) && (decide ((IntKind.i64.wrap (n5 - 1)) < (l52.2 : Int)))) then
 (SA.ref l52.1).bind fun q53 =>
 (h50.st q53.1 (q53.2 + ((IntKind.i64.wrap (n5 - 1)).toNat * 3)) [(.b false)]).bind fun h54 =>
 ldS h54 (.n h.next) 1 fun l56 =>
 (bif ((decide ((0 : Int) <= (IntKind.i64.wrap (n5 - 1)))) && (decide ((IntKind.i64.wrap (n5 - 1)) < (l56.2 : Int)))) then
 (SA.ref l56.1).bind fun q57 =>
 ldI h54 q57.1 ((q57.2 + ((IntKind.i64.wrap (n5 - 1)).toNat * 3)) + 1) fun n59 =>
 (bif ((decide ((0 : Int) <= (IntKind.i64.wrap (n5 - 1)))) && (decide ((IntKind.i64.wrap (n5 - 1)) < (l56.2 : Int)))) then
 (SA.ref l56.1).bind fun q60 =>
 (h54.st q60.1 ((q60.2 + ((IntKind.i64.wrap (n5 - 1)).toNat * 3)) + 1) [(.i .i64 (IntKind.i64.wrap (n59 + 1)))]).bind fun h61 =>
 let h62 := h61.bump 2
 ldS h62 (.n h.next) 2 fun l64 =>
 let h65 := h62.put h61.next (.cells true 3 [(.i .i64 n5)])
 (h65.rdSl (.loc (.n h61.next) 0 1) 1 1).bind fun new66 =>
 (bif (Nat.ble ((l64.2 + 1) * 9) 35184372088832) then
 (h65.appSl (h61.next + 1) 3 1 l64.1 l64.2 1 new66).bind fun r67 =>
 (AV.asSl r67.1).bind fun l68 =>
 (r67.2.st (.n h.next) 2 [(.sl l68.1 l68.2)]).bind fun h69 =>
 ldI h69 (.n h.next) 0 fun n71 =>
 ldS h69 (.n h.next) 1 fun l73 =>
 ldS h69 (.n h.next) 2 fun l75 =>
 ldI h69 (.n h.next) 3 fun n77 =>
 (h69.st (.n (h.next + 1)) 0 [(.i .i64 n71), (.sl l73.1 l73.2), (.sl l75.1 l75.2), (.i .i64 n77)]).bind fun h78 =>
 ldI h78 (.n (h.next + 1)) 0 fun n80 =>
 ldS h78 (.n (h.next + 1)) 1 fun l82 =>
 ldS h78 (.n (h.next + 1)) 2 fun l84 =>
 ldI h78 (.n (h.next + 1)) 3 fun n86 =>
 some ((.tup [(.agg [(.i .i64 n80), (.sl l82.1 l82.2), (.sl l84.1 l84.2), (.i .i64 n86)]), (.i .i64 0)]), h78)
 else none)
 else none)
 else none)
 else none))
 else none
def haymowref10_Give : Sm O := frz (haymowref10_Give_c haymowref10_Is haymowref10_copied)
theorem haymowref10_Give_ent : Entered Try.prog 131 := Try.call131
theorem haymowref10_Give_run (k145 k130 : Sm O) : run (O := O) Try.prog [(145, k145), (130, k130)] Try.f131 (.n .z (.n (.n .z (.n .z .z)) (.n .z (.n .z (.n .z (.n .z .z)))))) = haymowref10_Give_c k145 k130 := by kernel_rfl
theorem haymowref10_Give_sound : FSound RO Try.prog 131 (haymowref10_Give) :=
   have h : FSound RO Try.prog 131 (haymowref10_Give_c haymowref10_Is haymowref10_copied) := (haymowref10_Give_run haymowref10_Is haymowref10_copied) ▸ run_sound (gcons haymowref10_Is_ent (haymowref10_Is_sound) <| gcons haymowref10_copied_ent (haymowref10_copied_sound) <| gnil) mixed Try.func131 (by kernel_rfl) _
   h.frz
def haymowref15_Sweep_L1 (h : AH O) (k131 : Sm O) : List AV × AH O -> Option ((List AV × AH O) ⊕ (List AV × AH O)) := (fun r12 =>
 (AV.asI .i64 (r12.1.getD 0 .u)).bind fun n13 =>
 (AV.asI .i64 (r12.1.getD 1 .u)).bind fun n14 =>
 ldS r12.2 (.n h.next) 6 fun l16 =>
 (bif (decide (n14 < (l16.2 : Int))) then
 ldS r12.2 (.n h.next) 4 fun l18 =>
 ldS r12.2 (.n h.next) 6 fun l20 =>
 (bif ((decide ((0 : Int) <= n14)) && (decide (n14 < (l20.2 : Int)))) then
 (SA.ref l20.1).bind fun q21 =>
 ldI r12.2 q21.1 (q21.2 + (n14.toNat * 1)) fun n23 =>
 (bif ((decide ((0 : Int) <= (IntKind.i64.wrap (n23 - 1)))) && (decide ((IntKind.i64.wrap (n23 - 1)) < (l18.2 : Int)))) then
 (SA.ref l18.1).bind fun q24 =>
 ldS r12.2 q24.1 (q24.2 + ((IntKind.i64.wrap (n23 - 1)).toNat * 1)) fun l26 =>
 ldI r12.2 (.n h.next) 0 fun n28 =>
 ldS r12.2 (.n h.next) 1 fun l30 =>
 ldS r12.2 (.n h.next) 2 fun l32 =>
 ldI r12.2 (.n h.next) 3 fun n34 =>
 ldS r12.2 (.n h.next) 6 fun l36 =>
 (bif ((decide ((0 : Int) <= n14)) && (decide (n14 < (l36.2 : Int)))) then
 (SA.ref l36.1).bind fun q37 =>
 ldI r12.2 q37.1 (q37.2 + (n14.toNat * 1)) fun n39 =>
 (k131 [(.agg [(.i .i64 n28), (.sl l30.1 l30.2), (.sl l32.1 l32.2), (.i .i64 n34)]), (.i .i64 n39)] r12.2).bind fun r40 =>
 (AV.asTup 2 r40.1).bind fun c41 =>
 (AV.asAgg 4 (c41.getD 0 .u)).bind fun c42 =>
 gtI c42 0 fun n43 =>
 gtS c42 1 fun l44 =>
 gtS c42 2 fun l45 =>
 gtI c42 3 fun n46 =>
 gtI c41 1 fun n47 =>
 (r40.2.st (.n h.next) 0 [(.i .i64 n43), (.sl l44.1 l44.2), (.sl l45.1 l45.2), (.i .i64 n46)]).bind fun h48 =>
 some (Sum.inl ([(.i .i64 (IntKind.i64.wrap (n13 + (l26.2 : Int)))), (.i .i64 (IntKind.i64.wrap (n14 + 1)))], h48))
 else none)
 else none)
 else none)
 else some (Sum.inr ([(.i .i64 n13)], r12.2))))
def haymowref15_Sweep_c (k131 : Sm O) : Sm O := fun xs h =>
 bif Nat.beq xs.length 1 then
 (AV.asAgg 8 (xs.getD 0 .u)).bind fun c0 =>
 gtI c0 0 fun n1 =>
 gtS c0 1 fun l2 =>
 gtS c0 2 fun l3 =>
 gtI c0 3 fun n4 =>
 gtS c0 4 fun l5 =>
 gtS c0 5 fun l6 =>
 gtS c0 6 fun l7 =>
 gtI c0 7 fun n8 =>
 let h9 := h.bump 2
 let h10 := h9.put h.next (.cells true 91 [(.i .i64 n1), (.sl l2.1 l2.2), (.sl l3.1 l3.2), (.i .i64 n4), (.sl l5.1 l5.2), (.sl l6.1 l6.2), (.sl l7.1 l7.2), (.i .i64 n8)])
 let h11 := h10.put (h.next + 1) (.cells true 91 [(.i .i64 0), (.sl .nil 0), (.sl .nil 0), (.i .i64 0), (.sl .nil 0), (.sl .nil 0), (.sl .nil 0), (.i .i64 0)])
 (loopF (S := List AV × AH O) (T := List AV × AH O) (haymowref15_Sweep_L1 h k131) ([(.i .i64 0), (.i .i64 0)], h11)).bind fun r49 =>
 (AV.asI .i64 (r49.1.getD 0 .u)).bind fun n50 =>
 ldS r49.2 (.n h.next) 6 fun l52 =>
 (r49.2.st (.n h.next) 6 [(.sl .nil 0)]).bind fun h53 =>
 ldI h53 (.n h.next) 0 fun n55 =>
 ldS h53 (.n h.next) 1 fun l57 =>
 ldS h53 (.n h.next) 2 fun l59 =>
 ldI h53 (.n h.next) 3 fun n61 =>
 ldS h53 (.n h.next) 4 fun l63 =>
 ldS h53 (.n h.next) 5 fun l65 =>
 ldS h53 (.n h.next) 6 fun l67 =>
 ldI h53 (.n h.next) 7 fun n69 =>
 (h53.st (.n (h.next + 1)) 0 [(.i .i64 n55), (.sl l57.1 l57.2), (.sl l59.1 l59.2), (.i .i64 n61), (.sl l63.1 l63.2), (.sl l65.1 l65.2), (.sl l67.1 l67.2), (.i .i64 n69)]).bind fun h70 =>
 ldI h70 (.n (h.next + 1)) 0 fun n72 =>
 ldS h70 (.n (h.next + 1)) 1 fun l74 =>
 ldS h70 (.n (h.next + 1)) 2 fun l76 =>
 ldI h70 (.n (h.next + 1)) 3 fun n78 =>
 ldS h70 (.n (h.next + 1)) 4 fun l80 =>
 ldS h70 (.n (h.next + 1)) 5 fun l82 =>
 ldS h70 (.n (h.next + 1)) 6 fun l84 =>
 ldI h70 (.n (h.next + 1)) 7 fun n86 =>
 some ((.tup [(.agg [(.i .i64 n72), (.sl l74.1 l74.2), (.sl l76.1 l76.2), (.i .i64 n78), (.sl l80.1 l80.2), (.sl l82.1 l82.2), (.sl l84.1 l84.2), (.i .i64 n86)]), (.i .i64 (l52.2 : Int)), (.i .i64 n50)]), h70)
 else none
def haymowref15_Sweep : Sm O := frz (haymowref15_Sweep_c haymowref10_Give)
theorem haymowref15_Sweep_ent : Entered Try.prog 100 := Try.call100
theorem haymowref15_Sweep_run (k131 : Sm O) : run (O := O) Try.prog [(131, k131)] Try.f100 (.n .z (.n .z (.n (.n .z (.n (.lp false 0 [(5, .one (.i .i64)), (6, .one (.i .i64))] [(5, .one (.i .i64))] (.n (.n .z .z) (.n (.n (.n (.d [] [0, 1, 2, 3, 4, 5, 6, 7, 8, 9, 10, 11, 12, 13] [0, 0, 2, 0, 8, 0, 56, 120, 248, 510, 1022, 2046, 4095, 8191]) (.d [] [0, 1, 2, 3, 4, 5, 6, 7, 8, 9, 10, 11, 12] [0, 1, 0, 4, 0, 28, 60, 127, 255, 511, 511, 1023, 3071])) .z) .z))) .z)) (.n .z (.n .z .z))))) = haymowref15_Sweep_c k131 := by kernel_rfl
theorem haymowref15_Sweep_sound : FSound RO Try.prog 100 (haymowref15_Sweep) :=
   have h : FSound RO Try.prog 100 (haymowref15_Sweep_c haymowref10_Give) := (haymowref15_Sweep_run haymowref10_Give) ▸ run_sound (gcons haymowref10_Give_ent (haymowref10_Give_sound) <| gnil) mixed Try.func100 (by kernel_rfl) _
   h.frz
def large_Large__Size_c (k79 : Sm O) : Sm O := fun xs h =>
 bif Nat.beq xs.length 2 then
 (AV.asP (xs.getD 0 .u)).bind fun p0 =>
 gtI xs 1 fun n1 =>
 Option.bind p0 fun q2 =>
 ldP h q2.1 (q2.2 + 1) fun p4 =>
 (k79 [(.p p4), (.i .i64 n1), (.i .i64 1)] h).bind fun r5 =>
 (AV.asTup 2 r5.1).bind fun c6 =>
 gtU c6 0 fun n7 =>
 gtI c6 1 fun n8 =>
 some ((.tup [(.i .i64 (IntKind.i64.wrap n7)), (.i .i64 n8)]), r5.2)
 else none
def large_Large__Size : Sm O := large_Large__Size_c pool_Pool__Get
theorem large_Large__Size_ent : Entered Try.prog 101 := Try.call101
theorem large_Large__Size_run (k79 : Sm O) : run (O := O) Try.prog [(79, k79)] Try.f101 (.n .z (.n .z .z)) = large_Large__Size_c k79 := by kernel_rfl
theorem large_Large__Size_sound : FSound RO Try.prog 101 large_Large__Size := sdf (large_Large__Size_run _) (gcons pool_Pool__Get_ent pool_Pool__Get_sound <| gnil) Try.func101 (by kernel_rfl)
def law15_known_c (k101 k86 k97 k33 : Sm O) : Sm O := fun xs h =>
 bif Nat.beq xs.length 3 then
 (AV.asP (xs.getD 0 .u)).bind fun p0 =>
 (AV.asAgg 8 (xs.getD 1 .u)).bind fun c1 =>
 gtI c1 0 fun n2 =>
 gtS c1 1 fun l3 =>
 gtS c1 2 fun l4 =>
 gtI c1 3 fun n5 =>
 gtS c1 4 fun l6 =>
 gtS c1 5 fun l7 =>
 gtS c1 6 fun l8 =>
 gtI c1 7 fun n9 =>
 gtI xs 2 fun n10 =>
 let h11 := h.bump 1
 let h12 := h11.put h.next (.cells true 91 [(.i .i64 n2), (.sl l3.1 l3.2), (.sl l4.1 l4.2), (.i .i64 n5), (.sl l6.1 l6.2), (.sl l7.1 l7.2), (.sl l8.1 l8.2), (.i .i64 n9)])
 (k101 [(.p p0), (.i .i64 n10)] h12).bind fun r13 =>
 (AV.asTup 2 r13.1).bind fun c14 =>
 gtI c14 0 fun n15 =>
 gtI c14 1 fun n16 =>
 (k86 [(.p p0), (.i .i64 n10)] r13.2).bind fun r17 =>
 (AV.asTup 2 r17.1).bind fun c18 =>
 (AV.asB (c18.getD 0 .u)).bind fun b19 =>
 gtI c18 1 fun n20 =>
 ldI r17.2 (.n h.next) 0 fun n22 =>
 ldS r17.2 (.n h.next) 1 fun l24 =>
 ldS r17.2 (.n h.next) 2 fun l26 =>
 ldI r17.2 (.n h.next) 3 fun n28 =>
 ldS r17.2 (.n h.next) 4 fun l30 =>
 ldS r17.2 (.n h.next) 5 fun l32 =>
 ldS r17.2 (.n h.next) 6 fun l34 =>
 ldI r17.2 (.n h.next) 7 fun n36 =>
 (k97 [(.agg [(.i .i64 n22), (.sl l24.1 l24.2), (.sl l26.1 l26.2), (.i .i64 n28), (.sl l30.1 l30.2), (.sl l32.1 l32.2), (.sl l34.1 l34.2), (.i .i64 n36)]), (.i .i64 n10)] r17.2).bind fun r37 =>
 (AV.asB r37.1).bind fun b38 =>
 (bif (!b38) then
 ((bif (((n15 : Int) == 0) == true) then
 some ([(.b (!b19))], r37.2)
 else some ([(.b false)], r37.2)) : Option (List AV × AH O)).bind fun r39 =>
 (AV.asB (r39.1.getD 0 .u)).bind fun b40 =>
 ((bif (b40 == true) then
 some ([(.b ((n16 : Int) == 4))], r39.2)
 else some ([(.b false)], r39.2)) : Option (List AV × AH O)).bind fun r41 =>
 (AV.asB (r41.1.getD 0 .u)).bind fun b42 =>
 ((bif (b42 == true) then
 some ([(.b ((n20 : Int) == 4))], r41.2)
 else some ([(.b false)], r41.2)) : Option (List AV × AH O)).bind fun r43 =>
 (AV.asB (r43.1.getD 0 .u)).bind fun b44 =>
 some ((.b b44), r43.2)
 else ldS r37.2 (.n h.next) 4 fun l46 =>
 (bif ((decide ((0 : Int) <= (IntKind.i64.wrap (n10 - 1)))) && (decide ((IntKind.i64.wrap (n10 - 1)) < (l46.2 : Int)))) then
 (SA.ref l46.1).bind fun q47 =>
 ldS r37.2 q47.1 (q47.2 + ((IntKind.i64.wrap (n10 - 1)).toNat * 1)) fun l49 =>
 ((bif (((n15 : Int) == (l49.2 : Int)) == true) then
 ldS r37.2 (.n h.next) 5 fun l51 =>
 (k33 [(.sl l51.1 l51.2), (.i .i64 n10)] r37.2).bind fun r52 =>
 (AV.asB r52.1).bind fun b53 =>
 some ([(.b (b19 == b53))], r52.2)
 else some ([(.b false)], r37.2)) : Option (List AV × AH O)).bind fun r54 =>
 (AV.asB (r54.1.getD 0 .u)).bind fun b55 =>
 ((bif (b55 == true) then
 some ([(.b ((n16 : Int) == 0))], r54.2)
 else some ([(.b false)], r54.2)) : Option (List AV × AH O)).bind fun r56 =>
 (AV.asB (r56.1.getD 0 .u)).bind fun b57 =>
 ((bif (b57 == true) then
 some ([(.b ((n20 : Int) == 0))], r56.2)
 else some ([(.b false)], r56.2)) : Option (List AV × AH O)).bind fun r58 =>
 (AV.asB (r58.1.getD 0 .u)).bind fun b59 =>
 some ((.b b59), r58.2)
 else none))
 else none
def law15_known : Sm O := law15_known_c large_Large__Size large_Large__Marked haymowref15_Is haymowref15_Has
theorem law15_known_ent : Entered Try.prog 43 := Try.call43
theorem law15_known_run (k101 k86 k97 k33 : Sm O) : run (O := O) Try.prog [(101, k101), (86, k86), (97, k97), (33, k33)] Try.f43 (.n .z (.n .z (.n .z (.n (.n .z (.n (.n (.g [(2, 2, [(32, .one .b)]), (6, 2, [(36, .one .b)]), (10, 2, [(40, .one .b)])]) .z) .z)) (.n (.g [(9, 6, [(57, .one .b)]), (17, 2, [(61, .one .b)]), (21, 2, [(65, .one .b)])]) .z))))) = law15_known_c k101 k86 k97 k33 := by kernel_rfl
theorem law15_known_sound : FSound RO Try.prog 43 law15_known := sdf (law15_known_run _ _ _ _) (gcons large_Large__Size_ent large_Large__Size_sound <| gcons large_Large__Marked_ent large_Large__Marked_sound <| gcons haymowref15_Is_ent haymowref15_Is_sound <| gcons haymowref15_Has_ent haymowref15_Has_sound <| gnil) Try.func43 (by kernel_rfl)
def law15_do_c (k27 k93 k31 k94 k37 k95 k28 k96 k29 k97 k98 k30 k99 k34 k100 k43 : Sm O) : Sm O := fun xs h =>
 bif Nat.beq xs.length 3 then
 (AV.asP (xs.getD 0 .u)).bind fun p0 =>
 (AV.asAgg 8 (xs.getD 1 .u)).bind fun c1 =>
 gtI c1 0 fun n2 =>
 gtS c1 1 fun l3 =>
 gtS c1 2 fun l4 =>
 gtI c1 3 fun n5 =>
 gtS c1 4 fun l6 =>
 gtS c1 5 fun l7 =>
 gtS c1 6 fun l8 =>
 gtI c1 7 fun n9 =>
 (AV.asAgg 5 (xs.getD 2 .u)).bind fun c10 =>
 gtI c10 0 fun n11 =>
 gtI c10 1 fun n12 =>
 gtI c10 2 fun n13 =>
 gtI c10 3 fun n14 =>
 gtU c10 4 fun n15 =>
 let h16 := h.bump 3
 let h17 := h16.put h.next (.cells true 91 [(.i .i64 n2), (.sl l3.1 l3.2), (.sl l4.1 l4.2), (.i .i64 n5), (.sl l6.1 l6.2), (.sl l7.1 l7.2), (.sl l8.1 l8.2), (.i .i64 n9)])
 let h18 := h17.put (h.next + 1) (.cells true 96 [(.i .i64 n11), (.i .i64 n12), (.i .i64 n13), (.i .i64 n14), (.i .u64 n15)])
 let h19 := h18.put ((h.next + 1) + 1) (.cells true 91 [(.i .i64 0), (.sl .nil 0), (.sl .nil 0), (.i .i64 0), (.sl .nil 0), (.sl .nil 0), (.sl .nil 0), (.i .i64 0)])
 ldI h19 (.n (h.next + 1)) 0 fun n21 =>
 (bif ((n21 : Int) == 0) then
 ldI h19 (.n (h.next + 1)) 3 fun n23 =>
 (k27 [(.p p0), (.i .i64 n23)] h19).bind fun r24 =>
 (AV.asTup 2 r24.1).bind fun c25 =>
 gtI c25 0 fun n26 =>
 gtI c25 1 fun n27 =>
 ldI r24.2 (.n h.next) 0 fun n29 =>
 ldS r24.2 (.n h.next) 1 fun l31 =>
 ldS r24.2 (.n h.next) 2 fun l33 =>
 ldI r24.2 (.n h.next) 3 fun n35 =>
 ldS r24.2 (.n h.next) 4 fun l37 =>
 ldS r24.2 (.n h.next) 5 fun l39 =>
 ldS r24.2 (.n h.next) 6 fun l41 =>
 ldI r24.2 (.n h.next) 7 fun n43 =>
 ldI r24.2 (.n (h.next + 1)) 3 fun n45 =>
 (k93 [(.agg [(.i .i64 n29), (.sl l31.1 l31.2), (.sl l33.1 l33.2), (.i .i64 n35), (.sl l37.1 l37.2), (.sl l39.1 l39.2), (.sl l41.1 l41.2), (.i .i64 n43)]), (.i .i64 n45)] r24.2).bind fun r46 =>
 (AV.asTup 3 r46.1).bind fun c47 =>
 (AV.asAgg 8 (c47.getD 0 .u)).bind fun c48 =>
 gtI c48 0 fun n49 =>
 gtS c48 1 fun l50 =>
 gtS c48 2 fun l51 =>
 gtI c48 3 fun n52 =>
 gtS c48 4 fun l53 =>
 gtS c48 5 fun l54 =>
 gtS c48 6 fun l55 =>
 gtI c48 7 fun n56 =>
 gtI c47 1 fun n57 =>
 gtI c47 2 fun n58 =>
 (r46.2.st (.n h.next) 0 [(.i .i64 n49), (.sl l50.1 l50.2), (.sl l51.1 l51.2), (.i .i64 n52), (.sl l53.1 l53.2), (.sl l54.1 l54.2), (.sl l55.1 l55.2), (.i .i64 n56)]).bind fun h59 =>
 ldI h59 (.n h.next) 0 fun n61 =>
 ldS h59 (.n h.next) 1 fun l63 =>
 ldS h59 (.n h.next) 2 fun l65 =>
 ldI h59 (.n h.next) 3 fun n67 =>
 ldS h59 (.n h.next) 4 fun l69 =>
 ldS h59 (.n h.next) 5 fun l71 =>
 ldS h59 (.n h.next) 6 fun l73 =>
 ldI h59 (.n h.next) 7 fun n75 =>
 ((bif (((n26 : Int) == n57) == true) then
 some ([(.b ((n27 : Int) == n58))], h59)
 else some ([(.b false)], h59)) : Option (List AV × AH O)).bind fun r76 =>
 (AV.asB (r76.1.getD 0 .u)).bind fun b77 =>
 (r76.2.st (.n ((h.next + 1) + 1)) 0 [(.i .i64 n61), (.sl l63.1 l63.2), (.sl l65.1 l65.2), (.i .i64 n67), (.sl l69.1 l69.2), (.sl l71.1 l71.2), (.sl l73.1 l73.2), (.i .i64 n75)]).bind fun h78 =>
 ldI h78 (.n ((h.next + 1) + 1)) 0 fun n80 =>
 ldS h78 (.n ((h.next + 1) + 1)) 1 fun l82 =>
 ldS h78 (.n ((h.next + 1) + 1)) 2 fun l84 =>
 ldI h78 (.n ((h.next + 1) + 1)) 3 fun n86 =>
 ldS h78 (.n ((h.next + 1) + 1)) 4 fun l88 =>
 ldS h78 (.n ((h.next + 1) + 1)) 5 fun l90 =>
 ldS h78 (.n ((h.next + 1) + 1)) 6 fun l92 =>
 ldI h78 (.n ((h.next + 1) + 1)) 7 fun n94 =>
 some ((.tup [(.agg [(.i .i64 n80), (.sl l82.1 l82.2), (.sl l84.1 l84.2), (.i .i64 n86), (.sl l88.1 l88.2), (.sl l90.1 l90.2), (.sl l92.1 l92.2), (.i .i64 n94)]), (.i .u64 24), (.b b77)]), h78)
 else (bif ((n21 : Int) == 1) then
 ldI h19 (.n (h.next + 1)) 1 fun n96 =>
 ldI h19 (.n (h.next + 1)) 2 fun n98 =>
 ldU h19 (.n (h.next + 1)) 4 fun n100 =>
 (k31 [(.p p0), (.i .i64 n96), (.i .i64 n98), (.i .u64 n100)] h19).bind fun r101 =>
 (AV.asI .i64 r101.1).bind fun n102 =>
 ldI r101.2 (.n h.next) 0 fun n104 =>
 ldS r101.2 (.n h.next) 1 fun l106 =>
 ldS r101.2 (.n h.next) 2 fun l108 =>
 ldI r101.2 (.n h.next) 3 fun n110 =>
 ldS r101.2 (.n h.next) 4 fun l112 =>
 ldS r101.2 (.n h.next) 5 fun l114 =>
 ldS r101.2 (.n h.next) 6 fun l116 =>
 ldI r101.2 (.n h.next) 7 fun n118 =>
 ldI r101.2 (.n (h.next + 1)) 1 fun n120 =>
 ldI r101.2 (.n (h.next + 1)) 2 fun n122 =>
 ldU r101.2 (.n (h.next + 1)) 4 fun n124 =>
 (k94 [(.agg [(.i .i64 n104), (.sl l106.1 l106.2), (.sl l108.1 l108.2), (.i .i64 n110), (.sl l112.1 l112.2), (.sl l114.1 l114.2), (.sl l116.1 l116.2), (.i .i64 n118)]), (.i .i64 n120), (.i .i64 n122), (.i .u64 n124)] r101.2).bind fun r125 =>
 (AV.asTup 2 r125.1).bind fun c126 =>
 (AV.asAgg 8 (c126.getD 0 .u)).bind fun c127 =>
 gtI c127 0 fun n128 =>
 gtS c127 1 fun l129 =>
 gtS c127 2 fun l130 =>
 gtI c127 3 fun n131 =>
 gtS c127 4 fun l132 =>
 gtS c127 5 fun l133 =>
 gtS c127 6 fun l134 =>
 gtI c127 7 fun n135 =>
 gtI c126 1 fun n136 =>
 (r125.2.st (.n h.next) 0 [(.i .i64 n128), (.sl l129.1 l129.2), (.sl l130.1 l130.2), (.i .i64 n131), (.sl l132.1 l132.2), (.sl l133.1 l133.2), (.sl l134.1 l134.2), (.i .i64 n135)]).bind fun h137 =>
 ldI h137 (.n h.next) 0 fun n139 =>
 ldS h137 (.n h.next) 1 fun l141 =>
 ldS h137 (.n h.next) 2 fun l143 =>
 ldI h137 (.n h.next) 3 fun n145 =>
 ldS h137 (.n h.next) 4 fun l147 =>
 ldS h137 (.n h.next) 5 fun l149 =>
 ldS h137 (.n h.next) 6 fun l151 =>
 ldI h137 (.n h.next) 7 fun n153 =>
 (h137.st (.n ((h.next + 1) + 1)) 0 [(.i .i64 n139), (.sl l141.1 l141.2), (.sl l143.1 l143.2), (.i .i64 n145), (.sl l147.1 l147.2), (.sl l149.1 l149.2), (.sl l151.1 l151.2), (.i .i64 n153)]).bind fun h154 =>
 ldI h154 (.n ((h.next + 1) + 1)) 0 fun n156 =>
 ldS h154 (.n ((h.next + 1) + 1)) 1 fun l158 =>
 ldS h154 (.n ((h.next + 1) + 1)) 2 fun l160 =>
 ldI h154 (.n ((h.next + 1) + 1)) 3 fun n162 =>
 ldS h154 (.n ((h.next + 1) + 1)) 4 fun l164 =>
 ldS h154 (.n ((h.next + 1) + 1)) 5 fun l166 =>
 ldS h154 (.n ((h.next + 1) + 1)) 6 fun l168 =>
 ldI h154 (.n ((h.next + 1) + 1)) 7 fun n170 =>
 some ((.tup [(.agg [(.i .i64 n156), (.sl l158.1 l158.2), (.sl l160.1 l160.2), (.i .i64 n162), (.sl l164.1 l164.2), (.sl l166.1 l166.2), (.sl l168.1 l168.2), (.i .i64 n170)]), (.i .u64 3), (.b ((n102 : Int) == n136))]), h154)
 else (bif ((n21 : Int) == 2) then
 ldI h19 (.n (h.next + 1)) 1 fun n172 =>
 ldI h19 (.n (h.next + 1)) 2 fun n174 =>
 (k37 [(.p p0), (.i .i64 n172), (.i .i64 n174)] h19).bind fun r175 =>
 (AV.asTup 2 r175.1).bind fun c176 =>
 gtU c176 0 fun n177 =>
 gtI c176 1 fun n178 =>
 ldI r175.2 (.n h.next) 0 fun n180 =>
 ldS r175.2 (.n h.next) 1 fun l182 =>
 ldS r175.2 (.n h.next) 2 fun l184 =>
 ldI r175.2 (.n h.next) 3 fun n186 =>
 ldS r175.2 (.n h.next) 4 fun l188 =>
 ldS r175.2 (.n h.next) 5 fun l190 =>
 ldS r175.2 (.n h.next) 6 fun l192 =>
 ldI r175.2 (.n h.next) 7 fun n194 =>
 ldI r175.2 (.n (h.next + 1)) 1 fun n196 =>
 ldI r175.2 (.n (h.next + 1)) 2 fun n198 =>
 (k95 [(.agg [(.i .i64 n180), (.sl l182.1 l182.2), (.sl l184.1 l184.2), (.i .i64 n186), (.sl l188.1 l188.2), (.sl l190.1 l190.2), (.sl l192.1 l192.2), (.i .i64 n194)]), (.i .i64 n196), (.i .i64 n198)] r175.2).bind fun r199 =>
 (AV.asI .i64 r199.1).bind fun n200 =>
 ldI r199.2 (.n h.next) 0 fun n202 =>
 ldS r199.2 (.n h.next) 1 fun l204 =>
 ldS r199.2 (.n h.next) 2 fun l206 =>
 ldI r199.2 (.n h.next) 3 fun n208 =>
 ldS r199.2 (.n h.next) 4 fun l210 =>
 ldS r199.2 (.n h.next) 5 fun l212 =>
 ldS r199.2 (.n h.next) 6 fun l214 =>
 ldI r199.2 (.n h.next) 7 fun n216 =>
 ((bif (((n178 : Int) == n200) == true) then
 ((bif (((n200 : Int) == 0) == false) then
 some ([(.b ((n177 : Int) == 0))], r199.2)
 else some ([(.b true)], r199.2)) : Option (List AV × AH O)).bind fun r217 =>
 (AV.asB (r217.1.getD 0 .u)).bind fun b218 =>
 some ([(.b b218)], r217.2)
 else some ([(.b false)], r199.2)) : Option (List AV × AH O)).bind fun r219 =>
 (AV.asB (r219.1.getD 0 .u)).bind fun b220 =>
 ((bif (b220 == true) then
 ((bif (((n200 : Int) != 0) == false) then
 ldS r219.2 (.n h.next) 4 fun l222 =>
 ldI r219.2 (.n (h.next + 1)) 1 fun n224 =>
 (bif ((decide ((0 : Int) <= (IntKind.i64.wrap (n224 - 1)))) && (decide ((IntKind.i64.wrap (n224 - 1)) < (l222.2 : Int)))) then
 (SA.ref l222.1).bind fun q225 =>
 ldS r219.2 q225.1 (q225.2 + ((IntKind.i64.wrap (n224 - 1)).toNat * 1)) fun l227 =>
 ldI r219.2 (.n (h.next + 1)) 2 fun n229 =>
 (bif ((decide ((0 : Int) <= n229)) && (decide (n229 < (l227.2 : Int)))) then
 (SA.ref l227.1).bind fun q230 =>
 ldU r219.2 q230.1 (q230.2 + (n229.toNat * 1)) fun n232 =>
 (r219.2.st (.n ((h.next + 1) + 1)) 0 [(.i .i64 n202), (.sl l204.1 l204.2), (.sl l206.1 l206.2), (.i .i64 n208), (.sl l210.1 l210.2), (.sl l212.1 l212.2), (.sl l214.1 l214.2), (.i .i64 n216)]).bind fun h233 =>
 (chkE (h233.ld (.n h.next) 4) (some (.sl l222.1 l222.2))).bind fun _ =>
 (chkE (h233.ld (.n (h.next + 1)) 1) (some (.i .i64 n224))).bind fun _ =>
 (chkE (h233.ld q225.1 (q225.2 + ((IntKind.i64.wrap (n224 - 1)).toNat * 1))) (some (.sl l227.1 l227.2))).bind fun _ =>
 (chkE (h233.ld (.n (h.next + 1)) 2) (some (.i .i64 n229))).bind fun _ =>
 (chkE (h233.ld q230.1 (q230.2 + (n229.toNat * 1))) (some (.i .u64 n232))).bind fun _ =>
 some ([(.b ((n177 : Int) == n232))], h233)
 else none)
 else none)
 else (r219.2.st (.n ((h.next + 1) + 1)) 0 [(.i .i64 n202), (.sl l204.1 l204.2), (.sl l206.1 l206.2), (.i .i64 n208), (.sl l210.1 l210.2), (.sl l212.1 l212.2), (.sl l214.1 l214.2), (.i .i64 n216)]).bind fun h234 =>
 some ([(.b true)], h234)) : Option (List AV × AH O)).bind fun r235 =>
 (AV.asB (r235.1.getD 0 .u)).bind fun b236 =>
 some ([(.b b236)], r235.2)
 else (r219.2.st (.n ((h.next + 1) + 1)) 0 [(.i .i64 n202), (.sl l204.1 l204.2), (.sl l206.1 l206.2), (.i .i64 n208), (.sl l210.1 l210.2), (.sl l212.1 l212.2), (.sl l214.1 l214.2), (.i .i64 n216)]).bind fun h237 =>
 some ([(.b false)], h237)) : Option (List AV × AH O)).bind fun r238 =>
 (AV.asB (r238.1.getD 0 .u)).bind fun b239 =>
 ldI r238.2 (.n ((h.next + 1) + 1)) 0 fun n241 =>
 ldS r238.2 (.n ((h.next + 1) + 1)) 1 fun l243 =>
 ldS r238.2 (.n ((h.next + 1) + 1)) 2 fun l245 =>
 ldI r238.2 (.n ((h.next + 1) + 1)) 3 fun n247 =>
 ldS r238.2 (.n ((h.next + 1) + 1)) 4 fun l249 =>
 ldS r238.2 (.n ((h.next + 1) + 1)) 5 fun l251 =>
 ldS r238.2 (.n ((h.next + 1) + 1)) 6 fun l253 =>
 ldI r238.2 (.n ((h.next + 1) + 1)) 7 fun n255 =>
 some ((.tup [(.agg [(.i .i64 n241), (.sl l243.1 l243.2), (.sl l245.1 l245.2), (.i .i64 n247), (.sl l249.1 l249.2), (.sl l251.1 l251.2), (.sl l253.1 l253.2), (.i .i64 n255)]), (.i .u64 3), (.b b239)]), r238.2)
 else (bif ((n21 : Int) == 3) then
 (k28 [(.p p0)] h19).bind fun r256 =>
 (AV.asTup 0 r256.1).bind fun c257 =>
 ldI r256.2 (.n h.next) 0 fun n259 =>
 ldS r256.2 (.n h.next) 1 fun l261 =>
 ldS r256.2 (.n h.next) 2 fun l263 =>
 ldI r256.2 (.n h.next) 3 fun n265 =>
 ldS r256.2 (.n h.next) 4 fun l267 =>
 ldS r256.2 (.n h.next) 5 fun l269 =>
 ldS r256.2 (.n h.next) 6 fun l271 =>
 ldI r256.2 (.n h.next) 7 fun n273 =>
 (k96 [(.agg [(.i .i64 n259), (.sl l261.1 l261.2), (.sl l263.1 l263.2), (.i .i64 n265), (.sl l267.1 l267.2), (.sl l269.1 l269.2), (.sl l271.1 l271.2), (.i .i64 n273)])] r256.2).bind fun r274 =>
 (AV.asAgg 8 r274.1).bind fun c275 =>
 gtI c275 0 fun n276 =>
 gtS c275 1 fun l277 =>
 gtS c275 2 fun l278 =>
 gtI c275 3 fun n279 =>
 gtS c275 4 fun l280 =>
 gtS c275 5 fun l281 =>
 gtS c275 6 fun l282 =>
 gtI c275 7 fun n283 =>
 (r274.2.st (.n ((h.next + 1) + 1)) 0 [(.i .i64 n276), (.sl l277.1 l277.2), (.sl l278.1 l278.2), (.i .i64 n279), (.sl l280.1 l280.2), (.sl l281.1 l281.2), (.sl l282.1 l282.2), (.i .i64 n283)]).bind fun h284 =>
 ldI h284 (.n ((h.next + 1) + 1)) 0 fun n286 =>
 ldS h284 (.n ((h.next + 1) + 1)) 1 fun l288 =>
 ldS h284 (.n ((h.next + 1) + 1)) 2 fun l290 =>
 ldI h284 (.n ((h.next + 1) + 1)) 3 fun n292 =>
 ldS h284 (.n ((h.next + 1) + 1)) 4 fun l294 =>
 ldS h284 (.n ((h.next + 1) + 1)) 5 fun l296 =>
 ldS h284 (.n ((h.next + 1) + 1)) 6 fun l298 =>
 ldI h284 (.n ((h.next + 1) + 1)) 7 fun n300 =>
 some ((.tup [(.agg [(.i .i64 n286), (.sl l288.1 l288.2), (.sl l290.1 l290.2), (.i .i64 n292), (.sl l294.1 l294.2), (.sl l296.1 l296.2), (.sl l298.1 l298.2), (.i .i64 n300)]), (.i .u64 2), (.b true)]), h284)
 else (bif ((n21 : Int) == 4) then
 ldI h19 (.n (h.next + 1)) 1 fun n302 =>
 (k29 [(.p p0), (.i .i64 n302)] h19).bind fun r303 =>
 (AV.asTup 2 r303.1).bind fun c304 =>
 (AV.asB (c304.getD 0 .u)).bind fun b305 =>
 gtI c304 1 fun n306 =>
 ldI r303.2 (.n h.next) 0 fun n308 =>
 ldS r303.2 (.n h.next) 1 fun l310 =>
 ldS r303.2 (.n h.next) 2 fun l312 =>
 ldI r303.2 (.n h.next) 3 fun n314 =>
 ldS r303.2 (.n h.next) 4 fun l316 =>
 ldS r303.2 (.n h.next) 5 fun l318 =>
 ldS r303.2 (.n h.next) 6 fun l320 =>
 ldI r303.2 (.n h.next) 7 fun n322 =>
 ldI r303.2 (.n (h.next + 1)) 1 fun n324 =>
 (k97 [(.agg [(.i .i64 n308), (.sl l310.1 l310.2), (.sl l312.1 l312.2), (.i .i64 n314), (.sl l316.1 l316.2), (.sl l318.1 l318.2), (.sl l320.1 l320.2), (.i .i64 n322)]), (.i .i64 n324)] r303.2).bind fun r325 =>
 (AV.asB r325.1).bind fun b326 =>
 (bif (!b326) then
 ldI r325.2 (.n h.next) 0 fun n328 =>
 ldS r325.2 (.n h.next) 1 fun l330 =>
 ldS r325.2 (.n h.next) 2 fun l332 =>
 ldI r325.2 (.n h.next) 3 fun n334 =>
 ldS r325.2 (.n h.next) 4 fun l336 =>
 ldS r325.2 (.n h.next) 5 fun l338 =>
 ldS r325.2 (.n h.next) 6 fun l340 =>
 ldI r325.2 (.n h.next) 7 fun n342 =>
 ((bif ((!b305) == true) then
 some ([(.b ((n306 : Int) == 4))], r325.2)
 else some ([(.b false)], r325.2)) : Option (List AV × AH O)).bind fun r343 =>
 (AV.asB (r343.1.getD 0 .u)).bind fun b344 =>
 (r343.2.st (.n ((h.next + 1) + 1)) 0 [(.i .i64 n328), (.sl l330.1 l330.2), (.sl l332.1 l332.2), (.i .i64 n334), (.sl l336.1 l336.2), (.sl l338.1 l338.2), (.sl l340.1 l340.2), (.i .i64 n342)]).bind fun h345 =>
 ldI h345 (.n ((h.next + 1) + 1)) 0 fun n347 =>
 ldS h345 (.n ((h.next + 1) + 1)) 1 fun l349 =>
 ldS h345 (.n ((h.next + 1) + 1)) 2 fun l351 =>
 ldI h345 (.n ((h.next + 1) + 1)) 3 fun n353 =>
 ldS h345 (.n ((h.next + 1) + 1)) 4 fun l355 =>
 ldS h345 (.n ((h.next + 1) + 1)) 5 fun l357 =>
 ldS h345 (.n ((h.next + 1) + 1)) 6 fun l359 =>
 ldI h345 (.n ((h.next + 1) + 1)) 7 fun n361 =>
 some ((.tup [(.agg [(.i .i64 n347), (.sl l349.1 l349.2), (.sl l351.1 l351.2), (.i .i64 n353), (.sl l355.1 l355.2), (.sl l357.1 l357.2), (.sl l359.1 l359.2), (.i .i64 n361)]), (.i .u64 12), (.b b344)]), h345)
 else ldI r325.2 (.n h.next) 0 fun n363 =>
 ldS r325.2 (.n h.next) 1 fun l365 =>
 ldS r325.2 (.n h.next) 2 fun l367 =>
 ldI r325.2 (.n h.next) 3 fun n369 =>
 ldS r325.2 (.n h.next) 4 fun l371 =>
 ldS r325.2 (.n h.next) 5 fun l373 =>
 ldS r325.2 (.n h.next) 6 fun l375 =>
 ldI r325.2 (.n h.next) 7 fun n377 =>
 ldI r325.2 (.n (h.next + 1)) 1 fun n379 =>
 (k98 [(.agg [(.i .i64 n363), (.sl l365.1 l365.2), (.sl l367.1 l367.2), (.i .i64 n369), (.sl l371.1 l371.2), (.sl l373.1 l373.2), (.sl l375.1 l375.2), (.i .i64 n377)]), (.i .i64 n379)] r325.2).bind fun r380 =>
 (AV.asTup 2 r380.1).bind fun c381 =>
 (AV.asAgg 8 (c381.getD 0 .u)).bind fun c382 =>
 gtI c382 0 fun n383 =>
 gtS c382 1 fun l384 =>
 gtS c382 2 fun l385 =>
 gtI c382 3 fun n386 =>
 gtS c382 4 fun l387 =>
 gtS c382 5 fun l388 =>
 gtS c382 6 fun l389 =>
 gtI c382 7 fun n390 =>
 (AV.asB (c381.getD 1 .u)).bind fun b391 =>
 (r380.2.st (.n h.next) 0 [(.i .i64 n383), (.sl l384.1 l384.2), (.sl l385.1 l385.2), (.i .i64 n386), (.sl l387.1 l387.2), (.sl l388.1 l388.2), (.sl l389.1 l389.2), (.i .i64 n390)]).bind fun h392 =>
 ldI h392 (.n h.next) 0 fun n394 =>
 ldS h392 (.n h.next) 1 fun l396 =>
 ldS h392 (.n h.next) 2 fun l398 =>
 ldI h392 (.n h.next) 3 fun n400 =>
 ldS h392 (.n h.next) 4 fun l402 =>
 ldS h392 (.n h.next) 5 fun l404 =>
 ldS h392 (.n h.next) 6 fun l406 =>
 ldI h392 (.n h.next) 7 fun n408 =>
 ((bif ((b305 == b391) == true) then
 some ([(.b ((n306 : Int) == 0))], h392)
 else some ([(.b false)], h392)) : Option (List AV × AH O)).bind fun r409 =>
 (AV.asB (r409.1.getD 0 .u)).bind fun b410 =>
 (r409.2.st (.n ((h.next + 1) + 1)) 0 [(.i .i64 n394), (.sl l396.1 l396.2), (.sl l398.1 l398.2), (.i .i64 n400), (.sl l402.1 l402.2), (.sl l404.1 l404.2), (.sl l406.1 l406.2), (.i .i64 n408)]).bind fun h411 =>
 ldI h411 (.n ((h.next + 1) + 1)) 0 fun n413 =>
 ldS h411 (.n ((h.next + 1) + 1)) 1 fun l415 =>
 ldS h411 (.n ((h.next + 1) + 1)) 2 fun l417 =>
 ldI h411 (.n ((h.next + 1) + 1)) 3 fun n419 =>
 ldS h411 (.n ((h.next + 1) + 1)) 4 fun l421 =>
 ldS h411 (.n ((h.next + 1) + 1)) 5 fun l423 =>
 ldS h411 (.n ((h.next + 1) + 1)) 6 fun l425 =>
 ldI h411 (.n ((h.next + 1) + 1)) 7 fun n427 =>
 some ((.tup [(.agg [(.i .i64 n413), (.sl l415.1 l415.2), (.sl l417.1 l417.2), (.i .i64 n419), (.sl l421.1 l421.2), (.sl l423.1 l423.2), (.sl l425.1 l425.2), (.i .i64 n427)]), (.i .u64 12), (.b b410)]), h411))
 else (bif ((n21 : Int) == 5) then
 (k30 [(.p p0)] h19).bind fun r428 =>
 (AV.asTup 2 r428.1).bind fun c429 =>
 gtI c429 0 fun n430 =>
 (AV.asB (c429.getD 1 .u)).bind fun b431 =>
 ldI r428.2 (.n h.next) 0 fun n433 =>
 ldS r428.2 (.n h.next) 1 fun l435 =>
 ldS r428.2 (.n h.next) 2 fun l437 =>
 ldI r428.2 (.n h.next) 3 fun n439 =>
 ldS r428.2 (.n h.next) 4 fun l441 =>
 ldS r428.2 (.n h.next) 5 fun l443 =>
 ldS r428.2 (.n h.next) 6 fun l445 =>
 ldI r428.2 (.n h.next) 7 fun n447 =>
 (k99 [(.agg [(.i .i64 n433), (.sl l435.1 l435.2), (.sl l437.1 l437.2), (.i .i64 n439), (.sl l441.1 l441.2), (.sl l443.1 l443.2), (.sl l445.1 l445.2), (.i .i64 n447)])] r428.2).bind fun r448 =>
 (AV.asTup 3 r448.1).bind fun c449 =>
 (AV.asAgg 8 (c449.getD 0 .u)).bind fun c450 =>
 gtI c450 0 fun n451 =>
 gtS c450 1 fun l452 =>
 gtS c450 2 fun l453 =>
 gtI c450 3 fun n454 =>
 gtS c450 4 fun l455 =>
 gtS c450 5 fun l456 =>
 gtS c450 6 fun l457 =>
 gtI c450 7 fun n458 =>
 gtI c449 1 fun n459 =>
 (AV.asB (c449.getD 2 .u)).bind fun b460 =>
 (r448.2.st (.n h.next) 0 [(.i .i64 n451), (.sl l452.1 l452.2), (.sl l453.1 l453.2), (.i .i64 n454), (.sl l455.1 l455.2), (.sl l456.1 l456.2), (.sl l457.1 l457.2), (.i .i64 n458)]).bind fun h461 =>
 ldI h461 (.n h.next) 0 fun n463 =>
 ldS h461 (.n h.next) 1 fun l465 =>
 ldS h461 (.n h.next) 2 fun l467 =>
 ldI h461 (.n h.next) 3 fun n469 =>
 ldS h461 (.n h.next) 4 fun l471 =>
 ldS h461 (.n h.next) 5 fun l473 =>
 ldS h461 (.n h.next) 6 fun l475 =>
 ldI h461 (.n h.next) 7 fun n477 =>
 ((bif (((n430 : Int) == n459) == true) then
 some ([(.b (b431 == b460))], h461)
 else some ([(.b false)], h461)) : Option (List AV × AH O)).bind fun r478 =>
 (AV.asB (r478.1.getD 0 .u)).bind fun b479 =>
 (r478.2.st (.n ((h.next + 1) + 1)) 0 [(.i .i64 n463), (.sl l465.1 l465.2), (.sl l467.1 l467.2), (.i .i64 n469), (.sl l471.1 l471.2), (.sl l473.1 l473.2), (.sl l475.1 l475.2), (.i .i64 n477)]).bind fun h480 =>
 ldI h480 (.n ((h.next + 1) + 1)) 0 fun n482 =>
 ldS h480 (.n ((h.next + 1) + 1)) 1 fun l484 =>
 ldS h480 (.n ((h.next + 1) + 1)) 2 fun l486 =>
 ldI h480 (.n ((h.next + 1) + 1)) 3 fun n488 =>
 ldS h480 (.n ((h.next + 1) + 1)) 4 fun l490 =>
 ldS h480 (.n ((h.next + 1) + 1)) 5 fun l492 =>
 ldS h480 (.n ((h.next + 1) + 1)) 6 fun l494 =>
 ldI h480 (.n ((h.next + 1) + 1)) 7 fun n496 =>
 some ((.tup [(.agg [(.i .i64 n482), (.sl l484.1 l484.2), (.sl l486.1 l486.2), (.i .i64 n488), (.sl l490.1 l490.2), (.sl l492.1 l492.2), (.sl l494.1 l494.2), (.i .i64 n496)]), (.i .u64 1), (.b b479)]), h480)
 else (bif ((n21 : Int) == 6) then
 (k34 [(.p p0)] h19).bind fun r497 =>
 (AV.asTup 2 r497.1).bind fun c498 =>
 gtI c498 0 fun n499 =>
 gtI c498 1 fun n500 =>
 ldI r497.2 (.n h.next) 0 fun n502 =>
 ldS r497.2 (.n h.next) 1 fun l504 =>
 ldS r497.2 (.n h.next) 2 fun l506 =>
 ldI r497.2 (.n h.next) 3 fun n508 =>
 ldS r497.2 (.n h.next) 4 fun l510 =>
 ldS r497.2 (.n h.next) 5 fun l512 =>
 ldS r497.2 (.n h.next) 6 fun l514 =>
 ldI r497.2 (.n h.next) 7 fun n516 =>
 (k100 [(.agg [(.i .i64 n502), (.sl l504.1 l504.2), (.sl l506.1 l506.2), (.i .i64 n508), (.sl l510.1 l510.2), (.sl l512.1 l512.2), (.sl l514.1 l514.2), (.i .i64 n516)])] r497.2).bind fun r517 =>
 (AV.asTup 3 r517.1).bind fun c518 =>
 (AV.asAgg 8 (c518.getD 0 .u)).bind fun c519 =>
 gtI c519 0 fun n520 =>
 gtS c519 1 fun l521 =>
 gtS c519 2 fun l522 =>
 gtI c519 3 fun n523 =>
 gtS c519 4 fun l524 =>
 gtS c519 5 fun l525 =>
 gtS c519 6 fun l526 =>
 gtI c519 7 fun n527 =>
 gtI c518 1 fun n528 =>
 gtI c518 2 fun n529 =>
 (r517.2.st (.n h.next) 0 [(.i .i64 n520), (.sl l521.1 l521.2), (.sl l522.1 l522.2), (.i .i64 n523), (.sl l524.1 l524.2), (.sl l525.1 l525.2), (.sl l526.1 l526.2), (.i .i64 n527)]).bind fun h530 =>
 ldI h530 (.n h.next) 0 fun n532 =>
 ldS h530 (.n h.next) 1 fun l534 =>
 ldS h530 (.n h.next) 2 fun l536 =>
 ldI h530 (.n h.next) 3 fun n538 =>
 ldS h530 (.n h.next) 4 fun l540 =>
 ldS h530 (.n h.next) 5 fun l542 =>
 ldS h530 (.n h.next) 6 fun l544 =>
 ldI h530 (.n h.next) 7 fun n546 =>
 let v547 : Int := (IntKind.u64.wrap (IntKind.i64.wrap (16 * n528)))
 ((bif (((n499 : Int) == n528) == true) then
 some ([(.b ((n500 : Int) == n529))], h530)
 else some ([(.b false)], h530)) : Option (List AV × AH O)).bind fun r548 =>
 (AV.asB (r548.1.getD 0 .u)).bind fun b549 =>
 (r548.2.st (.n ((h.next + 1) + 1)) 0 [(.i .i64 n532), (.sl l534.1 l534.2), (.sl l536.1 l536.2), (.i .i64 n538), (.sl l540.1 l540.2), (.sl l542.1 l542.2), (.sl l544.1 l544.2), (.i .i64 n546)]).bind fun h550 =>
 ldI h550 (.n ((h.next + 1) + 1)) 0 fun n552 =>
 ldS h550 (.n ((h.next + 1) + 1)) 1 fun l554 =>
 ldS h550 (.n ((h.next + 1) + 1)) 2 fun l556 =>
 ldI h550 (.n ((h.next + 1) + 1)) 3 fun n558 =>
 ldS h550 (.n ((h.next + 1) + 1)) 4 fun l560 =>
 ldS h550 (.n ((h.next + 1) + 1)) 5 fun l562 =>
 ldS h550 (.n ((h.next + 1) + 1)) 6 fun l564 =>
 ldI h550 (.n ((h.next + 1) + 1)) 7 fun n566 =>
 some ((.tup [(.agg [(.i .i64 n552), (.sl l554.1 l554.2), (.sl l556.1 l556.2), (.i .i64 n558), (.sl l560.1 l560.2), (.sl l562.1 l562.2), (.sl l564.1 l564.2), (.i .i64 n566)]), (.i .u64 v547), (.b b549)]), h550)
 else ldI h19 (.n h.next) 0 fun n568 =>
 ldS h19 (.n h.next) 1 fun l570 =>
 ldS h19 (.n h.next) 2 fun l572 =>
 ldI h19 (.n h.next) 3 fun n574 =>
 ldS h19 (.n h.next) 4 fun l576 =>
 ldS h19 (.n h.next) 5 fun l578 =>
 ldS h19 (.n h.next) 6 fun l580 =>
 ldI h19 (.n h.next) 7 fun n582 =>
 ldI h19 (.n h.next) 0 fun n584 =>
 ldS h19 (.n h.next) 1 fun l586 =>
 ldS h19 (.n h.next) 2 fun l588 =>
 ldI h19 (.n h.next) 3 fun n590 =>
 ldS h19 (.n h.next) 4 fun l592 =>
 ldS h19 (.n h.next) 5 fun l594 =>
 ldS h19 (.n h.next) 6 fun l596 =>
 ldI h19 (.n h.next) 7 fun n598 =>
 ldI h19 (.n (h.next + 1)) 1 fun n600 =>
 (k43 [(.p p0), (.agg [(.i .i64 n584), (.sl l586.1 l586.2), (.sl l588.1 l588.2), (.i .i64 n590), (.sl l592.1 l592.2), (.sl l594.1 l594.2), (.sl l596.1 l596.2), (.i .i64 n598)]), (.i .i64 n600)] h19).bind fun r601 =>
 (AV.asB r601.1).bind fun b602 =>
 (chkE (r601.2.ld (.n h.next) 0) (some (.i .i64 n568))).bind fun _ =>
 (chkE (r601.2.ld (.n h.next) 1) (some (.sl l570.1 l570.2))).bind fun _ =>
 (chkE (r601.2.ld (.n h.next) 2) (some (.sl l572.1 l572.2))).bind fun _ =>
 (chkE (r601.2.ld (.n h.next) 3) (some (.i .i64 n574))).bind fun _ =>
 (chkE (r601.2.ld (.n h.next) 4) (some (.sl l576.1 l576.2))).bind fun _ =>
 (chkE (r601.2.ld (.n h.next) 5) (some (.sl l578.1 l578.2))).bind fun _ =>
 (chkE (r601.2.ld (.n h.next) 6) (some (.sl l580.1 l580.2))).bind fun _ =>
 (chkE (r601.2.ld (.n h.next) 7) (some (.i .i64 n582))).bind fun _ =>
 (r601.2.st (.n ((h.next + 1) + 1)) 0 [(.i .i64 n568), (.sl l570.1 l570.2), (.sl l572.1 l572.2), (.i .i64 n574), (.sl l576.1 l576.2), (.sl l578.1 l578.2), (.sl l580.1 l580.2), (.i .i64 n582)]).bind fun h603 =>
 ldI h603 (.n ((h.next + 1) + 1)) 0 fun n605 =>
 ldS h603 (.n ((h.next + 1) + 1)) 1 fun l607 =>
 ldS h603 (.n ((h.next + 1) + 1)) 2 fun l609 =>
 ldI h603 (.n ((h.next + 1) + 1)) 3 fun n611 =>
 ldS h603 (.n ((h.next + 1) + 1)) 4 fun l613 =>
 ldS h603 (.n ((h.next + 1) + 1)) 5 fun l615 =>
 ldS h603 (.n ((h.next + 1) + 1)) 6 fun l617 =>
 ldI h603 (.n ((h.next + 1) + 1)) 7 fun n619 =>
 some ((.tup [(.agg [(.i .i64 n605), (.sl l607.1 l607.2), (.sl l609.1 l609.2), (.i .i64 n611), (.sl l613.1 l613.2), (.sl l615.1 l615.2), (.sl l617.1 l617.2), (.i .i64 n619)]), (.i .u64 4), (.b b602)]), h603))))))))
 else none
def law15_do : Sm O := law15_do_c large_Large__Add haymowref15_Add large_Large__Write haymowref15_Write large_Large__Read haymowref15_Wrong large_Large__Begin haymowref15_Begin large_Large__Mark haymowref15_Is haymowref15_Mark large_Large__Grey haymowref15_Grey large_Large__Sweep haymowref15_Sweep law15_known
theorem law15_do_ent : Entered Try.prog 40 := Try.call40
theorem law15_do_run (k27 k93 k31 k94 k37 k95 k28 k96 k29 k97 k98 k30 k99 k34 k100 k43 : Sm O) : run (O := O) Try.prog [(27, k27), (93, k93), (31, k31), (94, k94), (37, k37), (95, k95), (28, k28), (96, k96), (29, k29), (97, k97), (98, k98), (30, k30), (99, k99), (34, k34), (100, k100), (43, k43)] Try.f40 (.n .z (.n .z (.n (.n .z (.n (.n .z (.n (.n .z (.n .z (.n (.g [(4, 3, [(52, .one .b)])]) .z))) (.n .z (.n (.n .z (.n .z .z)) (.n .z (.n (.n .z (.n .z (.n (.d [(4, 6, [(106, .one .b)]), (7, 2, [(105, .one .b)]), (12, 18, [(125, .one .b)]), (15, 15, [(125, .one .b)])] [0, 1, 2, 3, 4, 5, 6, 7, 8, 9, 10, 11, 12, 13, 14, 15, 16, 17, 18, 19, 20, 21, 22, 23, 24, 25, 26, 27, 28, 29, 30, 31, 32, 33] [0, 0, 0, 6, 14, 30, 62, 126, 254, 510, 1022, 2046, 4094, 8190, 16382, 32766, 65534, 65534, 196606, 65534, 589822, 1638398, 4128766, 8323070, 65534, 16842750, 67043326, 134152190, 268435454, 536870910, 1073741822, 65535, 2147549183, 8589934591]) .z))) (.n .z (.n (.n .z .z) (.n .z (.n (.n .z (.n (.n .z (.n (.n (.g [(3, 2, [(152, .one .b)])]) .z) .z)) (.n .z (.n .z (.n (.g [(4, 2, [(167, .one .b)])]) .z))))) (.n .z (.n (.n .z (.n .z (.n .z (.n (.g [(4, 3, [(189, .one .b)])]) .z)))) (.n .z (.n (.n .z (.n .z (.n (.g [(7, 3, [(214, .one .b)])]) .z))) .z)))))))))))))) .z)) (.n (.d [] [0, 1, 2, 3, 4, 5, 6, 7, 8] [0, 0, 0, 0, 8, 30, 63, 127, 255]) .z)))) = law15_do_c k27 k93 k31 k94 k37 k95 k28 k96 k29 k97 k98 k30 k99 k34 k100 k43 := by kernel_rfl
theorem law15_do_sound : FSound RO Try.prog 40 law15_do := sdf (law15_do_run _ _ _ _ _ _ _ _ _ _ _ _ _ _ _ _) (gcons large_Large__Add_ent large_Large__Add_sound <| gcons haymowref15_Add_ent haymowref15_Add_sound <| gcons large_Large__Write_ent large_Large__Write_sound <| gcons haymowref15_Write_ent haymowref15_Write_sound <| gcons large_Large__Read_ent large_Large__Read_sound <| gcons haymowref15_Wrong_ent haymowref15_Wrong_sound <| gcons large_Large__Begin_ent large_Large__Begin_sound <| gcons haymowref15_Begin_ent haymowref15_Begin_sound <| gcons large_Large__Mark_ent large_Large__Mark_sound <| gcons haymowref15_Is_ent haymowref15_Is_sound <| gcons haymowref15_Mark_ent haymowref15_Mark_sound <| gcons large_Large__Grey_ent large_Large__Grey_sound <| gcons haymowref15_Grey_ent haymowref15_Grey_sound <| gcons large_Large__Sweep_ent large_Large__Sweep_sound <| gcons haymowref15_Sweep_ent haymowref15_Sweep_sound <| gcons law15_known_ent law15_known_sound <| gnil) Try.func40 (by kernel_rfl)
def wide_Cmp_c : Sm O := fun xs h =>
 bif Nat.beq xs.length 2 then
 (AV.asAgg 2 (xs.getD 0 .u)).bind fun c0 =>
 gtU c0 0 fun n1 =>
 gtU c0 1 fun n2 =>
 (AV.asAgg 2 (xs.getD 1 .u)).bind fun c3 =>
 gtU c3 0 fun n4 =>
 gtU c3 1 fun n5 =>
 let h6 := h.bump 2
 let h7 := h6.put h.next (.cells true 38 [(.i .u64 n1), (.i .u64 n2)])
 let h8 := h7.put (h.next + 1) (.cells true 38 [(.i .u64 n4), (.i .u64 n5)])
 ldU h8 (.n h.next) 0 fun n10 =>
 ldU h8 (.n h.next) 1 fun n12 =>
 ldU h8 (.n (h.next + 1)) 0 fun n14 =>
 ldU h8 (.n (h.next + 1)) 1 fun n16 =>
 (bif (((n10 : Int) == n14) && (((n12 : Int) == n16) && true)) then
 some ((.i .i64 0), h8)
 else ldU h8 (.n h.next) 0 fun n18 =>
 ldU h8 (.n (h.next + 1)) 0 fun n20 =>
 ((bif ((decide (n18 < n20)) == false) then
 ldU h8 (.n h.next) 0 fun n22 =>
 ldU h8 (.n (h.next + 1)) 0 fun n24 =>
 ((bif (((n22 : Int) == n24) == true) then
 ldU h8 (.n h.next) 1 fun n26 =>
 ldU h8 (.n (h.next + 1)) 1 fun n28 =>
 some ([(.b (decide (n26 < n28)))], h8)
 else some ([(.b false)], h8)) : Option (List AV × AH O)).bind fun r29 =>
 (AV.asB (r29.1.getD 0 .u)).bind fun b30 =>
 some ([(.b b30)], r29.2)
 else some ([(.b true)], h8)) : Option (List AV × AH O)).bind fun r31 =>
 (AV.asB (r31.1.getD 0 .u)).bind fun b32 =>
 (bif b32 then
 some ((.i .i64 (-1)), r31.2)
 else some ((.i .i64 1), r31.2)))
 else none
def wide_Cmp : Sm O := wide_Cmp_c
theorem wide_Cmp_ent : Entered Try.prog 159 := Try.call159
theorem wide_Cmp_run : run (O := O) Try.prog [] Try.f159 (.n .z (.n (.n (.n .z (.n .z (.n (.g [(5, 12, [(28, .one .b)]), (11, 5, [(27, .one .b)])]) (.n .z .z)))) .z) .z)) = wide_Cmp_c  := by kernel_rfl
theorem wide_Cmp_sound : FSound RO Try.prog 159 wide_Cmp := sdf wide_Cmp_run (gnil) Try.func159 (by kernel_rfl)
def wide_Less_c (k159 : Sm O) : Sm O := fun xs h =>
 bif Nat.beq xs.length 2 then
 (AV.asAgg 2 (xs.getD 0 .u)).bind fun c0 =>
 gtU c0 0 fun n1 =>
 gtU c0 1 fun n2 =>
 (AV.asAgg 2 (xs.getD 1 .u)).bind fun c3 =>
 gtU c3 0 fun n4 =>
 gtU c3 1 fun n5 =>
 let h6 := h.bump 2
 let h7 := h6.put h.next (.cells true 38 [(.i .u64 n1), (.i .u64 n2)])
 let h8 := h7.put (h.next + 1) (.cells true 38 [(.i .u64 n4), (.i .u64 n5)])
 ldU h8 (.n h.next) 0 fun n10 =>
 ldU h8 (.n h.next) 1 fun n12 =>
 ldU h8 (.n (h.next + 1)) 0 fun n14 =>
 ldU h8 (.n (h.next + 1)) 1 fun n16 =>
 (k159 [(.agg [(.i .u64 n10), (.i .u64 n12)]), (.agg [(.i .u64 n14), (.i .u64 n16)])] h8).bind fun r17 =>
 (AV.asI .i64 r17.1).bind fun n18 =>
 some ((.b (decide (n18 < 0))), r17.2)
 else none
def wide_Less : Sm O := wide_Less_c wide_Cmp
theorem wide_Less_ent : Entered Try.prog 133 := Try.call133
theorem wide_Less_run (k159 : Sm O) : run (O := O) Try.prog [(159, k159)] Try.f133 (.n .z .z) = wide_Less_c k159 := by kernel_rfl
theorem wide_Less_sound : FSound RO Try.prog 133 wide_Less := sdf (wide_Less_run _) (gcons wide_Cmp_ent wide_Cmp_sound <| gnil) Try.func133 (by kernel_rfl)
def wide_Sub_c (k133 k134 : Sm O) : Sm O := fun xs h =>
 bif Nat.beq xs.length 2 then
 (AV.asAgg 2 (xs.getD 0 .u)).bind fun c0 =>
 gtU c0 0 fun n1 =>
 gtU c0 1 fun n2 =>
 (AV.asAgg 2 (xs.getD 1 .u)).bind fun c3 =>
 gtU c3 0 fun n4 =>
 gtU c3 1 fun n5 =>
 let h6 := h.bump 3
 let h7 := h6.put h.next (.cells true 38 [(.i .u64 n1), (.i .u64 n2)])
 let h8 := h7.put (h.next + 1) (.cells true 38 [(.i .u64 n4), (.i .u64 n5)])
 let h9 := h8.put ((h.next + 1) + 1) (.cells true 38 [(.i .u64 0), (.i .u64 0)])
 ldU h9 (.n h.next) 0 fun n11 =>
 ldU h9 (.n h.next) 1 fun n13 =>
 ldU h9 (.n (h.next + 1)) 0 fun n15 =>
 ldU h9 (.n (h.next + 1)) 1 fun n17 =>
 (k133 [(.agg [(.i .u64 n11), (.i .u64 n13)]), (.agg [(.i .u64 n15), (.i .u64 n17)])] h9).bind fun r18 =>
 (AV.asB r18.1).bind fun b19 =>
 (bif b19 then
 (r18.2.st (.n ((h.next + 1) + 1)) 0 [(.i .u64 0), (.i .u64 0)]).bind fun h20 =>
 ldU h20 (.n ((h.next + 1) + 1)) 0 fun n22 =>
 ldU h20 (.n ((h.next + 1) + 1)) 1 fun n24 =>
 some ((.tup [(.agg [(.i .u64 n22), (.i .u64 n24)]), (.b false)]), h20)
 else ldU r18.2 (.n h.next) 1 fun n26 =>
 ldU r18.2 (.n (h.next + 1)) 1 fun n28 =>
 (k134 [(.i .u64 n26), (.i .u64 n28), (.i .u64 0)] r18.2).bind fun r29 =>
 (AV.asTup 2 r29.1).bind fun c30 =>
 gtU c30 0 fun n31 =>
 gtU c30 1 fun n32 =>
 ldU r29.2 (.n h.next) 0 fun n34 =>
 ldU r29.2 (.n (h.next + 1)) 0 fun n36 =>
 (k134 [(.i .u64 n34), (.i .u64 n36), (.i .u64 n32)] r29.2).bind fun r37 =>
 (AV.asTup 2 r37.1).bind fun c38 =>
 gtU c38 0 fun n39 =>
 gtU c38 1 fun n40 =>
 (r37.2.st (.n ((h.next + 1) + 1)) 0 [(.i .u64 n39), (.i .u64 n31)]).bind fun h41 =>
 ldU h41 (.n ((h.next + 1) + 1)) 0 fun n43 =>
 ldU h41 (.n ((h.next + 1) + 1)) 1 fun n45 =>
 some ((.tup [(.agg [(.i .u64 n43), (.i .u64 n45)]), (.b true)]), h41))
 else none
def wide_Sub : Sm O := wide_Sub_c wide_Less bits_Sub64
theorem wide_Sub_ent : Entered Try.prog 77 := Try.call77
theorem wide_Sub_run (k133 k134 : Sm O) : run (O := O) Try.prog [(133, k133), (134, k134)] Try.f77 (.n .z (.n (.n .z (.n .z .z)) (.n .z (.n .z .z)))) = wide_Sub_c k133 k134 := by kernel_rfl
theorem wide_Sub_sound : FSound RO Try.prog 77 wide_Sub := sdf (wide_Sub_run _ _) (gcons wide_Less_ent wide_Less_sound <| gext bits_Sub64_ext <| gnil) Try.func77 (by kernel_rfl)
def meter_Meter__Since_c (k12 k77 : Sm O) : Sm O := fun xs h =>
 bif Nat.beq xs.length 2 then
 (AV.asP (xs.getD 0 .u)).bind fun p0 =>
 (AV.asAgg 2 (xs.getD 1 .u)).bind fun c1 =>
 gtU c1 0 fun n2 =>
 gtU c1 1 fun n3 =>
 let h4 := h.bump 2
 let h5 := h4.put h.next (.cells true 38 [(.i .u64 n2), (.i .u64 n3)])
 let h6 := h5.put (h.next + 1) (.cells true 38 [(.i .u64 0), (.i .u64 0)])
 let h7 := h6.bump 1
 ldU h7 (.n h.next) 0 fun n9 =>
 ldU h7 (.n h.next) 1 fun n11 =>
 (k12 [(.p p0)] h7).bind fun r12 =>
 (AV.asAgg 2 r12.1).bind fun c13 =>
 gtU c13 0 fun n14 =>
 gtU c13 1 fun n15 =>
 (chkE (r12.2.ld (.n h.next) 0) (some (.i .u64 n9))).bind fun _ =>
 (chkE (r12.2.ld (.n h.next) 1) (some (.i .u64 n11))).bind fun _ =>
 (k77 [(.agg [(.i .u64 n14), (.i .u64 n15)]), (.agg [(.i .u64 n9), (.i .u64 n11)])] r12.2).bind fun r16 =>
 (AV.asTup 2 r16.1).bind fun c17 =>
 (AV.asAgg 2 (c17.getD 0 .u)).bind fun c18 =>
 gtU c18 0 fun n19 =>
 gtU c18 1 fun n20 =>
 (AV.asB (c17.getD 1 .u)).bind fun b21 =>
 let h22 := r16.2.put h6.next (.cells true 38 [(.i .u64 0), (.i .u64 0)])
 (h22.st (.n h6.next) 0 [(.i .u64 n19), (.i .u64 n20)]).bind fun h23 =>
 ldU h23 (.n h6.next) 0 fun n25 =>
 ldU h23 (.n h6.next) 1 fun n27 =>
 (h23.st (.n (h.next + 1)) 0 [(.i .u64 n25), (.i .u64 n27)]).bind fun h28 =>
 ldU h28 (.n (h.next + 1)) 0 fun n30 =>
 ldU h28 (.n (h.next + 1)) 1 fun n32 =>
 some ((.agg [(.i .u64 n30), (.i .u64 n32)]), h28)
 else none
def meter_Meter__Since : Sm O := meter_Meter__Since_c meter_Meter__Steps wide_Sub
theorem meter_Meter__Since_ent : Entered Try.prog 18 := Try.call18
theorem meter_Meter__Since_run (k12 k77 : Sm O) : run (O := O) Try.prog [(12, k12), (77, k77)] Try.f18 (.n .z (.n (.d [] [0, 2, 1, 3, 4, 5, 6, 7, 8, 9] [0, 1, 0, 7, 15, 31, 31, 0, 191, 511]) .z)) = meter_Meter__Since_c k12 k77 := by kernel_rfl
theorem meter_Meter__Since_sound : FSound RO Try.prog 18 meter_Meter__Since := sdf (meter_Meter__Since_run _ _) (gcons meter_Meter__Steps_ent meter_Meter__Steps_sound <| gcons wide_Sub_ent wide_Sub_sound <| gnil) Try.func18 (by kernel_rfl)
def haymowref01_Parts_c : Sm O := fun xs h =>
 bif Nat.beq xs.length 1 then
 (AV.asAgg 2 (xs.getD 0 .u)).bind fun c0 =>
 gtU c0 0 fun n1 =>
 gtU c0 1 fun n2 =>
 let h3 := h.bump 2
 let h4 := h3.put h.next (.cells true 38 [(.i .u64 n1), (.i .u64 n2)])
 let h5 := h4.put (h.next + 1) (.cells true 155 [(.i .u64 0), (.i .u64 0), (.i .u64 0), (.i .u64 0), (.i .u64 0), (.i .u64 0)])
 ldU h5 (.n h.next) 1 fun n7 =>
 ldU h5 (.n h.next) 1 fun n9 =>
 ldU h5 (.n h.next) 0 fun n11 =>
 ldU h5 (.n h.next) 0 fun n13 =>
 (h5.st (.n (h.next + 1)) 0 [(.i .u64 (Int.tmod n7 4294967296)), (.i .u64 (IntKind.u64.wrap (Int.tdiv n9 4294967296))), (.i .u64 (Int.tmod n11 4294967296)), (.i .u64 (IntKind.u64.wrap (Int.tdiv n13 4294967296))), (.i .u64 0), (.i .u64 0)]).bind fun h14 =>
 ldU h14 (.n (h.next + 1)) 0 fun n16 =>
 ldU h14 (.n (h.next + 1)) 1 fun n18 =>
 ldU h14 (.n (h.next + 1)) 2 fun n20 =>
 ldU h14 (.n (h.next + 1)) 3 fun n22 =>
 ldU h14 (.n (h.next + 1)) 4 fun n24 =>
 ldU h14 (.n (h.next + 1)) 5 fun n26 =>
 some ((.agg [(.i .u64 n16), (.i .u64 n18), (.i .u64 n20), (.i .u64 n22), (.i .u64 n24), (.i .u64 n26)]), h14)
 else none
def haymowref01_Parts : Sm O := haymowref01_Parts_c
theorem haymowref01_Parts_ent : Entered Try.prog 76 := Try.call76
theorem haymowref01_Parts_run : run (O := O) Try.prog [] Try.f76 (.n .z .z) = haymowref01_Parts_c  := by kernel_rfl
theorem haymowref01_Parts_sound : FSound RO Try.prog 76 haymowref01_Parts := sdf haymowref01_Parts_run (gnil) Try.func76 (by kernel_rfl)
def haymowref01_Cmp_L1 (h8 : AH O) : List AV × AH O -> Option ((List AV × AH O) ⊕ ((List AV × AH O) ⊕ (AV × AH O))) := (fun r38 =>
 (AV.asI .i64 (r38.1.getD 0 .u)).bind fun n39 =>
 (bif (decide (n39 >= 0)) then
 (bif ((decide ((0 : Int) <= n39)) && (decide (n39 < 6))) then
 ldU r38.2 (.n h8.next) (0 + (n39.toNat * 1)) fun n41 =>
 (bif ((decide ((0 : Int) <= n39)) && (decide (n39 < 6))) then
 ldU r38.2 (.n (h8.next + 1)) (0 + (n39.toNat * 1)) fun n43 =>
 (bif (decide (n41 < n43)) then
 ((some ((.i .i64 (-1)), r38.2) : Option (AV × AH O)).map fun r => Sum.inr (Sum.inr r))
 else (bif ((decide ((0 : Int) <= n39)) && (decide (n39 < 6))) then
 ldU r38.2 (.n h8.next) (0 + (n39.toNat * 1)) fun n45 =>
 (bif ((decide ((0 : Int) <= n39)) && (decide (n39 < 6))) then
 ldU r38.2 (.n (h8.next + 1)) (0 + (n39.toNat * 1)) fun n47 =>
 (bif (decide (n45 > n47)) then
 ((some ((.i .i64 1), r38.2) : Option (AV × AH O)).map fun r => Sum.inr (Sum.inr r))
 else some (Sum.inl ([(.i .i64 (IntKind.i64.wrap (n39 - 1)))], r38.2)))
 else none)
 else none))
 else none)
 else none)
 else some (Sum.inr (Sum.inl ([], r38.2)))))
def haymowref01_Cmp_c (k76 : Sm O) : Sm O := fun xs h =>
 bif Nat.beq xs.length 2 then
 (AV.asAgg 2 (xs.getD 0 .u)).bind fun c0 =>
 gtU c0 0 fun n1 =>
 gtU c0 1 fun n2 =>
 (AV.asAgg 2 (xs.getD 1 .u)).bind fun c3 =>
 gtU c3 0 fun n4 =>
 gtU c3 1 fun n5 =>
 let h6 := h.bump 2
 let h7 := h6.put h.next (.cells true 38 [(.i .u64 n1), (.i .u64 n2)])
 let h8 := h7.put (h.next + 1) (.cells true 38 [(.i .u64 n4), (.i .u64 n5)])
 let h9 := h8.bump 2
 ldU h9 (.n h.next) 0 fun n11 =>
 ldU h9 (.n h.next) 1 fun n13 =>
 ldU h9 (.n (h.next + 1)) 0 fun n15 =>
 ldU h9 (.n (h.next + 1)) 1 fun n17 =>
 (k76 [(.agg [(.i .u64 n11), (.i .u64 n13)])] h9).bind fun r18 =>
 (AV.asAgg 6 r18.1).bind fun c19 =>
 gtU c19 0 fun n20 =>
 gtU c19 1 fun n21 =>
 gtU c19 2 fun n22 =>
 gtU c19 3 fun n23 =>
 gtU c19 4 fun n24 =>
 gtU c19 5 fun n25 =>
 (chkE (r18.2.ld (.n (h.next + 1)) 0) (some (.i .u64 n15))).bind fun _ =>
 (chkE (r18.2.ld (.n (h.next + 1)) 1) (some (.i .u64 n17))).bind fun _ =>
 (k76 [(.agg [(.i .u64 n15), (.i .u64 n17)])] r18.2).bind fun r26 =>
 (AV.asAgg 6 r26.1).bind fun c27 =>
 gtU c27 0 fun n28 =>
 gtU c27 1 fun n29 =>
 gtU c27 2 fun n30 =>
 gtU c27 3 fun n31 =>
 gtU c27 4 fun n32 =>
 gtU c27 5 fun n33 =>
 let h34 := r26.2.put h8.next (.cells true 155 [(.i .u64 0), (.i .u64 0), (.i .u64 0), (.i .u64 0), (.i .u64 0), (.i .u64 0)])
 let h35 := h34.put (h8.next + 1) (.cells true 155 [(.i .u64 0), (.i .u64 0), (.i .u64 0), (.i .u64 0), (.i .u64 0), (.i .u64 0)])
 (h35.st (.n h8.next) 0 [(.i .u64 n20), (.i .u64 n21), (.i .u64 n22), (.i .u64 n23), (.i .u64 n24), (.i .u64 n25)]).bind fun h36 =>
 (h36.st (.n (h8.next + 1)) 0 [(.i .u64 n28), (.i .u64 n29), (.i .u64 n30), (.i .u64 n31), (.i .u64 n32), (.i .u64 n33)]).bind fun h37 =>
 bindS (S := List AV × AH O) (R := (AV × AH O)) (loopF (S := List AV × AH O) (T := (List AV × AH O) ⊕ (AV × AH O)) (haymowref01_Cmp_L1 h8) ([(.i .i64 3)], h37)) fun r48 =>
 some ((.i .i64 0), r48.2)
 else none
def haymowref01_Cmp : Sm O := haymowref01_Cmp_c haymowref01_Parts
theorem haymowref01_Cmp_ent : Entered Try.prog 17 := Try.call17
theorem haymowref01_Cmp_run (k76 : Sm O) : run (O := O) Try.prog [(76, k76)] Try.f17 (.n .z (.n (.d [] [0, 2, 1, 3, 4, 5, 6, 7] [0, 1, 0, 7, 0, 0, 63, 127]) (.n (.n .z (.n (.lp true 0 [(7, .one (.i .i64))] [] (.n (.n .z .z) (.n (.n (.n (.n (.d [] [0, 1, 2, 3, 4, 5, 6] [0, 1, 3, 0, 8, 24, 63]) (.n .z .z)) (.n (.d [] [0, 1, 2, 3, 4, 5, 6] [0, 1, 3, 0, 8, 24, 63]) (.n .z .z))) .z) .z))) .z)) .z))) = haymowref01_Cmp_c k76 := by kernel_rfl
theorem haymowref01_Cmp_sound : FSound RO Try.prog 17 haymowref01_Cmp := sdf (haymowref01_Cmp_run _) (gcons haymowref01_Parts_ent haymowref01_Parts_sound <| gnil) Try.func17 (by kernel_rfl)
def meter_Meter__Held_c : Sm O := fun xs h =>
 bif Nat.beq xs.length 1 then
 (AV.asP (xs.getD 0 .u)).bind fun p0 =>
 (bif (Option.isNone p0) then
 some ((.i .i64 0), h)
 else Option.bind p0 fun q1 =>
 ldI h q1.1 (q1.2 + 4) fun n3 =>
 some ((.i .i64 n3), h))
 else none
def meter_Meter__Held : Sm O := meter_Meter__Held_c
theorem meter_Meter__Held_ent : Entered Try.prog 19 := Try.call19
theorem meter_Meter__Held_run : run (O := O) Try.prog [] Try.f19 (.n .z (.n (.n .z (.n .z .z)) .z)) = meter_Meter__Held_c  := by kernel_rfl
theorem meter_Meter__Held_sound : FSound RO Try.prog 19 meter_Meter__Held := sdf meter_Meter__Held_run (gnil) Try.func19 (by kernel_rfl)
def haymowref15_Sum_L1 (h : AH O) (k97 : Sm O) : List AV × AH O -> Option ((List AV × AH O) ⊕ (List AV × AH O)) := (fun r11 =>
 (AV.asI .i64 (r11.1.getD 0 .u)).bind fun n12 =>
 (AV.asI .i64 (r11.1.getD 1 .u)).bind fun n13 =>
 ldS r11.2 (.n h.next) 4 fun l15 =>
 (bif (decide (n13 <= (l15.2 : Int))) then
 ldI r11.2 (.n h.next) 0 fun n17 =>
 ldS r11.2 (.n h.next) 1 fun l19 =>
 ldS r11.2 (.n h.next) 2 fun l21 =>
 ldI r11.2 (.n h.next) 3 fun n23 =>
 ldS r11.2 (.n h.next) 4 fun l25 =>
 ldS r11.2 (.n h.next) 5 fun l27 =>
 ldS r11.2 (.n h.next) 6 fun l29 =>
 ldI r11.2 (.n h.next) 7 fun n31 =>
 (k97 [(.agg [(.i .i64 n17), (.sl l19.1 l19.2), (.sl l21.1 l21.2), (.i .i64 n23), (.sl l25.1 l25.2), (.sl l27.1 l27.2), (.sl l29.1 l29.2), (.i .i64 n31)]), (.i .i64 n13)] r11.2).bind fun r32 =>
 (AV.asB r32.1).bind fun b33 =>
 ((bif b33 then
 ldS r32.2 (.n h.next) 4 fun l35 =>
 (bif ((decide ((0 : Int) <= (IntKind.i64.wrap (n13 - 1)))) && (decide ((IntKind.i64.wrap (n13 - 1)) < (l35.2 : Int)))) then
 (SA.ref l35.1).bind fun q36 =>
 ldS r32.2 q36.1 (q36.2 + ((IntKind.i64.wrap (n13 - 1)).toNat * 1)) fun l38 =>
 some ([(.i .i64 (IntKind.i64.wrap (n12 + (l38.2 : Int))))], r32.2)
 else none)
 else some ([(.i .i64 n12)], r32.2)) : Option (List AV × AH O)).bind fun r39 =>
 (AV.asI .i64 (r39.1.getD 0 .u)).bind fun n40 =>
 some (Sum.inl ([(.i .i64 n40), (.i .i64 (IntKind.i64.wrap (n13 + 1)))], r39.2))
 else some (Sum.inr ([(.i .i64 n12)], r11.2))))
def haymowref15_Sum_c (k97 : Sm O) : Sm O := fun xs h =>
 bif Nat.beq xs.length 1 then
 (AV.asAgg 8 (xs.getD 0 .u)).bind fun c0 =>
 gtI c0 0 fun n1 =>
 gtS c0 1 fun l2 =>
 gtS c0 2 fun l3 =>
 gtI c0 3 fun n4 =>
 gtS c0 4 fun l5 =>
 gtS c0 5 fun l6 =>
 gtS c0 6 fun l7 =>
 gtI c0 7 fun n8 =>
 let h9 := h.bump 1
 let h10 := h9.put h.next (.cells true 91 [(.i .i64 n1), (.sl l2.1 l2.2), (.sl l3.1 l3.2), (.i .i64 n4), (.sl l5.1 l5.2), (.sl l6.1 l6.2), (.sl l7.1 l7.2), (.i .i64 n8)])
 (loopF (S := List AV × AH O) (T := List AV × AH O) (haymowref15_Sum_L1 h k97) ([(.i .i64 0), (.i .i64 1)], h10)).bind fun r41 =>
 (AV.asI .i64 (r41.1.getD 0 .u)).bind fun n42 =>
 some ((.i .i64 n42), r41.2)
 else none
def haymowref15_Sum : Sm O := haymowref15_Sum_c haymowref15_Is
theorem haymowref15_Sum_ent : Entered Try.prog 41 := Try.call41
theorem haymowref15_Sum_run (k97 : Sm O) : run (O := O) Try.prog [(97, k97)] Try.f41 (.n .z (.n .z (.n (.n .z (.n (.lp false 0 [(3, .one (.i .i64)), (4, .one (.i .i64))] [(3, .one (.i .i64))] (.n (.n .z .z) (.n (.n (.n .z (.j false [(3, .one (.i .i64))] .z .z)) .z) .z))) .z)) .z))) = haymowref15_Sum_c k97 := by kernel_rfl
theorem haymowref15_Sum_sound : FSound RO Try.prog 41 haymowref15_Sum := sdf (haymowref15_Sum_run _) (gcons haymowref15_Is_ent haymowref15_Is_sound <| gnil) Try.func41 (by kernel_rfl)
def large_Large__Count_c : Sm O := fun xs h =>
 bif Nat.beq xs.length 1 then
 (AV.asP (xs.getD 0 .u)).bind fun p0 =>
 Option.bind p0 fun q1 =>
 ldI h q1.1 ((q1.2 + 2) + 2) fun n3 =>
 Option.bind p0 fun q4 =>
 ldI h q4.1 ((q4.2 + 5) + 2) fun n6 =>
 some ((.i .i64 (IntKind.i64.wrap (n3 + n6))), h)
 else none
def large_Large__Count : Sm O := large_Large__Count_c
theorem large_Large__Count_ent : Entered Try.prog 42 := Try.call42
theorem large_Large__Count_run : run (O := O) Try.prog [] Try.f42 (.n .z (.n (.d [] [0, 1, 2, 3, 4, 5, 6, 7, 8, 9, 10, 11] [0, 1, 3, 7, 15, 0, 32, 96, 224, 480, 1023, 2047]) .z)) = large_Large__Count_c  := by kernel_rfl
theorem large_Large__Count_sound : FSound RO Try.prog 42 large_Large__Count := sdf large_Large__Count_run (gnil) Try.func42 (by kernel_rfl)
def law15_LargePlays_L2 (r5 : AV × AH O) (k43 : Sm O) (p8 : Option (Bid × Nat)) : List AV × AH O -> Option ((List AV × AH O) ⊕ ((List AV × AH O) ⊕ (AV × AH O))) := (fun r197 =>
 (AV.asI .i64 (r197.1.getD 0 .u)).bind fun n198 =>
 ldS r197.2 (.n r5.2.next) 4 fun l200 =>
 let c201 : Bool := (decide (n198 <= (IntKind.i64.wrap ((l200.2 : Int) + 1))))
 (bif c201 then
 ldI r197.2 (.n r5.2.next) 0 fun n203 =>
 ldS r197.2 (.n r5.2.next) 1 fun l205 =>
 ldS r197.2 (.n r5.2.next) 2 fun l207 =>
 ldI r197.2 (.n r5.2.next) 3 fun n209 =>
 ldS r197.2 (.n r5.2.next) 4 fun l211 =>
 ldS r197.2 (.n r5.2.next) 5 fun l213 =>
 ldS r197.2 (.n r5.2.next) 6 fun l215 =>
 ldI r197.2 (.n r5.2.next) 7 fun n217 =>
 (k43 [(.p p8), (.agg [(.i .i64 n203), (.sl l205.1 l205.2), (.sl l207.1 l207.2), (.i .i64 n209), (.sl l211.1 l211.2), (.sl l213.1 l213.2), (.sl l215.1 l215.2), (.i .i64 n217)]), (.i .i64 n198)] r197.2).bind fun r218 =>
 (AV.asB r218.1).bind fun b219 =>
 (bif (!b219) then
 ((some ((.b false), r218.2) : Option (AV × AH O)).map fun r => Sum.inr (Sum.inr r))
 else some (Sum.inl ([(.i .i64 (IntKind.i64.wrap (n198 + 1)))], r218.2)))
 else some (Sum.inr (Sum.inl ([], r197.2)))))
def law15_LargePlays_L1 (l0 : SA × Nat) (p7 : Option (Bid × Nat)) (k12 : Sm O) (r5 : AV × AH O) (k40 : Sm O) (p8 : Option (Bid × Nat)) (k18 : Sm O) (k17 : Sm O) (k19 : Sm O) (k41 : Sm O) (k32 : Sm O) (k42 : Sm O) : List AV × AH O -> Option ((List AV × AH O) ⊕ ((List AV × AH O) ⊕ (AV × AH O))) := (fun r23 =>
 (AV.asI .i64 (r23.1.getD 0 .u)).bind fun n24 =>
 (bif (decide (n24 < (l0.2 : Int))) then
 let h25 := r23.2.bump 1
 Option.bind p7 fun q26 =>
 ldP h25 q26.1 q26.2 fun p28 =>
 (k12 [(.p p28)] h25).bind fun r29 =>
 (AV.asAgg 2 r29.1).bind fun c30 =>
 gtU c30 0 fun n31 =>
 gtU c30 1 fun n32 =>
 let h33 := r29.2.put r23.2.next (.cells true 38 [(.i .u64 0), (.i .u64 0)])
 (h33.st (.n r23.2.next) 0 [(.i .u64 n31), (.i .u64 n32)]).bind fun h34 =>
 ldI h34 (.n r5.2.next) 0 fun n36 =>
 ldS h34 (.n r5.2.next) 1 fun l38 =>
 ldS h34 (.n r5.2.next) 2 fun l40 =>
 ldI h34 (.n r5.2.next) 3 fun n42 =>
 ldS h34 (.n r5.2.next) 4 fun l44 =>
 ldS h34 (.n r5.2.next) 5 fun l46 =>
 ldS h34 (.n r5.2.next) 6 fun l48 =>
 ldI h34 (.n r5.2.next) 7 fun n50 =>
 (bif ((decide ((0 : Int) <= n24)) && (decide (n24 < (l0.2 : Int)))) then
 (SA.ref l0.1).bind fun q51 =>
 ldI h34 q51.1 (q51.2 + (n24.toNat * 5)) fun n53 =>
 ldI h34 q51.1 ((q51.2 + (n24.toNat * 5)) + 1) fun n55 =>
 ldI h34 q51.1 (((q51.2 + (n24.toNat * 5)) + 1) + 1) fun n57 =>
 ldI h34 q51.1 ((((q51.2 + (n24.toNat * 5)) + 1) + 1) + 1) fun n59 =>
 ldU h34 q51.1 (((((q51.2 + (n24.toNat * 5)) + 1) + 1) + 1) + 1) fun n61 =>
 (k40 [(.p p8), (.agg [(.i .i64 n36), (.sl l38.1 l38.2), (.sl l40.1 l40.2), (.i .i64 n42), (.sl l44.1 l44.2), (.sl l46.1 l46.2), (.sl l48.1 l48.2), (.i .i64 n50)]), (.agg [(.i .i64 n53), (.i .i64 n55), (.i .i64 n57), (.i .i64 n59), (.i .u64 n61)])] h34).bind fun r62 =>
 (AV.asTup 3 r62.1).bind fun c63 =>
 (AV.asAgg 8 (c63.getD 0 .u)).bind fun c64 =>
 gtI c64 0 fun n65 =>
 gtS c64 1 fun l66 =>
 gtS c64 2 fun l67 =>
 gtI c64 3 fun n68 =>
 gtS c64 4 fun l69 =>
 gtS c64 5 fun l70 =>
 gtS c64 6 fun l71 =>
 gtI c64 7 fun n72 =>
 gtU c63 1 fun n73 =>
 (AV.asB (c63.getD 2 .u)).bind fun b74 =>
 (r62.2.st (.n r5.2.next) 0 [(.i .i64 n65), (.sl l66.1 l66.2), (.sl l67.1 l67.2), (.i .i64 n68), (.sl l69.1 l69.2), (.sl l70.1 l70.2), (.sl l71.1 l71.2), (.i .i64 n72)]).bind fun h75 =>
 ((bif ((!b74) == false) then
 Option.bind p7 fun q76 =>
 ldP h75 q76.1 q76.2 fun p78 =>
 ldU h75 (.n r23.2.next) 0 fun n80 =>
 ldU h75 (.n r23.2.next) 1 fun n82 =>
 (k18 [(.p p78), (.agg [(.i .u64 n80), (.i .u64 n82)])] h75).bind fun r83 =>
 (AV.asAgg 2 r83.1).bind fun c84 =>
 gtU c84 0 fun n85 =>
 gtU c84 1 fun n86 =>
 (k17 [(.agg [(.i .u64 n85), (.i .u64 n86)]), (.agg [(.i .u64 0), (.i .u64 n73)])] r83.2).bind fun r87 =>
 (AV.asI .i64 r87.1).bind fun n88 =>
 some ([(.b (decide (n88 > 0)))], r87.2)
 else some ([(.b true)], h75)) : Option (List AV × AH O)).bind fun r89 =>
 (AV.asB (r89.1.getD 0 .u)).bind fun b90 =>
 ((bif (b90 == false) then
 Option.bind p7 fun q91 =>
 ldP r89.2 q91.1 q91.2 fun p93 =>
 ldI r89.2 (.n r5.2.next) 3 fun n95 =>
 ldI r89.2 (.n r5.2.next) 0 fun n97 =>
 ldS r89.2 (.n r5.2.next) 1 fun l99 =>
 ldS r89.2 (.n r5.2.next) 2 fun l101 =>
 ldI r89.2 (.n r5.2.next) 3 fun n103 =>
 ldS r89.2 (.n r5.2.next) 4 fun l105 =>
 ldS r89.2 (.n r5.2.next) 5 fun l107 =>
 ldS r89.2 (.n r5.2.next) 6 fun l109 =>
 ldI r89.2 (.n r5.2.next) 7 fun n111 =>
 (k19 [(.p p93)] r89.2).bind fun r112 =>
 (AV.asI .i64 r112.1).bind fun n113 =>
 (chkE (r112.2.ld (.n r5.2.next) 3) (some (.i .i64 n95))).bind fun _ =>
 (chkE (r112.2.ld (.n r5.2.next) 0) (some (.i .i64 n97))).bind fun _ =>
 (chkE (r112.2.ld (.n r5.2.next) 1) (some (.sl l99.1 l99.2))).bind fun _ =>
 (chkE (r112.2.ld (.n r5.2.next) 2) (some (.sl l101.1 l101.2))).bind fun _ =>
 (chkE (r112.2.ld (.n r5.2.next) 3) (some (.i .i64 n103))).bind fun _ =>
 (chkE (r112.2.ld (.n r5.2.next) 4) (some (.sl l105.1 l105.2))).bind fun _ =>
 (chkE (r112.2.ld (.n r5.2.next) 5) (some (.sl l107.1 l107.2))).bind fun _ =>
 (chkE (r112.2.ld (.n r5.2.next) 6) (some (.sl l109.1 l109.2))).bind fun _ =>
 (chkE (r112.2.ld (.n r5.2.next) 7) (some (.i .i64 n111))).bind fun _ =>
 (k41 [(.agg [(.i .i64 n97), (.sl l99.1 l99.2), (.sl l101.1 l101.2), (.i .i64 n103), (.sl l105.1 l105.2), (.sl l107.1 l107.2), (.sl l109.1 l109.2), (.i .i64 n111)])] r112.2).bind fun r114 =>
 (AV.asI .i64 r114.1).bind fun n115 =>
 (chkE (r114.2.ld (.n r5.2.next) 3) (some (.i .i64 n95))).bind fun _ =>
 let v116 : Int := (IntKind.i64.wrap ((IntKind.i64.wrap (6 * n95)) + n115))
 some ([(.b ((n113 : Int) != v116))], r114.2)
 else some ([(.b true)], r89.2)) : Option (List AV × AH O)).bind fun r117 =>
 (AV.asB (r117.1.getD 0 .u)).bind fun b118 =>
 ((bif (b118 == false) then
 ldI r117.2 (.n r5.2.next) 0 fun n120 =>
 ldS r117.2 (.n r5.2.next) 1 fun l122 =>
 ldS r117.2 (.n r5.2.next) 2 fun l124 =>
 ldI r117.2 (.n r5.2.next) 3 fun n126 =>
 ldS r117.2 (.n r5.2.next) 4 fun l128 =>
 ldS r117.2 (.n r5.2.next) 5 fun l130 =>
 ldS r117.2 (.n r5.2.next) 6 fun l132 =>
 ldI r117.2 (.n r5.2.next) 7 fun n134 =>
 (k32 [(.p p8)] r117.2).bind fun r135 =>
 (AV.asI .i64 r135.1).bind fun n136 =>
 (chkE (r135.2.ld (.n r5.2.next) 0) (some (.i .i64 n120))).bind fun _ =>
 (chkE (r135.2.ld (.n r5.2.next) 1) (some (.sl l122.1 l122.2))).bind fun _ =>
 (chkE (r135.2.ld (.n r5.2.next) 2) (some (.sl l124.1 l124.2))).bind fun _ =>
 (chkE (r135.2.ld (.n r5.2.next) 3) (some (.i .i64 n126))).bind fun _ =>
 (chkE (r135.2.ld (.n r5.2.next) 4) (some (.sl l128.1 l128.2))).bind fun _ =>
 (chkE (r135.2.ld (.n r5.2.next) 5) (some (.sl l130.1 l130.2))).bind fun _ =>
 (chkE (r135.2.ld (.n r5.2.next) 6) (some (.sl l132.1 l132.2))).bind fun _ =>
 (chkE (r135.2.ld (.n r5.2.next) 7) (some (.i .i64 n134))).bind fun _ =>
 (k41 [(.agg [(.i .i64 n120), (.sl l122.1 l122.2), (.sl l124.1 l124.2), (.i .i64 n126), (.sl l128.1 l128.2), (.sl l130.1 l130.2), (.sl l132.1 l132.2), (.i .i64 n134)])] r135.2).bind fun r137 =>
 (AV.asI .i64 r137.1).bind fun n138 =>
 some ([(.b ((n136 : Int) != n138))], r137.2)
 else some ([(.b true)], r117.2)) : Option (List AV × AH O)).bind fun r139 =>
 (AV.asB (r139.1.getD 0 .u)).bind fun b140 =>
 ((bif (b140 == false) then
 ldS r139.2 (.n r5.2.next) 5 fun l142 =>
 ldS r139.2 (.n r5.2.next) 6 fun l144 =>
 let v145 : Int := (IntKind.i64.wrap ((l142.2 : Int) + (l144.2 : Int)))
 (k42 [(.p p8)] r139.2).bind fun r146 =>
 (AV.asI .i64 r146.1).bind fun n147 =>
 (chkE (r146.2.ld (.n r5.2.next) 5) (some (.sl l142.1 l142.2))).bind fun _ =>
 (chkE (r146.2.ld (.n r5.2.next) 6) (some (.sl l144.1 l144.2))).bind fun _ =>
 some ([(.b ((n147 : Int) != v145))], r146.2)
 else some ([(.b true)], r139.2)) : Option (List AV × AH O)).bind fun r148 =>
 (AV.asB (r148.1.getD 0 .u)).bind fun b149 =>
 (bif b149 then
 ((some ((.b false), r148.2) : Option (AV × AH O)).map fun r => Sum.inr (Sum.inr r))
 else some (Sum.inl ([(.i .i64 (IntKind.i64.wrap (n24 + 1)))], r148.2)))
 else none)
 else some (Sum.inr (Sum.inl ([], r23.2)))))
def law15_LargePlays_c (k24 k38 k26 k39 k12 k40 k18 k17 k19 k41 k32 k42 k35 k23 k43 : Sm O) : Sm O := fun xs h =>
 bif Nat.beq xs.length 1 then
 gtS xs 0 fun l0 =>
 (k24 [] h).bind fun r1 =>
 (AV.asB r1.1).bind fun b2 =>
 (bif (!b2) then
 some ((.b false), r1.2)
 else (k38 [(.sl l0.1 l0.2)] r1.2).bind fun r3 =>
 (AV.asB r3.1).bind fun b4 =>
 (bif (!b4) then
 some ((.b true), r3.2)
 else (k26 [] r3.2).bind fun r5 =>
 (AV.asTup 3 r5.1).bind fun c6 =>
 (AV.asP (c6.getD 0 .u)).bind fun p7 =>
 (AV.asP (c6.getD 1 .u)).bind fun p8 =>
 (AV.asB (c6.getD 2 .u)).bind fun b9 =>
 (bif (!b9) then
 some ((.b false), r5.2)
 else let h10 := r5.2.bump 1
 (k39 [] h10).bind fun r11 =>
 (AV.asAgg 8 r11.1).bind fun c12 =>
 gtI c12 0 fun n13 =>
 gtS c12 1 fun l14 =>
 gtS c12 2 fun l15 =>
 gtI c12 3 fun n16 =>
 gtS c12 4 fun l17 =>
 gtS c12 5 fun l18 =>
 gtS c12 6 fun l19 =>
 gtI c12 7 fun n20 =>
 let h21 := r11.2.put r5.2.next (.cells true 91 [(.i .i64 0), (.sl .nil 0), (.sl .nil 0), (.i .i64 0), (.sl .nil 0), (.sl .nil 0), (.sl .nil 0), (.i .i64 0)])
 (h21.st (.n r5.2.next) 0 [(.i .i64 n13), (.sl l14.1 l14.2), (.sl l15.1 l15.2), (.i .i64 n16), (.sl l17.1 l17.2), (.sl l18.1 l18.2), (.sl l19.1 l19.2), (.i .i64 n20)]).bind fun h22 =>
 bindS (S := List AV × AH O) (R := (AV × AH O)) (loopF (S := List AV × AH O) (T := (List AV × AH O) ⊕ (AV × AH O)) (law15_LargePlays_L1 l0 p7 k12 r5 k40 p8 k18 k17 k19 k41 k32 k42) ([(.i .i64 0)], h22)) fun r150 =>
 let h151 := r150.2.bump 1
 Option.bind p7 fun q152 =>
 ldP h151 q152.1 q152.2 fun p154 =>
 (k12 [(.p p154)] h151).bind fun r155 =>
 (AV.asAgg 2 r155.1).bind fun c156 =>
 gtU c156 0 fun n157 =>
 gtU c156 1 fun n158 =>
 let h159 := r155.2.put r150.2.next (.cells true 38 [(.i .u64 0), (.i .u64 0)])
 (h159.st (.n r150.2.next) 0 [(.i .u64 n157), (.i .u64 n158)]).bind fun h160 =>
 (k35 [(.p p8)] h160).bind fun r161 =>
 (AV.asTup 2 r161.1).bind fun c162 =>
 gtS c162 0 fun l163 =>
 (AV.asB (c162.getD 1 .u)).bind fun b164 =>
 let h165 := r161.2.bump 3
 ((bif ((!b164) == false) then
 ldS h165 (.n r5.2.next) 5 fun l167 =>
 ldS h165 (.n r5.2.next) 6 fun l169 =>
 let h170 := h165.put r161.2.next (.cells true 3 [])
 (h170.rdSl l167.1 l167.2 1).bind fun new171 =>
 (bif (Nat.ble ((0 + l167.2) * 9) 35184372088832) then
 (h170.appSl (r161.2.next + 1) 3 1 (.loc (.n r161.2.next) 0 1) 0 l167.2 new171).bind fun r172 =>
 (AV.asSl r172.1).bind fun l173 =>
 (chkE (r172.2.ld (.n r5.2.next) 6) (some (.sl l169.1 l169.2))).bind fun _ =>
 (r172.2.rdSl l169.1 l169.2 1).bind fun new174 =>
 (bif (Nat.ble ((l173.2 + l169.2) * 9) 35184372088832) then
 (r172.2.appSl ((r161.2.next + 1) + 1) 3 1 l173.1 l173.2 l169.2 new174).bind fun r175 =>
 (AV.asSl r175.1).bind fun l176 =>
 (k23 [(.sl l163.1 l163.2), (.sl l176.1 l176.2)] r175.2).bind fun r177 =>
 (AV.asB r177.1).bind fun b178 =>
 some ([(.b (!b178))], r177.2)
 else none)
 else none)
 else some ([(.b true)], h165)) : Option (List AV × AH O)).bind fun r179 =>
 (AV.asB (r179.1.getD 0 .u)).bind fun b180 =>
 ((bif (b180 == false) then
 Option.bind p7 fun q181 =>
 ldP r179.2 q181.1 q181.2 fun p183 =>
 ldU r179.2 (.n r150.2.next) 0 fun n185 =>
 ldU r179.2 (.n r150.2.next) 1 fun n187 =>
 let v188 : Int := (IntKind.u64.wrap (IntKind.i64.wrap ((l163.2 : Int) + 2)))
 (k18 [(.p p183), (.agg [(.i .u64 n185), (.i .u64 n187)])] r179.2).bind fun r189 =>
 (AV.asAgg 2 r189.1).bind fun c190 =>
 gtU c190 0 fun n191 =>
 gtU c190 1 fun n192 =>
 (k17 [(.agg [(.i .u64 n191), (.i .u64 n192)]), (.agg [(.i .u64 0), (.i .u64 v188)])] r189.2).bind fun r193 =>
 (AV.asI .i64 r193.1).bind fun n194 =>
 some ([(.b (decide (n194 > 0)))], r193.2)
 else some ([(.b true)], r179.2)) : Option (List AV × AH O)).bind fun r195 =>
 (AV.asB (r195.1.getD 0 .u)).bind fun b196 =>
 (bif b196 then
 some ((.b false), r195.2)
 else bindS (S := List AV × AH O) (R := (AV × AH O)) (loopF (S := List AV × AH O) (T := (List AV × AH O) ⊕ (AV × AH O)) (law15_LargePlays_L2 r5 k43 p8) ([(.i .i64 0)], r195.2)) fun r220 =>
 some ((.b true), r220.2)))))
 else none
def law15_LargePlays : Sm O := law15_LargePlays_c law15_awake law15_few law15_made haymowref15_New meter_Meter__Steps law15_do meter_Meter__Since haymowref01_Cmp meter_Meter__Held haymowref15_Sum large_Large__Words large_Large__Count law15_told haymowref02_Same law15_known
theorem law15_LargePlays_run (k24 k38 k26 k39 k12 k40 k18 k17 k19 k41 k32 k42 k35 k23 k43 : Sm O) : run (O := O) Try.prog [(24, k24), (38, k38), (26, k26), (39, k39), (12, k12), (40, k40), (18, k18), (17, k17), (19, k19), (41, k41), (32, k32), (42, k42), (35, k35), (23, k23), (43, k43)] Try.f6 (.n .z (.n (.n .z (.n .z .z)) (.n (.n .z (.n .z .z)) (.n .z (.n (.n .z (.n .z .z)) (.n .z (.n (.n .z (.n (.lp true 0 [(7, .one (.i .i64))] [] (.n (.n .z .z) (.n (.n (.n .z (.n (.d [] [0, 1, 2, 3, 4, 5, 6, 7, 8, 9, 10, 11, 12, 13] [0, 0, 0, 0, 12, 28, 63, 127, 255, 255, 255, 511, 3071, 8191]) (.n (.d [(2, 10, [(62, .one .b)]), (14, 13, [(77, .one .b)]), (29, 5, [(84, .one .b)]), (36, 10, [(96, .one .b)])] [0, 1, 2, 3, 4, 5, 6, 7, 9, 10, 8, 11, 12, 13, 14, 15, 16, 17, 18, 20, 21, 22, 23, 24, 19, 25, 26, 27, 28, 29, 30, 32, 31, 33, 34, 35, 36, 37, 39, 40, 41, 42, 43, 44, 45, 38, 46, 47] [0, 1, 3, 7, 15, 31, 63, 7, 255, 7, 519, 2047, 4095, 8191, 16383, 32767, 65535, 131071, 262143, 524287, 32767, 1081343, 3178495, 7372799, 32767, 17825791, 67108863, 134217727, 268435455, 536870911, 1073741823, 2147483647, 1073741823, 8589934591, 17179869183, 34359738367, 68719476735, 137438953471, 274877906943, 137438953471, 687194767359, 1786706395135, 137438953471, 4535485464575, 13331578486783, 34772055228415, 70368744177663, 140737488355327]) (.n .z .z)))) .z) .z))) .z)) (.n .z (.n .z (.n (.n (.d [(2, 10, [(120, .one .b)]), (14, 13, [(135, .one .b)])] [0, 1, 2, 3, 5, 6, 8, 9, 4, 7, 10, 11, 12, 13, 14, 15, 16, 17, 18, 19, 21, 22, 23, 24, 25, 20, 26, 27, 28] [0, 1, 3, 7, 7, 7, 39, 119, 7, 263, 1015, 2047, 4095, 8191, 16383, 32767, 65535, 131071, 262143, 32767, 1048575, 32767, 2129919, 6324223, 14712831, 31490047, 67108863, 134217727, 268435455]) (.n .z .z)) (.n (.n .z (.n (.lp true 2 [(13, .one (.i .i64))] [] (.n (.n .z .z) (.n (.n (.n .z (.n .z .z)) .z) .z))) .z)) .z))))))))))) = law15_LargePlays_c k24 k38 k26 k39 k12 k40 k18 k17 k19 k41 k32 k42 k35 k23 k43 := by kernel_rfl
theorem law15_LargePlays_sound : FSound RO Try.prog 6 law15_LargePlays := sdf (law15_LargePlays_run _ _ _ _ _ _ _ _ _ _ _ _ _ _ _) (gcons law15_awake_ent law15_awake_sound <| gcons law15_few_ent law15_few_sound <| gcons law15_made_ent law15_made_sound <| gcons haymowref15_New_ent haymowref15_New_sound <| gcons meter_Meter__Steps_ent meter_Meter__Steps_sound <| gcons law15_do_ent law15_do_sound <| gcons meter_Meter__Since_ent meter_Meter__Since_sound <| gcons haymowref01_Cmp_ent haymowref01_Cmp_sound <| gcons meter_Meter__Held_ent meter_Meter__Held_sound <| gcons haymowref15_Sum_ent haymowref15_Sum_sound <| gcons large_Large__Words_ent large_Large__Words_sound <| gcons large_Large__Count_ent large_Large__Count_sound <| gcons law15_told_ent law15_told_sound <| gcons haymowref02_Same_ent haymowref02_Same_sound <| gcons law15_known_ent law15_known_sound <| gnil) Try.func6 (by kernel_rfl)
end
end Go.Abs.Try
