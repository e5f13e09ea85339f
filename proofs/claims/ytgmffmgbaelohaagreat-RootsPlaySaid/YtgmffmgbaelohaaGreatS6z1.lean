/-
  What functions of the program do. No conditions.
-/
import Derived.Test.YtgmffmgbaelohaaGreatAbsExtern
import Derived.Test.YtgmffmgbaelohaaGreatAbsWord
import Derived.Test.YtgmffmgbaelohaaGreatProg
import Derived.KernelRfl
set_option linter.unusedVariables false
set_option linter.unusedSimpArgs false
set_option linter.constructorNameAsVariable false
set_option maxRecDepth 100000
namespace Go.Abs.Tryz
open Go Go.Abs Go.Proofs
noncomputable section
variable {O : Type} {RO : O -> Loc -> (Nat -> Option Obj) -> Prop}
theorem mixed : Tryz.prog.follows .mixedOrders = true := by kernel_rfl
theorem sdf {G : List (FuncId × Sm O)} {f : FuncId} {fn : Func} {an : Ann} {s : Sm O} (e : run Tryz.prog G fn an = s) (hG : GSound RO Tryz.prog G) (hf : Tryz.prog.funcs[f]? = some fn) (hk : fnOK fn = true) : FSound RO Tryz.prog f s := e ▸ run_sound hG mixed hf hk an
abbrev T_haymowref18_State : Nat := 34
abbrev T_haymowref19_State : Nat := 36
abbrev T_uint64 : Nat := 40
abbrev T_haymowref18_Handle : Nat := 54
abbrev T_frames_top : Nat := 140
abbrev T_frames_Frames : Nat := 142
abbrev T_chain_Chain : Nat := 196
abbrev T_haymowref10_Entry : Nat := 214
abbrev T_chain_Table : Nat := 241
abbrev T_mem_space : Nat := 267
abbrev T_pool_Pool : Nat := 283
theorem bits_Add64_ext : ExternOK Tryz.prog 168 (bits_Add64 (O := O)) := add64_ext Tryz.func168 (by kernel_rfl) (by kernel_rfl) (by kernel_rfl) rfl
def meter_New_c : Sm O := fun xs h =>
 bif Nat.beq xs.length 0 then
 let h0 := h.bump 1
 let h1 := h0.put h.next (.cells true 193 [(.i .u64 0), (.i .u64 0), (.i .u64 0), (.i .u64 0), (.i .i64 0), (.i .i64 0)])
 some ((.p (some ((.n h.next), 0))), h1)
 else none
def meter_New : Sm O := meter_New_c
theorem meter_New_ent : Entered Tryz.prog 118 := Tryz.call118
theorem meter_New_run : run (O := O) Tryz.prog [] Tryz.f118 (.n .z .z) = meter_New_c  := by kernel_rfl
theorem meter_New_sound : FSound RO Tryz.prog 118 meter_New := sdf meter_New_run (gnil) Tryz.func118 (by kernel_rfl)
def mem_New_c (k118 : Sm O) : Sm O := fun xs h =>
 bif Nat.beq xs.length 0 then
 let h0 := h.bump 1
 (k118 [] h0).bind fun r1 =>
 (AV.asP r1.1).bind fun p2 =>
 let h3 := r1.2.put h.next (.cells true 88 [(.p p2), (.sl .nil 0), (.i .i64 0), (.i .i64 0)])
 some ((.p (some ((.n h.next), 0))), h3)
 else none
def mem_New : Sm O := mem_New_c meter_New
theorem mem_New_ent : Entered Tryz.prog 59 := Tryz.call59
theorem mem_New_run (k118 : Sm O) : run (O := O) Tryz.prog [(118, k118)] Tryz.f59 (.n .z .z) = mem_New_c k118 := by kernel_rfl
theorem mem_New_sound : FSound RO Tryz.prog 59 mem_New := sdf (mem_New_run _) (gcons meter_New_ent meter_New_sound <| gnil) Tryz.func59 (by kernel_rfl)
def meter_words__open_c : Sm O := fun xs h =>
 bif Nat.beq xs.length 2 then
 (AV.asP (xs.getD 0 .u)).bind fun p0 =>
 gtI xs 1 fun n1 =>
 Option.bind p0 fun q2 =>
 ldI h q2.1 q2.2 fun n4 =>
 Option.bind p0 fun q5 =>
 (h.st q5.1 q5.2 [(.i .i64 (IntKind.i64.wrap (n4 + n1)))]).bind fun h6 =>
 Option.bind p0 fun q7 =>
 ldI h6 q7.1 (q7.2 + 1) fun n9 =>
 Option.bind p0 fun q10 =>
 ldI h6 q10.1 q10.2 fun n12 =>
 Option.bind p0 fun q13 =>
 (h6.st q13.1 (q13.2 + 1) [(.i .i64 (if n12 > n9 then n12 else n9))]).bind fun h14 =>
 some ((.tup []), h14)
 else none
def meter_words__open : Sm O := meter_words__open_c
theorem meter_words__open_ent : Entered Tryz.prog 234 := Tryz.call234
theorem meter_words__open_run : run (O := O) Tryz.prog [] Tryz.f234 (.n .z (.d [] [0, 1, 2, 3, 4, 5, 6, 7, 8, 9, 10, 11, 12] [0, 0, 2, 6, 14, 0, 32, 96, 224, 510, 1023, 2047, 4095])) = meter_words__open_c  := by kernel_rfl
theorem meter_words__open_sound : FSound RO Tryz.prog 234 meter_words__open := sdf meter_words__open_run (gnil) Tryz.func234 (by kernel_rfl)
def meter_Meter__Hold_c (k234 : Sm O) : Sm O := fun xs h =>
 bif Nat.beq xs.length 2 then
 (AV.asP (xs.getD 0 .u)).bind fun p0 =>
 gtI xs 1 fun n1 =>
 ((bif ((Option.isNone p0) == false) then
 some ([(.b (decide (n1 < 0)))], h)
 else some ([(.b true)], h)) : Option (List AV × AH O)).bind fun r2 =>
 (AV.asB (r2.1.getD 0 .u)).bind fun b3 =>
 (bif b3 then
 some ((.i .i64 1), r2.2)
 else Option.bind p0 fun q4 =>
 ldI r2.2 q4.1 (q4.2 + 4) fun n6 =>
 let c7 : Bool := (decide (n1 > (IntKind.i64.wrap (281474976710656 - n6))))
 (bif c7 then
 some ((.i .i64 3), r2.2)
 else Option.bind p0 fun q8 =>
 (k234 [(.p (some (q8.1, (q8.2 + 4)))), (.i .i64 n1)] r2.2).bind fun r9 =>
 (AV.asTup 0 r9.1).bind fun c10 =>
 some ((.i .i64 0), r9.2)))
 else none
def meter_Meter__Hold : Sm O := meter_Meter__Hold_c meter_words__open
theorem meter_Meter__Hold_ent : Entered Tryz.prog 210 := Tryz.call210
theorem meter_Meter__Hold_run (k234 : Sm O) : run (O := O) Tryz.prog [(234, k234)] Tryz.f210 (.n .z (.n (.n (.n (.g [(2, 2, [(11, .one .b)])]) (.n .z (.n .z (.n .z .z)))) .z) (.n .z .z))) = meter_Meter__Hold_c k234 := by kernel_rfl
theorem meter_Meter__Hold_sound : FSound RO Tryz.prog 210 meter_Meter__Hold := sdf (meter_Meter__Hold_run _) (gcons meter_words__open_ent meter_words__open_sound <| gnil) Tryz.func210 (by kernel_rfl)
def mem_Mem__Open_L1 (p0 : Option (Bid × Nat)) : List AV × AH O -> Option ((List AV × AH O) ⊕ (List AV × AH O)) := (fun r8 =>
 (AV.asI .i64 (r8.1.getD 0 .u)).bind fun n9 =>
 Option.bind p0 fun q10 =>
 ldS r8.2 q10.1 (q10.2 + 1) fun l12 =>
 ((bif ((decide (n9 < (l12.2 : Int))) == true) then
 Option.bind p0 fun q13 =>
 ldS r8.2 q13.1 (q13.2 + 1) fun l15 =>
 (bif ((decide ((0 : Int) <= n9)) && (decide (n9 < (l15.2 : Int)))) then
 (SA.ref l15.1).bind fun q16 =>
 (r8.2.ld q16.1 ((q16.2 + (n9.toNat * 2)) + 1)).bind fun w17 =>
 (AV.asB w17).bind fun b18 =>
 some ([(.b b18)], r8.2)
 else none)
 else some ([(.b false)], r8.2)) : Option (List AV × AH O)).bind fun r19 =>
 (AV.asB (r19.1.getD 0 .u)).bind fun b20 =>
 (bif b20 then
 some (Sum.inl ([(.i .i64 (IntKind.i64.wrap (n9 + 1)))], r19.2))
 else some (Sum.inr ([(.i .i64 n9)], r19.2))))
def mem_Mem__Open_c (k210 : Sm O) : Sm O := fun xs h =>
 bif Nat.beq xs.length 2 then
 (AV.asP (xs.getD 0 .u)).bind fun p0 =>
 gtI xs 1 fun n1 =>
 (bif (decide (n1 < 0)) then
 some ((.tup [(.i .i64 0), (.i .i64 1)]), h)
 else (bif (decide (n1 > 4194304)) then
 some ((.tup [(.i .i64 0), (.i .i64 7)]), h)
 else Option.bind p0 fun q2 =>
 ldI h q2.1 (q2.2 + 3) fun n4 =>
 (bif (decide (n4 >= 262144)) then
 some ((.tup [(.i .i64 0), (.i .i64 3)]), h)
 else Option.bind p0 fun q5 =>
 ldI h q5.1 (q5.2 + 2) fun n7 =>
 (loopF (S := List AV × AH O) (T := List AV × AH O) (mem_Mem__Open_L1 p0) ([(.i .i64 n7)], h)).bind fun r21 =>
 (AV.asI .i64 (r21.1.getD 0 .u)).bind fun n22 =>
 Option.bind p0 fun q23 =>
 ldS r21.2 q23.1 (q23.2 + 1) fun l25 =>
 ((bif ((n22 : Int) == (l25.2 : Int)) then
 let h26 := r21.2.bump 2
 Option.bind p0 fun q27 =>
 ldS h26 q27.1 (q27.2 + 1) fun l29 =>
 let h30 := h26.put r21.2.next (.cells true 267 [(.sl .nil 0), (.b false)])
 (h30.rdSl (.loc (.n r21.2.next) 0 2) 1 2).bind fun new31 =>
 (bif (Nat.ble ((l29.2 + 1) * 33) 35184372088832) then
 (h30.appSl (r21.2.next + 1) 267 2 l29.1 l29.2 1 new31).bind fun r32 =>
 (AV.asSl r32.1).bind fun l33 =>
 Option.bind p0 fun q34 =>
 (r32.2.st q34.1 (q34.2 + 1) [(.sl l33.1 l33.2)]).bind fun h35 =>
 some ([], h35)
 else none)
 else some ([], r21.2)) : Option (List AV × AH O)).bind fun r36 =>
 let h37 := r36.2.bump 1
 Option.bind p0 fun q38 =>
 ldS h37 q38.1 (q38.2 + 1) fun l40 =>
 (bif ((((decide ((0 : Int) <= n1)) && (decide (n1 <= n1))) && (decide ((n1 * 8) <= 140737488355328))) && (decide (n1 <= 140737488355328))) then
 let h41 := h37.put r36.2.next (.cells true 40 ((List.replicate n1.toNat [(.i .u64 0)]).flatten))
 (bif ((decide ((0 : Int) <= n22)) && (decide (n22 < (l40.2 : Int)))) then
 (SA.ref l40.1).bind fun q42 =>
 (h41.st q42.1 (q42.2 + (n22.toNat * 2)) [(.sl (.loc (.n r36.2.next) 0 1) n1.toNat), (.b true)]).bind fun h43 =>
 Option.bind p0 fun q44 =>
 ldI h43 q44.1 (q44.2 + 3) fun n46 =>
 Option.bind p0 fun q47 =>
 (h43.st q47.1 (q47.2 + 2) [(.i .i64 (IntKind.i64.wrap (n22 + 1)))]).bind fun h48 =>
 Option.bind p0 fun q49 =>
 (h48.st q49.1 (q49.2 + 3) [(.i .i64 (IntKind.i64.wrap (n46 + 1)))]).bind fun h50 =>
 Option.bind p0 fun q51 =>
 ldP h50 q51.1 q51.2 fun p53 =>
 (k210 [(.p p53), (.i .i64 n1)] h50).bind fun r54 =>
 (AV.asI .i64 r54.1).bind fun n55 =>
 some ((.tup [(.i .i64 n22), (.i .i64 0)]), r54.2)
 else none)
 else none))))
 else none
def mem_Mem__Open : Sm O := mem_Mem__Open_c meter_Meter__Hold
theorem mem_Mem__Open_ent : Entered Tryz.prog 155 := Tryz.call155
theorem mem_Mem__Open_run (k210 : Sm O) : run (O := O) Tryz.prog [(210, k210)] Tryz.f155 (.n .z (.n (.n (.n .z (.n .z (.n .z (.n .z (.n .z (.n .z .z)))))) .z) (.n .z (.n (.n (.lp false 1 [(6, .one (.i .i64))] [(6, .one (.i .i64))] (.n (.n (.g [(7, 8, [(39, .one .b)])]) .z) .z)) .z) (.n (.n .z (.j false [] .z .z)) (.n (.d [] [0, 1, 2, 3, 4, 5, 6, 7, 8, 9] [0, 1, 3, 7, 0, 0, 32, 96, 255, 511]) (.n .z (.n .z .z)))))))) = mem_Mem__Open_c k210 := by kernel_rfl
theorem mem_Mem__Open_sound : FSound RO Tryz.prog 155 mem_Mem__Open := sdf (mem_Mem__Open_run _) (gcons meter_Meter__Hold_ent meter_Meter__Hold_sound <| gnil) Tryz.func155 (by kernel_rfl)
def frames_New_c (k155 : Sm O) : Sm O := fun xs h =>
 bif Nat.beq xs.length 1 then
 (AV.asP (xs.getD 0 .u)).bind fun p0 =>
 (bif (Option.isNone p0) then
 some ((.tup [(.p none), (.i .i64 1)]), h)
 else (k155 [(.p p0), (.i .i64 0)] h).bind fun r1 =>
 (AV.asTup 2 r1.1).bind fun c2 =>
 gtI c2 0 fun n3 =>
 gtI c2 1 fun n4 =>
 (bif ((n4 : Int) != 0) then
 some ((.tup [(.p none), (.i .i64 n4)]), r1.2)
 else let h5 := r1.2.bump 1
 let h6 := h5.put r1.2.next (.cells true 142 [(.p p0), (.i .i64 n3), (.i .i64 0), (.i .i64 0), (.i .i64 0), (.i .i64 0), (.i .i64 0)])
 some ((.tup [(.p (some ((.n r1.2.next), 0))), (.i .i64 0)]), h6)))
 else none
def frames_New : Sm O := frames_New_c mem_Mem__Open
theorem frames_New_ent : Entered Tryz.prog 107 := Tryz.call107
theorem frames_New_run (k155 : Sm O) : run (O := O) Tryz.prog [(155, k155)] Tryz.f107 (.n .z (.n (.n .z (.n .z .z)) (.n .z (.n (.n .z (.n .z .z)) .z)))) = frames_New_c k155 := by kernel_rfl
theorem frames_New_sound : FSound RO Tryz.prog 107 frames_New := sdf (frames_New_run _) (gcons mem_Mem__Open_ent mem_Mem__Open_sound <| gnil) Tryz.func107 (by kernel_rfl)
def pool_New_c (k155 : Sm O) : Sm O := fun xs h =>
 bif Nat.beq xs.length 2 then
 (AV.asP (xs.getD 0 .u)).bind fun p0 =>
 gtI xs 1 fun n1 =>
 ((bif ((Option.isNone p0) == false) then
 some ([(.b (decide (n1 < 1)))], h)
 else some ([(.b true)], h)) : Option (List AV × AH O)).bind fun r2 =>
 (AV.asB (r2.1.getD 0 .u)).bind fun b3 =>
 ((bif (b3 == false) then
 some ([(.b (decide (n1 > 60)))], r2.2)
 else some ([(.b true)], r2.2)) : Option (List AV × AH O)).bind fun r4 =>
 (AV.asB (r4.1.getD 0 .u)).bind fun b5 =>
 (bif b5 then
 some ((.tup [(.p none), (.i .i64 1)]), r4.2)
 else (k155 [(.p p0), (.i .i64 0)] r4.2).bind fun r6 =>
 (AV.asTup 2 r6.1).bind fun c7 =>
 gtI c7 0 fun n8 =>
 gtI c7 1 fun n9 =>
 (bif ((n9 : Int) != 0) then
 some ((.tup [(.p none), (.i .i64 n9)]), r6.2)
 else let h10 := r6.2.bump 1
 let h11 := h10.put r6.2.next (.cells true 283 [(.p p0), (.i .i64 n8), (.i .i64 n1), (.i .i64 0), (.i .i64 0), (.i .i64 0), (.i .i64 0)])
 some ((.tup [(.p (some ((.n r6.2.next), 0))), (.i .i64 0)]), h11)))
 else none
def pool_New : Sm O := pool_New_c mem_Mem__Open
theorem pool_New_ent : Entered Tryz.prog 182 := Tryz.call182
theorem pool_New_run (k155 : Sm O) : run (O := O) Tryz.prog [(155, k155)] Tryz.f182 (.n .z (.n (.n (.g [(2, 2, [(13, .one .b)]), (6, 2, [(17, .one .b)])]) (.n .z .z)) (.n .z (.n (.n .z (.n .z .z)) .z)))) = pool_New_c k155 := by kernel_rfl
theorem pool_New_sound : FSound RO Tryz.prog 182 pool_New := sdf (pool_New_run _) (gcons mem_Mem__Open_ent mem_Mem__Open_sound <| gnil) Tryz.func182 (by kernel_rfl)
def handles_New_c (k182 : Sm O) : Sm O := fun xs h =>
 bif Nat.beq xs.length 1 then
 (AV.asP (xs.getD 0 .u)).bind fun p0 =>
 (k182 [(.p p0), (.i .i64 3)] h).bind fun r1 =>
 (AV.asTup 2 r1.1).bind fun c2 =>
 (AV.asP (c2.getD 0 .u)).bind fun p3 =>
 gtI c2 1 fun n4 =>
 (bif ((n4 : Int) != 0) then
 some ((.tup [(.p none), (.i .i64 n4)]), r1.2)
 else let h5 := r1.2.bump 1
 let h6 := h5.put r1.2.next (.cells true 226 [(.p p3), (.i .i64 0), (.i .i64 0), (.i .i64 0)])
 some ((.tup [(.p (some ((.n r1.2.next), 0))), (.i .i64 0)]), h6))
 else none
def handles_New : Sm O := handles_New_c pool_New
theorem handles_New_ent : Entered Tryz.prog 108 := Tryz.call108
theorem handles_New_run (k182 : Sm O) : run (O := O) Tryz.prog [(182, k182)] Tryz.f108 (.n .z (.n .z (.n (.n .z (.n .z .z)) .z))) = handles_New_c k182 := by kernel_rfl
theorem handles_New_sound : FSound RO Tryz.prog 108 handles_New := sdf (handles_New_run _) (gcons pool_New_ent pool_New_sound <| gnil) Tryz.func108 (by kernel_rfl)
def roots_New_c (k107 k108 : Sm O) : Sm O := fun xs h =>
 bif Nat.beq xs.length 1 then
 (AV.asP (xs.getD 0 .u)).bind fun p0 =>
 (k107 [(.p p0)] h).bind fun r1 =>
 (AV.asTup 2 r1.1).bind fun c2 =>
 (AV.asP (c2.getD 0 .u)).bind fun p3 =>
 gtI c2 1 fun n4 =>
 (bif ((n4 : Int) != 0) then
 some ((.tup [(.p none), (.i .i64 n4)]), r1.2)
 else (k108 [(.p p0)] r1.2).bind fun r5 =>
 (AV.asTup 2 r5.1).bind fun c6 =>
 (AV.asP (c6.getD 0 .u)).bind fun p7 =>
 gtI c6 1 fun n8 =>
 (bif ((n8 : Int) != 0) then
 some ((.tup [(.p none), (.i .i64 n8)]), r5.2)
 else (k108 [(.p p0)] r5.2).bind fun r9 =>
 (AV.asTup 2 r9.1).bind fun c10 =>
 (AV.asP (c10.getD 0 .u)).bind fun p11 =>
 gtI c10 1 fun n12 =>
 (bif ((n12 : Int) != 0) then
 some ((.tup [(.p none), (.i .i64 n12)]), r9.2)
 else let h13 := r9.2.bump 1
 let h14 := h13.put r9.2.next (.cells true 48 [(.p p3), (.p p7), (.p p11)])
 some ((.tup [(.p (some ((.n r9.2.next), 0))), (.i .i64 0)]), h14))))
 else none
def roots_New : Sm O := roots_New_c frames_New handles_New
theorem roots_New_ent : Entered Tryz.prog 51 := Tryz.call51
theorem roots_New_run (k107 k108 : Sm O) : run (O := O) Tryz.prog [(107, k107), (108, k108)] Tryz.f51 (.n .z (.n .z (.n (.n .z (.n .z .z)) (.n .z (.n (.n .z (.n .z .z)) (.n .z (.n (.n .z (.n .z .z)) .z))))))) = roots_New_c k107 k108 := by kernel_rfl
theorem roots_New_sound : FSound RO Tryz.prog 51 roots_New := sdf (roots_New_run _ _) (gcons frames_New_ent frames_New_sound <| gcons handles_New_ent handles_New_sound <| gnil) Tryz.func51 (by kernel_rfl)
def law19_made_c (k59 k51 : Sm O) : Sm O := fun xs h =>
 bif Nat.beq xs.length 0 then
 (k59 [] h).bind fun r0 =>
 (AV.asP r0.1).bind fun p1 =>
 (bif (Option.isNone p1) then
 some ((.tup [(.p none), (.b false)]), r0.2)
 else (k51 [(.p p1)] r0.2).bind fun r2 =>
 (AV.asTup 2 r2.1).bind fun c3 =>
 (AV.asP (c3.getD 0 .u)).bind fun p4 =>
 gtI c3 1 fun n5 =>
 ((bif ((!(Option.isNone p4)) == true) then
 some ([(.b ((n5 : Int) == 0))], r2.2)
 else some ([(.b false)], r2.2)) : Option (List AV × AH O)).bind fun r6 =>
 (AV.asB (r6.1.getD 0 .u)).bind fun b7 =>
 ((bif (b7 == true) then
 Option.bind p4 fun q8 =>
 ldP r6.2 q8.1 q8.2 fun p10 =>
 some ([(.b (!(Option.isNone p10)))], r6.2)
 else some ([(.b false)], r6.2)) : Option (List AV × AH O)).bind fun r11 =>
 (AV.asB (r11.1.getD 0 .u)).bind fun b12 =>
 some ((.tup [(.p p4), (.b b12)]), r11.2))
 else none
def law19_made : Sm O := law19_made_c mem_New roots_New
theorem law19_made_ent : Entered Tryz.prog 10 := Tryz.call10
theorem law19_made_run (k59 k51 : Sm O) : run (O := O) Tryz.prog [(59, k59), (51, k51)] Tryz.f10 (.n .z (.n .z (.n (.n .z (.n .z .z)) (.n .z (.n (.d [(3, 2, [(19, .one .b)]), (7, 5, [(26, .one .b)])] [0, 1, 2, 3, 4, 5, 6, 7, 8, 9, 10, 11, 12, 13, 14, 15] [0, 0, 2, 6, 14, 30, 62, 126, 254, 510, 1022, 2046, 4094, 8190, 255, 32767]) .z))))) = law19_made_c k59 k51 := by kernel_rfl
theorem law19_made_sound : FSound RO Tryz.prog 10 law19_made := sdf (law19_made_run _ _) (gcons mem_New_ent mem_New_sound <| gcons roots_New_ent roots_New_sound <| gnil) Tryz.func10 (by kernel_rfl)
def shape_Frame_c : Sm O := fun xs h =>
 bif Nat.beq xs.length 1 then
 gtI xs 0 fun n0 =>
 ((bif ((decide (n0 < 0)) == false) then
 some ([(.b (decide (n0 > 256)))], h)
 else some ([(.b true)], h)) : Option (List AV × AH O)).bind fun r1 =>
 (AV.asB (r1.1.getD 0 .u)).bind fun b2 =>
 (bif b2 then
 some ((.i .i64 0), r1.2)
 else some ((.i .i64 (IntKind.i64.wrap (2 + n0))), r1.2))
 else none
def shape_Frame : Sm O := shape_Frame_c
theorem shape_Frame_ent : Entered Tryz.prog 112 := Tryz.call112
theorem shape_Frame_run : run (O := O) Tryz.prog [] Tryz.f112 (.n .z (.n (.n (.g [(2, 2, [(8, .one .b)])]) (.n .z .z)) .z)) = shape_Frame_c  := by kernel_rfl
theorem shape_Frame_sound : FSound RO Tryz.prog 112 shape_Frame := sdf shape_Frame_run (gnil) Tryz.func112 (by kernel_rfl)
def mem_Mem__at_c : Sm O := fun xs h =>
 bif Nat.beq xs.length 2 then
 (AV.asP (xs.getD 0 .u)).bind fun p0 =>
 gtI xs 1 fun n1 =>
 ((bif ((decide (n1 < 0)) == false) then
 Option.bind p0 fun q2 =>
 ldS h q2.1 (q2.2 + 1) fun l4 =>
 some ([(.b (decide (n1 >= (l4.2 : Int))))], h)
 else some ([(.b true)], h)) : Option (List AV × AH O)).bind fun r5 =>
 (AV.asB (r5.1.getD 0 .u)).bind fun b6 =>
 ((bif (b6 == false) then
 Option.bind p0 fun q7 =>
 ldS r5.2 q7.1 (q7.2 + 1) fun l9 =>
 (bif ((decide ((0 : Int) <= n1)) && (decide (n1 < (l9.2 : Int)))) then
 (SA.ref l9.1).bind fun q10 =>
 (r5.2.ld q10.1 ((q10.2 + (n1.toNat * 2)) + 1)).bind fun w11 =>
 (AV.asB w11).bind fun b12 =>
 some ([(.b (!b12))], r5.2)
 else none)
 else some ([(.b true)], r5.2)) : Option (List AV × AH O)).bind fun r13 =>
 (AV.asB (r13.1.getD 0 .u)).bind fun b14 =>
 (bif b14 then
 some ((.p none), r13.2)
 else Option.bind p0 fun q15 =>
 ldS r13.2 q15.1 (q15.2 + 1) fun l17 =>
 (bif ((decide ((0 : Int) <= n1)) && (decide (n1 < (l17.2 : Int)))) then
 (SA.ref l17.1).bind fun q18 =>
 some ((.p (some (q18.1, (q18.2 + (n1.toNat * 2))))), r13.2)
 else none))
 else none
def mem_Mem__at : Sm O := mem_Mem__at_c
theorem mem_Mem__at_ent : Entered Tryz.prog 178 := Tryz.call178
theorem mem_Mem__at_run : run (O := O) Tryz.prog [] Tryz.f178 (.n .z (.n (.n (.g [(2, 7, [(15, .one .b)]), (11, 9, [(26, .one .b)])]) (.n .z .z)) .z)) = mem_Mem__at_c  := by kernel_rfl
theorem mem_Mem__at_sound : FSound RO Tryz.prog 178 mem_Mem__at := sdf mem_Mem__at_run (gnil) Tryz.func178 (by kernel_rfl)
def mem_Mem__Grow_c (k178 k210 : Sm O) : Sm O := fun xs h =>
 bif Nat.beq xs.length 3 then
 (AV.asP (xs.getD 0 .u)).bind fun p0 =>
 gtI xs 1 fun n1 =>
 gtI xs 2 fun n2 =>
 (k178 [(.p p0), (.i .i64 n1)] h).bind fun r3 =>
 (AV.asP r3.1).bind fun p4 =>
 (bif (Option.isNone p4) then
 some ((.i .i64 10), r3.2)
 else Option.bind p4 fun q5 =>
 ldS r3.2 q5.1 q5.2 fun l7 =>
 (bif (decide (n2 < (l7.2 : Int))) then
 some ((.i .i64 1), r3.2)
 else (bif (decide (n2 > 4194304)) then
 some ((.i .i64 7), r3.2)
 else Option.bind p0 fun q8 =>
 ldP r3.2 q8.1 q8.2 fun p10 =>
 Option.bind p4 fun q11 =>
 ldS r3.2 q11.1 q11.2 fun l13 =>
 (k210 [(.p p10), (.i .i64 (IntKind.i64.wrap (n2 - (l13.2 : Int))))] r3.2).bind fun r14 =>
 (AV.asI .i64 r14.1).bind fun n15 =>
 let h16 := r14.2.bump 1
 (bif ((((decide ((0 : Int) <= n2)) && (decide (n2 <= n2))) && (decide ((n2 * 8) <= 140737488355328))) && (decide (n2 <= 140737488355328))) then
 let h17 := h16.put r14.2.next (.cells true 40 ((List.replicate n2.toNat [(.i .u64 0)]).flatten))
 Option.bind p4 fun q18 =>
 ldS h17 q18.1 q18.2 fun l20 =>
 (bif Nat.beq (min l20.2 n2.toNat) 0 then
 Option.bind p4 fun q24 =>
 (h17.st q24.1 q24.2 [(.sl (.loc (.n r14.2.next) 0 1) n2.toNat)]).bind fun h25 =>
 some ((.i .i64 0), h25)
 else
 (h17.rdSl l20.1 (min l20.2 n2.toNat) 1).bind fun c22 =>
 (h17.wrSl (.loc (.n r14.2.next) 0 1) c22).bind fun h23 =>
 Option.bind p4 fun q26 =>
 (h23.st q26.1 q26.2 [(.sl (.loc (.n r14.2.next) 0 1) n2.toNat)]).bind fun h27 =>
 some ((.i .i64 0), h27))
 else none))))
 else none
def mem_Mem__Grow : Sm O := mem_Mem__Grow_c mem_Mem__at meter_Meter__Hold
theorem mem_Mem__Grow_ent : Entered Tryz.prog 190 := Tryz.call190
theorem mem_Mem__Grow_run (k178 k210 : Sm O) : run (O := O) Tryz.prog [(178, k178), (210, k210)] Tryz.f190 (.n .z (.n .z (.n (.n (.n .z (.n .z (.n .z (.n .z (.n .z (.n .z .z)))))) .z) (.n (.d [] [0, 1, 2, 3, 4, 5, 6, 7, 8, 9, 10, 11] [0, 1, 3, 7, 0, 0, 32, 96, 224, 480, 1008, 2047]) (.n .z (.n .z (.n .z .z))))))) = mem_Mem__Grow_c k178 k210 := by kernel_rfl
theorem mem_Mem__Grow_sound : FSound RO Tryz.prog 190 mem_Mem__Grow := sdf (mem_Mem__Grow_run _ _) (gcons mem_Mem__at_ent mem_Mem__at_sound <| gcons meter_Meter__Hold_ent meter_Meter__Hold_sound <| gnil) Tryz.func190 (by kernel_rfl)
def frames_Frames__grow_L1 (n1 : Int) : List AV × AH O -> Option ((List AV × AH O) ⊕ (List AV × AH O)) := (fun r5 =>
 (AV.asI .i64 (r5.1.getD 0 .u)).bind fun n6 =>
 (bif (decide (n6 < n1)) then
 some (Sum.inl ([(.i .i64 (IntKind.i64.wrap (n6 * 2)))], r5.2))
 else some (Sum.inr ([(.i .i64 n6)], r5.2))))
def frames_Frames__grow_c (k190 : Sm O) : Sm O := fun xs h =>
 bif Nat.beq xs.length 2 then
 (AV.asP (xs.getD 0 .u)).bind fun p0 =>
 gtI xs 1 fun n1 =>
 Option.bind p0 fun q2 =>
 ldI h q2.1 (q2.2 + 2) fun n4 =>
 (loopF (S := List AV × AH O) (T := List AV × AH O) (frames_Frames__grow_L1 n1) ([(.i .i64 (if 32 > n4 then 32 else n4))], h)).bind fun r7 =>
 (AV.asI .i64 (r7.1.getD 0 .u)).bind fun n8 =>
 Option.bind p0 fun q9 =>
 ldI r7.2 q9.1 (q9.2 + 2) fun n11 =>
 (bif ((n8 : Int) == n11) then
 some ((.i .i64 0), r7.2)
 else Option.bind p0 fun q12 =>
 ldP r7.2 q12.1 q12.2 fun p14 =>
 Option.bind p0 fun q15 =>
 ldI r7.2 q15.1 (q15.2 + 1) fun n17 =>
 (k190 [(.p p14), (.i .i64 n17), (.i .i64 n8)] r7.2).bind fun r18 =>
 (AV.asI .i64 r18.1).bind fun n19 =>
 (bif ((n19 : Int) != 0) then
 some ((.i .i64 3), r18.2)
 else Option.bind p0 fun q20 =>
 (r18.2.st q20.1 (q20.2 + 2) [(.i .i64 n8)]).bind fun h21 =>
 some ((.i .i64 0), h21)))
 else none
def frames_Frames__grow : Sm O := frames_Frames__grow_c mem_Mem__Grow
theorem frames_Frames__grow_ent : Entered Tryz.prog 113 := Tryz.call113
theorem frames_Frames__grow_run (k190 : Sm O) : run (O := O) Tryz.prog [(190, k190)] Tryz.f113 (.n .z (.n .z (.n (.n (.lp false 0 [(5, .one (.i .i64))] [(5, .one (.i .i64))] (.n (.n .z .z) .z)) .z) (.n (.n .z (.n .z .z)) (.n (.n (.d [] [0, 1, 2, 3, 4, 5, 6, 7, 8, 9, 10] [0, 1, 3, 7, 0, 16, 48, 112, 0, 511, 1023]) (.n .z .z)) (.n .z .z)))))) = frames_Frames__grow_c k190 := by kernel_rfl
theorem frames_Frames__grow_sound : FSound RO Tryz.prog 113 frames_Frames__grow := sdf (frames_Frames__grow_run _) (gcons mem_Mem__Grow_ent mem_Mem__Grow_sound <| gnil) Tryz.func113 (by kernel_rfl)
def mem_Mem__within_c (k178 : Sm O) : Sm O := fun xs h =>
 bif Nat.beq xs.length 4 then
 (AV.asP (xs.getD 0 .u)).bind fun p0 =>
 gtI xs 1 fun n1 =>
 gtI xs 2 fun n2 =>
 gtI xs 3 fun n3 =>
 (k178 [(.p p0), (.i .i64 n1)] h).bind fun r4 =>
 (AV.asP r4.1).bind fun p5 =>
 (bif (Option.isNone p5) then
 some ((.tup [(.sl .nil 0), (.i .i64 10)]), r4.2)
 else ((bif ((decide (n3 < 0)) == false) then
 some ([(.b (decide (n2 < 0)))], r4.2)
 else some ([(.b true)], r4.2)) : Option (List AV × AH O)).bind fun r6 =>
 (AV.asB (r6.1.getD 0 .u)).bind fun b7 =>
 ((bif (b7 == false) then
 Option.bind p5 fun q8 =>
 ldS r6.2 q8.1 q8.2 fun l10 =>
 some ([(.b (decide (n2 > (l10.2 : Int))))], r6.2)
 else some ([(.b true)], r6.2)) : Option (List AV × AH O)).bind fun r11 =>
 (AV.asB (r11.1.getD 0 .u)).bind fun b12 =>
 ((bif (b12 == false) then
 Option.bind p5 fun q13 =>
 ldS r11.2 q13.1 q13.2 fun l15 =>
 let c16 : Bool := (decide (n3 > (IntKind.i64.wrap ((l15.2 : Int) - n2))))
 some ([(.b c16)], r11.2)
 else some ([(.b true)], r11.2)) : Option (List AV × AH O)).bind fun r17 =>
 (AV.asB (r17.1.getD 0 .u)).bind fun b18 =>
 (bif b18 then
 some ((.tup [(.sl .nil 0), (.i .i64 11)]), r17.2)
 else Option.bind p5 fun q19 =>
 ldS r17.2 q19.1 q19.2 fun l21 =>
 (bif (((decide ((0 : Int) <= n2)) && (decide (n2 <= (IntKind.i64.wrap (n2 + n3))))) && (decide ((IntKind.i64.wrap (n2 + n3)) <= (l21.2 : Int)))) then
 (SA.adv l21.1 n2.toNat 1).bind fun a22 =>
 some ((.tup [(.sl a22 ((IntKind.i64.wrap (n2 + n3)).toNat - n2.toNat)), (.i .i64 0)]), r17.2)
 else none)))
 else none
def mem_Mem__within : Sm O := mem_Mem__within_c mem_Mem__at
theorem mem_Mem__within_ent : Entered Tryz.prog 191 := Tryz.call191
theorem mem_Mem__within_run (k178 : Sm O) : run (O := O) Tryz.prog [(178, k178)] Tryz.f191 (.n .z (.n .z (.n (.n (.n .z (.n .z (.n (.g [(2, 2, [(23, .one .b)]), (6, 7, [(32, .one .b)]), (15, 9, [(43, .one .b)])]) (.n .z .z)))) .z) .z))) = mem_Mem__within_c k178 := by kernel_rfl
theorem mem_Mem__within_sound : FSound RO Tryz.prog 191 mem_Mem__within := sdf (mem_Mem__within_run _) (gcons mem_Mem__at_ent mem_Mem__at_sound <| gnil) Tryz.func191 (by kernel_rfl)
def wide_Of_c : Sm O := fun xs h =>
 bif Nat.beq xs.length 1 then
 gtU xs 0 fun n0 =>
 let h1 := h.bump 1
 let h2 := h1.put h.next (.cells true 81 [(.i .u64 0), (.i .u64 0)])
 (h2.st (.n h.next) 0 [(.i .u64 0), (.i .u64 n0)]).bind fun h3 =>
 ldU h3 (.n h.next) 0 fun n5 =>
 ldU h3 (.n h.next) 1 fun n7 =>
 some ((.agg [(.i .u64 n5), (.i .u64 n7)]), h3)
 else none
def wide_Of : Sm O := wide_Of_c
theorem wide_Of_ent : Entered Tryz.prog 230 := Tryz.call230
theorem wide_Of_run : run (O := O) Tryz.prog [] Tryz.f230 (.n .z .z) = wide_Of_c  := by kernel_rfl
theorem wide_Of_sound : FSound RO Tryz.prog 230 wide_Of := sdf wide_Of_run (gnil) Tryz.func230 (by kernel_rfl)
def wide_Most_c : Sm O := fun xs h =>
 bif Nat.beq xs.length 0 then
 let h0 := h.bump 1
 let h1 := h0.put h.next (.cells true 81 [(.i .u64 0), (.i .u64 0)])
 (h1.st (.n h.next) 0 [(.i .u64 18446744073709551615), (.i .u64 18446744073709551615)]).bind fun h2 =>
 ldU h2 (.n h.next) 0 fun n4 =>
 ldU h2 (.n h.next) 1 fun n6 =>
 some ((.agg [(.i .u64 n4), (.i .u64 n6)]), h2)
 else none
def wide_Most : Sm O := wide_Most_c
theorem wide_Most_ent : Entered Tryz.prog 169 := Tryz.call169
theorem wide_Most_run : run (O := O) Tryz.prog [] Tryz.f169 (.n .z .z) = wide_Most_c  := by kernel_rfl
theorem wide_Most_sound : FSound RO Tryz.prog 169 wide_Most := sdf wide_Most_run (gnil) Tryz.func169 (by kernel_rfl)
def wide_Add_c (k168 k169 : Sm O) : Sm O := fun xs h =>
 bif Nat.beq xs.length 2 then
 (AV.asAgg 2 (xs.getD 0 .u)).bind fun c0 =>
 gtU c0 0 fun n1 =>
 gtU c0 1 fun n2 =>
 (AV.asAgg 2 (xs.getD 1 .u)).bind fun c3 =>
 gtU c3 0 fun n4 =>
 gtU c3 1 fun n5 =>
 let h6 := h.bump 3
 let h7 := h6.put h.next (.cells true 81 [(.i .u64 n1), (.i .u64 n2)])
 let h8 := h7.put (h.next + 1) (.cells true 81 [(.i .u64 n4), (.i .u64 n5)])
 let h9 := h8.put ((h.next + 1) + 1) (.cells true 81 [(.i .u64 0), (.i .u64 0)])
 ldU h9 (.n h.next) 1 fun n11 =>
 ldU h9 (.n (h.next + 1)) 1 fun n13 =>
 (k168 [(.i .u64 n11), (.i .u64 n13), (.i .u64 0)] h9).bind fun r14 =>
 (AV.asTup 2 r14.1).bind fun c15 =>
 gtU c15 0 fun n16 =>
 gtU c15 1 fun n17 =>
 ldU r14.2 (.n h.next) 0 fun n19 =>
 ldU r14.2 (.n (h.next + 1)) 0 fun n21 =>
 (k168 [(.i .u64 n19), (.i .u64 n21), (.i .u64 n17)] r14.2).bind fun r22 =>
 (AV.asTup 2 r22.1).bind fun c23 =>
 gtU c23 0 fun n24 =>
 gtU c23 1 fun n25 =>
 (bif ((n25 : Int) != 0) then
 (k169 [] r22.2).bind fun r26 =>
 (AV.asAgg 2 r26.1).bind fun c27 =>
 gtU c27 0 fun n28 =>
 gtU c27 1 fun n29 =>
 (r26.2.st (.n ((h.next + 1) + 1)) 0 [(.i .u64 n28), (.i .u64 n29)]).bind fun h30 =>
 ldU h30 (.n ((h.next + 1) + 1)) 0 fun n32 =>
 ldU h30 (.n ((h.next + 1) + 1)) 1 fun n34 =>
 some ((.tup [(.agg [(.i .u64 n32), (.i .u64 n34)]), (.b false)]), h30)
 else (r22.2.st (.n ((h.next + 1) + 1)) 0 [(.i .u64 n24), (.i .u64 n16)]).bind fun h35 =>
 ldU h35 (.n ((h.next + 1) + 1)) 0 fun n37 =>
 ldU h35 (.n ((h.next + 1) + 1)) 1 fun n39 =>
 some ((.tup [(.agg [(.i .u64 n37), (.i .u64 n39)]), (.b true)]), h35))
 else none
def wide_Add : Sm O := wide_Add_c bits_Add64 wide_Most
theorem wide_Add_ent : Entered Tryz.prog 88 := Tryz.call88
theorem wide_Add_run (k168 k169 : Sm O) : run (O := O) Tryz.prog [(168, k168), (169, k169)] Tryz.f88 (.n .z (.n .z (.n .z (.n (.n .z (.n .z .z)) .z)))) = wide_Add_c k168 k169 := by kernel_rfl
theorem wide_Add_sound : FSound RO Tryz.prog 88 wide_Add := sdf (wide_Add_run _ _) (gext bits_Add64_ext <| gcons wide_Most_ent wide_Most_sound <| gnil) Tryz.func88 (by kernel_rfl)
def meter_Meter__Step_c (k230 k88 : Sm O) : Sm O := fun xs h =>
 bif Nat.beq xs.length 3 then
 (AV.asP (xs.getD 0 .u)).bind fun p0 =>
 gtI xs 1 fun n1 =>
 gtI xs 2 fun n2 =>
 ((bif ((Option.isNone p0) == false) then
 some ([(.b (decide (n1 < 0)))], h)
 else some ([(.b true)], h)) : Option (List AV × AH O)).bind fun r3 =>
 (AV.asB (r3.1.getD 0 .u)).bind fun b4 =>
 ((bif (b4 == false) then
 some ([(.b (decide (n1 >= 2)))], r3.2)
 else some ([(.b true)], r3.2)) : Option (List AV × AH O)).bind fun r5 =>
 (AV.asB (r5.1.getD 0 .u)).bind fun b6 =>
 ((bif (b6 == false) then
 some ([(.b (decide (n2 < 1)))], r5.2)
 else some ([(.b true)], r5.2)) : Option (List AV × AH O)).bind fun r7 =>
 (AV.asB (r7.1.getD 0 .u)).bind fun b8 =>
 (bif b8 then
 some ((.tup []), r7.2)
 else Option.bind p0 fun q9 =>
 (bif ((decide ((0 : Int) <= n1)) && (decide (n1 < 2))) then
 ldU r7.2 q9.1 (q9.2 + (n1.toNat * 2)) fun n11 =>
 ldU r7.2 q9.1 ((q9.2 + (n1.toNat * 2)) + 1) fun n13 =>
 Option.bind p0 fun q14 =>
 (k230 [(.i .u64 (IntKind.u64.wrap n2))] r7.2).bind fun r15 =>
 (AV.asAgg 2 r15.1).bind fun c16 =>
 gtU c16 0 fun n17 =>
 gtU c16 1 fun n18 =>
 (chkE (r15.2.ld q9.1 (q9.2 + (n1.toNat * 2))) (some (.i .u64 n11))).bind fun _ =>
 (chkE (r15.2.ld q9.1 ((q9.2 + (n1.toNat * 2)) + 1)) (some (.i .u64 n13))).bind fun _ =>
 (k88 [(.agg [(.i .u64 n11), (.i .u64 n13)]), (.agg [(.i .u64 n17), (.i .u64 n18)])] r15.2).bind fun r19 =>
 (AV.asTup 2 r19.1).bind fun c20 =>
 (AV.asAgg 2 (c20.getD 0 .u)).bind fun c21 =>
 gtU c21 0 fun n22 =>
 gtU c21 1 fun n23 =>
 (AV.asB (c20.getD 1 .u)).bind fun b24 =>
 (bif ((decide ((0 : Int) <= n1)) && (decide (n1 < 2))) then
 (r19.2.st q14.1 (q14.2 + (n1.toNat * 2)) [(.i .u64 n22), (.i .u64 n23)]).bind fun h25 =>
 some ((.tup []), h25)
 else none)
 else none))
 else none
def meter_Meter__Step : Sm O := meter_Meter__Step_c wide_Of wide_Add
theorem meter_Meter__Step_ent : Entered Tryz.prog 192 := Tryz.call192
theorem meter_Meter__Step_run (k230 k88 : Sm O) : run (O := O) Tryz.prog [(230, k230), (88, k88)] Tryz.f192 (.n (.n (.g [(2, 2, [(11, .one .b)]), (6, 2, [(15, .one .b)]), (10, 2, [(19, .one .b)])]) .z) (.d [] [0, 1, 2, 3, 4, 5, 6, 7, 8, 9, 15, 16, 10, 11, 12, 13, 14, 17, 18] [0, 0, 0, 0, 4, 20, 60, 124, 0, 256, 768, 2044, 4092, 8188, 8188, 1, 32769, 114687, 245759])) = meter_Meter__Step_c k230 k88 := by kernel_rfl
theorem meter_Meter__Step_sound : FSound RO Tryz.prog 192 meter_Meter__Step := sdf (meter_Meter__Step_run _ _) (gcons wide_Of_ent wide_Of_sound <| gcons wide_Add_ent wide_Add_sound <| gnil) Tryz.func192 (by kernel_rfl)
def mem_Mem__Write_c (k191 k192 : Sm O) : Sm O := fun xs h =>
 bif Nat.beq xs.length 4 then
 (AV.asP (xs.getD 0 .u)).bind fun p0 =>
 gtI xs 1 fun n1 =>
 gtI xs 2 fun n2 =>
 gtU xs 3 fun n3 =>
 (k191 [(.p p0), (.i .i64 n1), (.i .i64 n2), (.i .i64 1)] h).bind fun r4 =>
 (AV.asTup 2 r4.1).bind fun c5 =>
 gtS c5 0 fun l6 =>
 gtI c5 1 fun n7 =>
 (bif ((n7 : Int) != 0) then
 some ((.i .i64 n7), r4.2)
 else Option.bind p0 fun q8 =>
 ldP r4.2 q8.1 q8.2 fun p10 =>
 (k192 [(.p p10), (.i .i64 1), (.i .i64 1)] r4.2).bind fun r11 =>
 (AV.asTup 0 r11.1).bind fun c12 =>
 (bif (decide ((0 : Int) < (l6.2 : Int))) then
 (SA.ref l6.1).bind fun q13 =>
 (r11.2.st q13.1 q13.2 [(.i .u64 n3)]).bind fun h14 =>
 some ((.i .i64 0), h14)
 else none))
 else none
def mem_Mem__Write : Sm O := mem_Mem__Write_c mem_Mem__within meter_Meter__Step
theorem mem_Mem__Write_ent : Entered Tryz.prog 114 := Tryz.call114
theorem mem_Mem__Write_run (k191 k192 : Sm O) : run (O := O) Tryz.prog [(191, k191), (192, k192)] Tryz.f114 (.n .z (.n .z (.n (.n .z (.n .z .z)) (.n .z (.n .z .z))))) = mem_Mem__Write_c k191 k192 := by kernel_rfl
theorem mem_Mem__Write_sound : FSound RO Tryz.prog 114 mem_Mem__Write := sdf (mem_Mem__Write_run _ _) (gcons mem_Mem__within_ent mem_Mem__within_sound <| gcons meter_Meter__Step_ent meter_Meter__Step_sound <| gnil) Tryz.func114 (by kernel_rfl)
def mem_Mem__Zero_c (k191 k192 : Sm O) : Sm O := fun xs h =>
 bif Nat.beq xs.length 4 then
 (AV.asP (xs.getD 0 .u)).bind fun p0 =>
 gtI xs 1 fun n1 =>
 gtI xs 2 fun n2 =>
 gtI xs 3 fun n3 =>
 (k191 [(.p p0), (.i .i64 n1), (.i .i64 n2), (.i .i64 n3)] h).bind fun r4 =>
 (AV.asTup 2 r4.1).bind fun c5 =>
 gtS c5 0 fun l6 =>
 gtI c5 1 fun n7 =>
 (bif ((n7 : Int) != 0) then
 some ((.i .i64 n7), r4.2)
 else Option.bind p0 fun q8 =>
 ldP r4.2 q8.1 q8.2 fun p10 =>
 (k192 [(.p p10), (.i .i64 1), (.i .i64 n3)] r4.2).bind fun r11 =>
 (AV.asTup 0 r11.1).bind fun c12 =>
 (bif Nat.beq l6.2 0 then
 some ((.i .i64 0), r11.2)
 else
 (r11.2.wrSl l6.1 ((List.replicate l6.2 [(.i .u64 0)]).flatten)).bind fun h13 =>
 some ((.i .i64 0), h13)))
 else none
def mem_Mem__Zero : Sm O := mem_Mem__Zero_c mem_Mem__within meter_Meter__Step
theorem mem_Mem__Zero_ent : Entered Tryz.prog 115 := Tryz.call115
theorem mem_Mem__Zero_run (k191 k192 : Sm O) : run (O := O) Tryz.prog [(191, k191), (192, k192)] Tryz.f115 (.n .z (.n .z (.n (.n .z (.n .z .z)) (.n .z (.n .z .z))))) = mem_Mem__Zero_c k191 k192 := by kernel_rfl
theorem mem_Mem__Zero_sound : FSound RO Tryz.prog 115 mem_Mem__Zero := sdf (mem_Mem__Zero_run _ _) (gcons mem_Mem__within_ent mem_Mem__within_sound <| gcons meter_Meter__Step_ent meter_Meter__Step_sound <| gnil) Tryz.func115 (by kernel_rfl)
def frames_Frames__Push_c (k112 k113 k114 k115 : Sm O) : Sm O := fun xs h =>
 bif Nat.beq xs.length 2 then
 (AV.asP (xs.getD 0 .u)).bind fun p0 =>
 gtI xs 1 fun n1 =>
 (k112 [(.i .i64 n1)] h).bind fun r2 =>
 (AV.asI .i64 r2.1).bind fun n3 =>
 (bif ((n3 : Int) == 0) then
 some ((.i .i64 1), r2.2)
 else Option.bind p0 fun q4 =>
 ldI r2.2 q4.1 (q4.2 + 3) fun n6 =>
 (k113 [(.p p0), (.i .i64 (IntKind.i64.wrap (n6 + n3)))] r2.2).bind fun r7 =>
 (AV.asI .i64 r7.1).bind fun n8 =>
 (bif ((n8 : Int) != 0) then
 some ((.i .i64 n8), r7.2)
 else Option.bind p0 fun q9 =>
 ldI r7.2 q9.1 (q9.2 + 4) fun n11 =>
 ((bif (decide (n11 > 0)) then
 Option.bind p0 fun q12 =>
 ldI r7.2 q12.1 (q12.2 + 5) fun n14 =>
 some ([(.i .i64 (IntKind.i64.wrap (n14 + 1)))], r7.2)
 else some ([(.i .i64 0)], r7.2)) : Option (List AV × AH O)).bind fun r15 =>
 (AV.asI .i64 (r15.1.getD 0 .u)).bind fun n16 =>
 Option.bind p0 fun q17 =>
 ldP r15.2 q17.1 q17.2 fun p19 =>
 Option.bind p0 fun q20 =>
 ldI r15.2 q20.1 (q20.2 + 1) fun n22 =>
 Option.bind p0 fun q23 =>
 ldI r15.2 q23.1 (q23.2 + 3) fun n25 =>
 (k114 [(.p p19), (.i .i64 n22), (.i .i64 (IntKind.i64.wrap (n25 + 0))), (.i .u64 (IntKind.u64.wrap n16))] r15.2).bind fun r26 =>
 (AV.asI .i64 r26.1).bind fun n27 =>
 Option.bind p0 fun q28 =>
 ldP r26.2 q28.1 q28.2 fun p30 =>
 Option.bind p0 fun q31 =>
 ldI r26.2 q31.1 (q31.2 + 1) fun n33 =>
 Option.bind p0 fun q34 =>
 ldI r26.2 q34.1 (q34.2 + 3) fun n36 =>
 (k114 [(.p p30), (.i .i64 n33), (.i .i64 (IntKind.i64.wrap (n36 + 1))), (.i .u64 (IntKind.u64.wrap n1))] r26.2).bind fun r37 =>
 (AV.asI .i64 r37.1).bind fun n38 =>
 Option.bind p0 fun q39 =>
 ldP r37.2 q39.1 q39.2 fun p41 =>
 Option.bind p0 fun q42 =>
 ldI r37.2 q42.1 (q42.2 + 1) fun n44 =>
 Option.bind p0 fun q45 =>
 ldI r37.2 q45.1 (q45.2 + 3) fun n47 =>
 (k115 [(.p p41), (.i .i64 n44), (.i .i64 (IntKind.i64.wrap (n47 + 2))), (.i .i64 n1)] r37.2).bind fun r48 =>
 (AV.asI .i64 r48.1).bind fun n49 =>
 Option.bind p0 fun q50 =>
 ldI r48.2 q50.1 (q50.2 + 3) fun n52 =>
 Option.bind p0 fun q53 =>
 (r48.2.st q53.1 (q53.2 + 5) [(.i .i64 n52), (.i .i64 n1)]).bind fun h54 =>
 Option.bind p0 fun q55 =>
 ldI h54 q55.1 (q55.2 + 3) fun n57 =>
 Option.bind p0 fun q58 =>
 (h54.st q58.1 (q58.2 + 3) [(.i .i64 (IntKind.i64.wrap (n57 + n3)))]).bind fun h59 =>
 Option.bind p0 fun q60 =>
 ldI h59 q60.1 (q60.2 + 4) fun n62 =>
 Option.bind p0 fun q63 =>
 (h59.st q63.1 (q63.2 + 4) [(.i .i64 (IntKind.i64.wrap (n62 + 1)))]).bind fun h64 =>
 some ((.i .i64 0), h64)))
 else none
def frames_Frames__Push : Sm O := frames_Frames__Push_c shape_Frame frames_Frames__grow mem_Mem__Write mem_Mem__Zero
theorem frames_Frames__Push_ent : Entered Tryz.prog 55 := Tryz.call55
theorem frames_Frames__Push_run (k112 k113 k114 k115 : Sm O) : run (O := O) Tryz.prog [(112, k112), (113, k113), (114, k114), (115, k115)] Tryz.f55 (.n .z (.n .z (.n (.n .z (.n .z .z)) (.n (.n .z (.n .z (.n .z .z))) (.n .z (.n (.n .z (.j false [(7, .one (.i .i64))] .z .z)) (.n (.d [] [0, 1, 2, 3, 4, 5, 6, 7, 8, 9, 10, 11, 12, 13, 14, 15] [0, 1, 3, 7, 0, 16, 48, 112, 0, 256, 768, 1792, 3840, 0, 8192, 32767]) (.n (.d [] [0, 1, 2, 3, 4, 5, 6, 7, 8, 9, 10, 11, 12, 13, 14, 15] [0, 1, 3, 7, 0, 16, 48, 112, 0, 256, 768, 1792, 3840, 0, 8192, 32767]) (.n (.d [] [0, 1, 2, 3, 4, 5, 6, 7, 8, 9, 10, 11, 12, 13, 14] [0, 1, 3, 7, 0, 16, 48, 112, 0, 256, 768, 1792, 3840, 0, 16383]) (.n .z (.n .z (.n .z .z)))))))))))) = frames_Frames__Push_c k112 k113 k114 k115 := by kernel_rfl
theorem frames_Frames__Push_sound : FSound RO Tryz.prog 55 frames_Frames__Push := sdf (frames_Frames__Push_run _ _ _ _) (gcons shape_Frame_ent shape_Frame_sound <| gcons frames_Frames__grow_ent frames_Frames__grow_sound <| gcons mem_Mem__Write_ent mem_Mem__Write_sound <| gcons mem_Mem__Zero_ent mem_Mem__Zero_sound <| gnil) Tryz.func55 (by kernel_rfl)
def pool_Pool__width_c : Sm O := fun xs h =>
 bif Nat.beq xs.length 1 then
 (AV.asP (xs.getD 0 .u)).bind fun p0 =>
 Option.bind p0 fun q1 =>
 ldI h q1.1 (q1.2 + 2) fun n3 =>
 some ((.i .i64 (IntKind.i64.wrap (n3 + 1))), h)
 else none
def pool_Pool__width : Sm O := pool_Pool__width_c
theorem pool_Pool__width_ent : Entered Tryz.prog 231 := Tryz.call231
theorem pool_Pool__width_run : run (O := O) Tryz.prog [] Tryz.f231 (.n .z .z) = pool_Pool__width_c  := by kernel_rfl
theorem pool_Pool__width_sound : FSound RO Tryz.prog 231 pool_Pool__width := sdf pool_Pool__width_run (gnil) Tryz.func231 (by kernel_rfl)
def pool_Pool__grow_c (k231 k190 : Sm O) : Sm O := fun xs h =>
 bif Nat.beq xs.length 1 then
 (AV.asP (xs.getD 0 .u)).bind fun p0 =>
 Option.bind p0 fun q1 =>
 ldI h q1.1 (q1.2 + 3) fun n3 =>
 (bif (decide (n3 >= 1048576)) then
 some ((.i .i64 3), h)
 else Option.bind p0 fun q4 =>
 ldI h q4.1 (q4.2 + 3) fun n6 =>
 Option.bind p0 fun q7 =>
 ldI h q7.1 (q7.2 + 4) fun n9 =>
 (bif (decide (n6 < n9)) then
 some ((.i .i64 0), h)
 else Option.bind p0 fun q10 =>
 ldI h q10.1 (q10.2 + 4) fun n12 =>
 let v13 : Int := (if (IntKind.i64.wrap (2 * n12)) > 8 then (IntKind.i64.wrap (2 * n12)) else 8)
 Option.bind p0 fun q14 =>
 ldP h q14.1 q14.2 fun p16 =>
 Option.bind p0 fun q17 =>
 ldI h q17.1 (q17.2 + 1) fun n19 =>
 (k231 [(.p p0)] h).bind fun r20 =>
 (AV.asI .i64 r20.1).bind fun n21 =>
 (chkE (r20.2.ld q14.1 q14.2) (some (.p p16))).bind fun _ =>
 (chkE (r20.2.ld q17.1 (q17.2 + 1)) (some (.i .i64 n19))).bind fun _ =>
 (k190 [(.p p16), (.i .i64 n19), (.i .i64 (IntKind.i64.wrap (v13 * n21)))] r20.2).bind fun r22 =>
 (AV.asI .i64 r22.1).bind fun n23 =>
 (bif ((n23 : Int) != 0) then
 some ((.i .i64 3), r22.2)
 else Option.bind p0 fun q24 =>
 (r22.2.st q24.1 (q24.2 + 4) [(.i .i64 v13)]).bind fun h25 =>
 some ((.i .i64 0), h25))))
 else none
def pool_Pool__grow : Sm O := pool_Pool__grow_c pool_Pool__width mem_Mem__Grow
theorem pool_Pool__grow_ent : Entered Tryz.prog 228 := Tryz.call228
theorem pool_Pool__grow_run (k231 k190 : Sm O) : run (O := O) Tryz.prog [(231, k231), (190, k190)] Tryz.f228 (.n .z (.n (.n (.n .z (.n .z (.n (.d [] [0, 1, 2, 3, 4, 5, 6, 7, 8, 9] [0, 1, 3, 7, 0, 16, 48, 112, 255, 511]) (.n .z .z)))) .z) (.n .z (.n (.n (.d [] [0, 1, 2, 3, 4, 5, 6, 7, 8, 9, 10, 11, 12, 13] [0, 1, 3, 7, 0, 16, 48, 112, 0, 0, 512, 1792, 4095, 8191]) (.n .z (.n .z .z))) (.n .z .z))))) = pool_Pool__grow_c k231 k190 := by kernel_rfl
theorem pool_Pool__grow_sound : FSound RO Tryz.prog 228 pool_Pool__grow := sdf (pool_Pool__grow_run _ _) (gcons pool_Pool__width_ent pool_Pool__width_sound <| gcons mem_Mem__Grow_ent mem_Mem__Grow_sound <| gnil) Tryz.func228 (by kernel_rfl)
def pool_Pool__at_c (k231 : Sm O) : Sm O := fun xs h =>
 bif Nat.beq xs.length 3 then
 (AV.asP (xs.getD 0 .u)).bind fun p0 =>
 gtI xs 1 fun n1 =>
 gtI xs 2 fun n2 =>
 (k231 [(.p p0)] h).bind fun r3 =>
 (AV.asI .i64 r3.1).bind fun n4 =>
 let v5 : Int := (IntKind.i64.wrap ((IntKind.i64.wrap (n1 - 1)) * n4))
 let v6 : Int := (IntKind.i64.wrap ((IntKind.i64.wrap (v5 + 1)) + n2))
 some ((.i .i64 v6), r3.2)
 else none
def pool_Pool__at : Sm O := pool_Pool__at_c pool_Pool__width
theorem pool_Pool__at_ent : Entered Tryz.prog 202 := Tryz.call202
theorem pool_Pool__at_run (k231 : Sm O) : run (O := O) Tryz.prog [(231, k231)] Tryz.f202 (.n .z .z) = pool_Pool__at_c k231 := by kernel_rfl
theorem pool_Pool__at_sound : FSound RO Tryz.prog 202 pool_Pool__at := sdf (pool_Pool__at_run _) (gcons pool_Pool__width_ent pool_Pool__width_sound <| gnil) Tryz.func202 (by kernel_rfl)
def mem_Mem__Read_c (k191 k192 : Sm O) : Sm O := fun xs h =>
 bif Nat.beq xs.length 3 then
 (AV.asP (xs.getD 0 .u)).bind fun p0 =>
 gtI xs 1 fun n1 =>
 gtI xs 2 fun n2 =>
 (k191 [(.p p0), (.i .i64 n1), (.i .i64 n2), (.i .i64 1)] h).bind fun r3 =>
 (AV.asTup 2 r3.1).bind fun c4 =>
 gtS c4 0 fun l5 =>
 gtI c4 1 fun n6 =>
 (bif ((n6 : Int) != 0) then
 some ((.tup [(.i .u64 0), (.i .i64 n6)]), r3.2)
 else Option.bind p0 fun q7 =>
 ldP r3.2 q7.1 q7.2 fun p9 =>
 (k192 [(.p p9), (.i .i64 0), (.i .i64 1)] r3.2).bind fun r10 =>
 (AV.asTup 0 r10.1).bind fun c11 =>
 (bif (decide ((0 : Int) < (l5.2 : Int))) then
 (SA.ref l5.1).bind fun q12 =>
 ldU r10.2 q12.1 q12.2 fun n14 =>
 some ((.tup [(.i .u64 n14), (.i .i64 0)]), r10.2)
 else none))
 else none
def mem_Mem__Read : Sm O := mem_Mem__Read_c mem_Mem__within meter_Meter__Step
theorem mem_Mem__Read_ent : Entered Tryz.prog 139 := Tryz.call139
theorem mem_Mem__Read_run (k191 k192 : Sm O) : run (O := O) Tryz.prog [(191, k191), (192, k192)] Tryz.f139 (.n .z (.n .z (.n (.n .z (.n .z .z)) (.n .z .z)))) = mem_Mem__Read_c k191 k192 := by kernel_rfl
theorem mem_Mem__Read_sound : FSound RO Tryz.prog 139 mem_Mem__Read := sdf (mem_Mem__Read_run _ _) (gcons mem_Mem__within_ent mem_Mem__within_sound <| gcons meter_Meter__Step_ent meter_Meter__Step_sound <| gnil) Tryz.func139 (by kernel_rfl)
def pool_Pool__Take_c (k228 k202 k114 k139 k115 : Sm O) : Sm O := fun xs h =>
 bif Nat.beq xs.length 1 then
 (AV.asP (xs.getD 0 .u)).bind fun p0 =>
 Option.bind p0 fun q1 =>
 ldI h q1.1 (q1.2 + 5) fun n3 =>
 (bif ((n3 : Int) == 0) then
 (k228 [(.p p0)] h).bind fun r4 =>
 (AV.asI .i64 r4.1).bind fun n5 =>
 (bif ((n5 : Int) != 0) then
 some ((.tup [(.i .i64 0), (.i .i64 n5)]), r4.2)
 else Option.bind p0 fun q6 =>
 ldI r4.2 q6.1 (q6.2 + 3) fun n8 =>
 Option.bind p0 fun q9 =>
 (r4.2.st q9.1 (q9.2 + 3) [(.i .i64 (IntKind.i64.wrap (n8 + 1)))]).bind fun h10 =>
 Option.bind p0 fun q11 =>
 ldI h10 q11.1 (q11.2 + 3) fun n13 =>
 Option.bind p0 fun q14 =>
 ldP h10 q14.1 q14.2 fun p16 =>
 Option.bind p0 fun q17 =>
 ldI h10 q17.1 (q17.2 + 1) fun n19 =>
 (k202 [(.p p0), (.i .i64 n13), (.i .i64 (-1))] h10).bind fun r20 =>
 (AV.asI .i64 r20.1).bind fun n21 =>
 (chkE (r20.2.ld q14.1 q14.2) (some (.p p16))).bind fun _ =>
 (chkE (r20.2.ld q17.1 (q17.2 + 1)) (some (.i .i64 n19))).bind fun _ =>
 (k114 [(.p p16), (.i .i64 n19), (.i .i64 n21), (.i .u64 1)] r20.2).bind fun r22 =>
 (AV.asI .i64 r22.1).bind fun n23 =>
 Option.bind p0 fun q24 =>
 ldI r22.2 q24.1 (q24.2 + 6) fun n26 =>
 Option.bind p0 fun q27 =>
 (r22.2.st q27.1 (q27.2 + 6) [(.i .i64 (IntKind.i64.wrap (n26 + 1)))]).bind fun h28 =>
 some ((.tup [(.i .i64 n13), (.i .i64 0)]), h28))
 else Option.bind p0 fun q29 =>
 ldP h q29.1 q29.2 fun p31 =>
 Option.bind p0 fun q32 =>
 ldI h q32.1 (q32.2 + 1) fun n34 =>
 (k202 [(.p p0), (.i .i64 n3), (.i .i64 0)] h).bind fun r35 =>
 (AV.asI .i64 r35.1).bind fun n36 =>
 (chkE (r35.2.ld q29.1 q29.2) (some (.p p31))).bind fun _ =>
 (chkE (r35.2.ld q32.1 (q32.2 + 1)) (some (.i .i64 n34))).bind fun _ =>
 (k139 [(.p p31), (.i .i64 n34), (.i .i64 n36)] r35.2).bind fun r37 =>
 (AV.asTup 2 r37.1).bind fun c38 =>
 gtU c38 0 fun n39 =>
 gtI c38 1 fun n40 =>
 Option.bind p0 fun q41 =>
 ldP r37.2 q41.1 q41.2 fun p43 =>
 Option.bind p0 fun q44 =>
 ldI r37.2 q44.1 (q44.2 + 1) fun n46 =>
 (k202 [(.p p0), (.i .i64 n3), (.i .i64 (-1))] r37.2).bind fun r47 =>
 (AV.asI .i64 r47.1).bind fun n48 =>
 (chkE (r47.2.ld q41.1 q41.2) (some (.p p43))).bind fun _ =>
 (chkE (r47.2.ld q44.1 (q44.2 + 1)) (some (.i .i64 n46))).bind fun _ =>
 (k139 [(.p p43), (.i .i64 n46), (.i .i64 n48)] r47.2).bind fun r49 =>
 (AV.asTup 2 r49.1).bind fun c50 =>
 gtU c50 0 fun n51 =>
 gtI c50 1 fun n52 =>
 Option.bind p0 fun q53 =>
 ldP r49.2 q53.1 q53.2 fun p55 =>
 Option.bind p0 fun q56 =>
 ldI r49.2 q56.1 (q56.2 + 1) fun n58 =>
 (k202 [(.p p0), (.i .i64 n3), (.i .i64 (-1))] r49.2).bind fun r59 =>
 (AV.asI .i64 r59.1).bind fun n60 =>
 (chkE (r59.2.ld q53.1 q53.2) (some (.p p55))).bind fun _ =>
 (chkE (r59.2.ld q56.1 (q56.2 + 1)) (some (.i .i64 n58))).bind fun _ =>
 (k114 [(.p p55), (.i .i64 n58), (.i .i64 n60), (.i .u64 (ibits .or .u64 n51 1))] r59.2).bind fun r61 =>
 (AV.asI .i64 r61.1).bind fun n62 =>
 Option.bind p0 fun q63 =>
 ldP r61.2 q63.1 q63.2 fun p65 =>
 Option.bind p0 fun q66 =>
 ldI r61.2 q66.1 (q66.2 + 1) fun n68 =>
 Option.bind p0 fun q69 =>
 ldI r61.2 q69.1 (q69.2 + 2) fun n71 =>
 (k202 [(.p p0), (.i .i64 n3), (.i .i64 0)] r61.2).bind fun r72 =>
 (AV.asI .i64 r72.1).bind fun n73 =>
 (chkE (r72.2.ld q63.1 q63.2) (some (.p p65))).bind fun _ =>
 (chkE (r72.2.ld q66.1 (q66.2 + 1)) (some (.i .i64 n68))).bind fun _ =>
 (chkE (r72.2.ld q69.1 (q69.2 + 2)) (some (.i .i64 n71))).bind fun _ =>
 (k115 [(.p p65), (.i .i64 n68), (.i .i64 n73), (.i .i64 n71)] r72.2).bind fun r74 =>
 (AV.asI .i64 r74.1).bind fun n75 =>
 Option.bind p0 fun q76 =>
 (r74.2.st q76.1 (q76.2 + 5) [(.i .i64 (IntKind.i64.wrap n39))]).bind fun h77 =>
 Option.bind p0 fun q78 =>
 ldI h77 q78.1 (q78.2 + 6) fun n80 =>
 Option.bind p0 fun q81 =>
 (h77.st q81.1 (q81.2 + 6) [(.i .i64 (IntKind.i64.wrap (n80 + 1)))]).bind fun h82 =>
 some ((.tup [(.i .i64 n3), (.i .i64 0)]), h82))
 else none
def pool_Pool__Take : Sm O := pool_Pool__Take_c pool_Pool__grow pool_Pool__at mem_Mem__Write mem_Mem__Read mem_Mem__Zero
theorem pool_Pool__Take_ent : Entered Tryz.prog 183 := Tryz.call183
theorem pool_Pool__Take_run (k228 k202 k114 k139 k115 : Sm O) : run (O := O) Tryz.prog [(228, k228), (202, k202), (114, k114), (139, k139), (115, k115)] Tryz.f183 (.n .z (.n .z (.n (.n .z (.n (.n (.n .z (.n .z (.n .z .z))) (.n .z (.n .z (.n (.d [] [0, 1, 2, 3, 4, 5, 6, 7, 8, 9, 10, 11] [0, 1, 3, 7, 0, 16, 48, 112, 0, 0, 768, 2047]) (.n .z .z))))) .z)) (.n (.d [] [0, 1, 2, 3, 4, 5, 6, 7, 8, 9, 10, 11, 12, 13, 14, 15, 16] [0, 1, 3, 7, 0, 16, 48, 112, 0, 0, 768, 2047, 4095, 8191, 8191, 16383, 65535]) (.n (.d [] [0, 1, 2, 3, 4, 5, 6, 7, 8, 9, 10, 11, 12, 13, 14, 15, 16] [0, 1, 3, 7, 0, 16, 48, 112, 0, 0, 768, 2047, 4095, 8191, 8191, 16383, 65535]) (.n (.d [] [0, 1, 2, 3, 4, 5, 6, 7, 8, 9, 11, 12, 10, 13] [0, 1, 3, 7, 0, 16, 48, 112, 0, 0, 768, 0, 2048, 8191]) (.n (.d [] [0, 1, 2, 3, 4, 5, 6, 7, 8, 9, 11, 12, 13, 14, 10, 15] [0, 1, 3, 7, 0, 16, 48, 112, 0, 0, 768, 0, 2048, 6144, 14336, 32767]) (.n .z (.n .z .z))))))))) = pool_Pool__Take_c k228 k202 k114 k139 k115 := by kernel_rfl
theorem pool_Pool__Take_sound : FSound RO Tryz.prog 183 pool_Pool__Take := sdf (pool_Pool__Take_run _ _ _ _ _) (gcons pool_Pool__grow_ent pool_Pool__grow_sound <| gcons pool_Pool__at_ent pool_Pool__at_sound <| gcons mem_Mem__Write_ent mem_Mem__Write_sound <| gcons mem_Mem__Read_ent mem_Mem__Read_sound <| gcons mem_Mem__Zero_ent mem_Mem__Zero_sound <| gnil) Tryz.func183 (by kernel_rfl)
def pool_Pool__look_c (k202 k139 : Sm O) : Sm O := fun xs h =>
 bif Nat.beq xs.length 2 then
 (AV.asP (xs.getD 0 .u)).bind fun p0 =>
 gtI xs 1 fun n1 =>
 ((bif ((decide (n1 < 1)) == false) then
 Option.bind p0 fun q2 =>
 ldI h q2.1 (q2.2 + 3) fun n4 =>
 some ([(.b (decide (n1 > n4)))], h)
 else some ([(.b true)], h)) : Option (List AV × AH O)).bind fun r5 =>
 (AV.asB (r5.1.getD 0 .u)).bind fun b6 =>
 (bif b6 then
 some ((.tup [(.i .u64 0), (.b false)]), r5.2)
 else Option.bind p0 fun q7 =>
 ldP r5.2 q7.1 q7.2 fun p9 =>
 Option.bind p0 fun q10 =>
 ldI r5.2 q10.1 (q10.2 + 1) fun n12 =>
 (k202 [(.p p0), (.i .i64 n1), (.i .i64 (-1))] r5.2).bind fun r13 =>
 (AV.asI .i64 r13.1).bind fun n14 =>
 (chkE (r13.2.ld q7.1 q7.2) (some (.p p9))).bind fun _ =>
 (chkE (r13.2.ld q10.1 (q10.2 + 1)) (some (.i .i64 n12))).bind fun _ =>
 (k139 [(.p p9), (.i .i64 n12), (.i .i64 n14)] r13.2).bind fun r15 =>
 (AV.asTup 2 r15.1).bind fun c16 =>
 gtU c16 0 fun n17 =>
 gtI c16 1 fun n18 =>
 some ((.tup [(.i .u64 n17), (.b true)]), r15.2))
 else none
def pool_Pool__look : Sm O := pool_Pool__look_c pool_Pool__at mem_Mem__Read
theorem pool_Pool__look_ent : Entered Tryz.prog 227 := Tryz.call227
theorem pool_Pool__look_run (k202 k139 : Sm O) : run (O := O) Tryz.prog [(202, k202), (139, k139)] Tryz.f227 (.n .z (.n (.n (.g [(2, 6, [(17, .one .b)])]) (.n .z .z)) (.n (.d [] [0, 1, 2, 3, 4, 5, 6, 7, 8, 9, 10, 11, 12, 13, 14, 15, 16] [0, 1, 3, 7, 0, 16, 48, 112, 0, 0, 768, 2047, 4095, 8191, 8191, 16383, 65535]) .z))) = pool_Pool__look_c k202 k139 := by kernel_rfl
theorem pool_Pool__look_sound : FSound RO Tryz.prog 227 pool_Pool__look := sdf (pool_Pool__look_run _ _) (gcons pool_Pool__at_ent pool_Pool__at_sound <| gcons mem_Mem__Read_ent mem_Mem__Read_sound <| gnil) Tryz.func227 (by kernel_rfl)
def pool_Pool__Taken_c (k227 : Sm O) : Sm O := fun xs h =>
 bif Nat.beq xs.length 2 then
 (AV.asP (xs.getD 0 .u)).bind fun p0 =>
 gtI xs 1 fun n1 =>
 (k227 [(.p p0), (.i .i64 n1)] h).bind fun r2 =>
 (AV.asTup 2 r2.1).bind fun c3 =>
 gtU c3 0 fun n4 =>
 (AV.asB (c3.getD 1 .u)).bind fun b5 =>
 ((bif (b5 == true) then
 some ([(.b (((ibits .and .u64 n4 1) : Int) == 1))], r2.2)
 else some ([(.b false)], r2.2)) : Option (List AV × AH O)).bind fun r6 =>
 (AV.asB (r6.1.getD 0 .u)).bind fun b7 =>
 some ((.b b7), r6.2)
 else none
def pool_Pool__Taken : Sm O := pool_Pool__Taken_c pool_Pool__look
theorem pool_Pool__Taken_ent : Entered Tryz.prog 200 := Tryz.call200
theorem pool_Pool__Taken_run (k227 : Sm O) : run (O := O) Tryz.prog [(227, k227)] Tryz.f200 (.n .z (.n .z (.n (.g [(1, 3, [(18, .one .b)])]) .z))) = pool_Pool__Taken_c k227 := by kernel_rfl
theorem pool_Pool__Taken_sound : FSound RO Tryz.prog 200 pool_Pool__Taken := sdf (pool_Pool__Taken_run _) (gcons pool_Pool__look_ent pool_Pool__look_sound <| gnil) Tryz.func200 (by kernel_rfl)
def pool_Pool__check_c (k200 : Sm O) : Sm O := fun xs h =>
 bif Nat.beq xs.length 3 then
 (AV.asP (xs.getD 0 .u)).bind fun p0 =>
 gtI xs 1 fun n1 =>
 gtI xs 2 fun n2 =>
 (k200 [(.p p0), (.i .i64 n1)] h).bind fun r3 =>
 (AV.asB r3.1).bind fun b4 =>
 (bif (!b4) then
 some ((.i .i64 4), r3.2)
 else ((bif ((decide (n2 < 0)) == false) then
 Option.bind p0 fun q5 =>
 ldI r3.2 q5.1 (q5.2 + 2) fun n7 =>
 some ([(.b (decide (n2 >= n7)))], r3.2)
 else some ([(.b true)], r3.2)) : Option (List AV × AH O)).bind fun r8 =>
 (AV.asB (r8.1.getD 0 .u)).bind fun b9 =>
 (bif b9 then
 some ((.i .i64 32), r8.2)
 else some ((.i .i64 0), r8.2)))
 else none
def pool_Pool__check : Sm O := pool_Pool__check_c pool_Pool__Taken
theorem pool_Pool__check_ent : Entered Tryz.prog 201 := Tryz.call201
theorem pool_Pool__check_run (k200 : Sm O) : run (O := O) Tryz.prog [(200, k200)] Tryz.f201 (.n .z (.n (.n (.n .z (.n .z (.n (.g [(2, 6, [(22, .one .b)])]) (.n .z .z)))) .z) .z)) = pool_Pool__check_c k200 := by kernel_rfl
theorem pool_Pool__check_sound : FSound RO Tryz.prog 201 pool_Pool__check := sdf (pool_Pool__check_run _) (gcons pool_Pool__Taken_ent pool_Pool__Taken_sound <| gnil) Tryz.func201 (by kernel_rfl)
def pool_Pool__Set_c (k201 k202 k114 : Sm O) : Sm O := fun xs h =>
 bif Nat.beq xs.length 4 then
 (AV.asP (xs.getD 0 .u)).bind fun p0 =>
 gtI xs 1 fun n1 =>
 gtI xs 2 fun n2 =>
 gtU xs 3 fun n3 =>
 (k201 [(.p p0), (.i .i64 n1), (.i .i64 n2)] h).bind fun r4 =>
 (AV.asI .i64 r4.1).bind fun n5 =>
 (bif ((n5 : Int) != 0) then
 some ((.i .i64 n5), r4.2)
 else Option.bind p0 fun q6 =>
 ldP r4.2 q6.1 q6.2 fun p8 =>
 Option.bind p0 fun q9 =>
 ldI r4.2 q9.1 (q9.2 + 1) fun n11 =>
 (k202 [(.p p0), (.i .i64 n1), (.i .i64 n2)] r4.2).bind fun r12 =>
 (AV.asI .i64 r12.1).bind fun n13 =>
 (chkE (r12.2.ld q6.1 q6.2) (some (.p p8))).bind fun _ =>
 (chkE (r12.2.ld q9.1 (q9.2 + 1)) (some (.i .i64 n11))).bind fun _ =>
 (k114 [(.p p8), (.i .i64 n11), (.i .i64 n13), (.i .u64 n3)] r12.2).bind fun r14 =>
 (AV.asI .i64 r14.1).bind fun n15 =>
 some ((.i .i64 n15), r14.2))
 else none
def pool_Pool__Set : Sm O := pool_Pool__Set_c pool_Pool__check pool_Pool__at mem_Mem__Write
theorem pool_Pool__Set_ent : Entered Tryz.prog 184 := Tryz.call184
theorem pool_Pool__Set_run (k201 k202 k114 : Sm O) : run (O := O) Tryz.prog [(201, k201), (202, k202), (114, k114)] Tryz.f184 (.n .z (.n (.n .z (.n .z (.n .z .z))) (.n (.d [] [0, 1, 2, 3, 4, 5, 6, 7, 8, 9, 10, 12, 11, 13, 14] [0, 1, 3, 7, 0, 16, 48, 112, 0, 0, 0, 1792, 0, 8191, 16383]) .z))) = pool_Pool__Set_c k201 k202 k114 := by kernel_rfl
theorem pool_Pool__Set_sound : FSound RO Tryz.prog 184 pool_Pool__Set := sdf (pool_Pool__Set_run _ _ _) (gcons pool_Pool__check_ent pool_Pool__check_sound <| gcons pool_Pool__at_ent pool_Pool__at_sound <| gcons mem_Mem__Write_ent mem_Mem__Write_sound <| gnil) Tryz.func184 (by kernel_rfl)
def pool_Pool__Table_c (k231 : Sm O) : Sm O := fun xs h =>
 bif Nat.beq xs.length 3 then
 (AV.asP (xs.getD 0 .u)).bind fun p0 =>
 gtI xs 1 fun n1 =>
 gtI xs 2 fun n2 =>
 let h3 := h.bump 1
 let h4 := h3.put h.next (.cells true 241 [(.p none), (.i .i64 0), (.i .i64 0), (.i .i64 0), (.i .i64 0)])
 Option.bind p0 fun q5 =>
 ldP h4 q5.1 q5.2 fun p7 =>
 Option.bind p0 fun q8 =>
 ldI h4 q8.1 (q8.2 + 1) fun n10 =>
 (k231 [(.p p0)] h4).bind fun r11 =>
 (AV.asI .i64 r11.1).bind fun n12 =>
 (chkE (r11.2.ld q5.1 q5.2) (some (.p p7))).bind fun _ =>
 (chkE (r11.2.ld q8.1 (q8.2 + 1)) (some (.i .i64 n10))).bind fun _ =>
 (r11.2.st (.n h.next) 0 [(.p p7), (.i .i64 n10), (.i .i64 n12), (.i .i64 (IntKind.i64.wrap (n1 + 1))), (.i .i64 (IntKind.i64.wrap (n2 + 1)))]).bind fun h13 =>
 ldP h13 (.n h.next) 0 fun p15 =>
 ldI h13 (.n h.next) 1 fun n17 =>
 ldI h13 (.n h.next) 2 fun n19 =>
 ldI h13 (.n h.next) 3 fun n21 =>
 ldI h13 (.n h.next) 4 fun n23 =>
 some ((.agg [(.p p15), (.i .i64 n17), (.i .i64 n19), (.i .i64 n21), (.i .i64 n23)]), h13)
 else none
def pool_Pool__Table : Sm O := pool_Pool__Table_c pool_Pool__width
theorem pool_Pool__Table_ent : Entered Tryz.prog 211 := Tryz.call211
theorem pool_Pool__Table_run (k231 : Sm O) : run (O := O) Tryz.prog [(231, k231)] Tryz.f211 (.n .z (.n (.d [] [0, 1, 2, 3, 4, 5, 6, 7, 8, 10, 11, 12, 13, 9, 14, 15] [0, 1, 3, 7, 0, 16, 48, 112, 0, 256, 0, 1024, 0, 4096, 16383, 32767]) .z)) = pool_Pool__Table_c k231 := by kernel_rfl
theorem pool_Pool__Table_sound : FSound RO Tryz.prog 211 pool_Pool__Table := sdf (pool_Pool__Table_run _) (gcons pool_Pool__width_ent pool_Pool__width_sound <| gnil) Tryz.func211 (by kernel_rfl)
def handles_Handles__table_c (k211 : Sm O) : Sm O := fun xs h =>
 bif Nat.beq xs.length 1 then
 (AV.asP (xs.getD 0 .u)).bind fun p0 =>
 let h1 := h.bump 1
 let h2 := h1.put h.next (.cells true 241 [(.p none), (.i .i64 0), (.i .i64 0), (.i .i64 0), (.i .i64 0)])
 Option.bind p0 fun q3 =>
 ldP h2 q3.1 q3.2 fun p5 =>
 (k211 [(.p p5), (.i .i64 1), (.i .i64 2)] h2).bind fun r6 =>
 (AV.asAgg 5 r6.1).bind fun c7 =>
 (AV.asP (c7.getD 0 .u)).bind fun p8 =>
 gtI c7 1 fun n9 =>
 gtI c7 2 fun n10 =>
 gtI c7 3 fun n11 =>
 gtI c7 4 fun n12 =>
 (r6.2.st (.n h.next) 0 [(.p p8), (.i .i64 n9), (.i .i64 n10), (.i .i64 n11), (.i .i64 n12)]).bind fun h13 =>
 ldP h13 (.n h.next) 0 fun p15 =>
 ldI h13 (.n h.next) 1 fun n17 =>
 ldI h13 (.n h.next) 2 fun n19 =>
 ldI h13 (.n h.next) 3 fun n21 =>
 ldI h13 (.n h.next) 4 fun n23 =>
 some ((.agg [(.p p15), (.i .i64 n17), (.i .i64 n19), (.i .i64 n21), (.i .i64 n23)]), h13)
 else none
def handles_Handles__table : Sm O := handles_Handles__table_c pool_Pool__Table
theorem handles_Handles__table_ent : Entered Tryz.prog 185 := Tryz.call185
theorem handles_Handles__table_run (k211 : Sm O) : run (O := O) Tryz.prog [(211, k211)] Tryz.f185 (.n .z .z) = handles_Handles__table_c k211 := by kernel_rfl
theorem handles_Handles__table_sound : FSound RO Tryz.prog 185 handles_Handles__table := sdf (handles_Handles__table_run _) (gcons pool_Pool__Table_ent pool_Pool__Table_sound <| gnil) Tryz.func185 (by kernel_rfl)
def chain_Table__Right_1_c : Sm O := fun xs h =>
 bif Nat.beq xs.length 2 then
 gtI xs 0 fun n0 =>
 ((bif ((decide (n0 >= 0)) == true) then
 (AV.asPS (xs.getD 1 .u)).bind fun q1 =>
 ldI h q1.1 (q1.2 + 2) fun n3 =>
 some ([(.b (decide (n0 < n3)))], h)
 else some ([(.b false)], h)) : Option (List AV × AH O)).bind fun r4 =>
 (AV.asB (r4.1.getD 0 .u)).bind fun b5 =>
 some ((.b b5), r4.2)
 else none
def chain_Table__Right_1 : Sm O := chain_Table__Right_1_c
theorem chain_Table__Right_1_ent : Entered Tryz.prog 235 := Tryz.call235
theorem chain_Table__Right_1_run : run (O := O) Tryz.prog [] Tryz.f235 (.n .z (.n (.g [(2, 4, [(11, .one .b)])]) .z)) = chain_Table__Right_1_c  := by kernel_rfl
theorem chain_Table__Right_1_sound : FSound RO Tryz.prog 235 chain_Table__Right_1 := sdf chain_Table__Right_1_run (gnil) Tryz.func235 (by kernel_rfl)
def chain_Table__Right_c (k235 : Sm O) : Sm O := fun xs h =>
 bif Nat.beq xs.length 1 then
 (AV.asAgg 5 (xs.getD 0 .u)).bind fun c0 =>
 (AV.asP (c0.getD 0 .u)).bind fun p1 =>
 gtI c0 1 fun n2 =>
 gtI c0 2 fun n3 =>
 gtI c0 3 fun n4 =>
 gtI c0 4 fun n5 =>
 let h6 := h.bump 1
 let h7 := h6.put h.next (.cells true 241 [(.p p1), (.i .i64 n2), (.i .i64 n3), (.i .i64 n4), (.i .i64 n5)])
 ldP h7 (.n h.next) 0 fun p9 =>
 ((bif ((!(Option.isNone p9)) == true) then
 ldI h7 (.n h.next) 2 fun n11 =>
 some ([(.b (decide (n11 >= 2)))], h7)
 else some ([(.b false)], h7)) : Option (List AV × AH O)).bind fun r12 =>
 (AV.asB (r12.1.getD 0 .u)).bind fun b13 =>
 ((bif (b13 == true) then
 ldI r12.2 (.n h.next) 2 fun n15 =>
 some ([(.b (decide (n15 <= 64)))], r12.2)
 else some ([(.b false)], r12.2)) : Option (List AV × AH O)).bind fun r16 =>
 (AV.asB (r16.1.getD 0 .u)).bind fun b17 =>
 ((bif (b17 == true) then
 ldI r16.2 (.n h.next) 3 fun n19 =>
 (k235 [(.i .i64 n19), (.p (some ((.n h.next), 0)))] r16.2).bind fun r20 =>
 (AV.asB r20.1).bind fun b21 =>
 some ([(.b b21)], r20.2)
 else some ([(.b false)], r16.2)) : Option (List AV × AH O)).bind fun r22 =>
 (AV.asB (r22.1.getD 0 .u)).bind fun b23 =>
 ((bif (b23 == true) then
 ldI r22.2 (.n h.next) 4 fun n25 =>
 (k235 [(.i .i64 n25), (.p (some ((.n h.next), 0)))] r22.2).bind fun r26 =>
 (AV.asB r26.1).bind fun b27 =>
 some ([(.b b27)], r26.2)
 else some ([(.b false)], r22.2)) : Option (List AV × AH O)).bind fun r28 =>
 (AV.asB (r28.1.getD 0 .u)).bind fun b29 =>
 ((bif (b29 == true) then
 ldI r28.2 (.n h.next) 3 fun n31 =>
 ldI r28.2 (.n h.next) 4 fun n33 =>
 some ([(.b ((n31 : Int) != n33))], r28.2)
 else some ([(.b false)], r28.2)) : Option (List AV × AH O)).bind fun r34 =>
 (AV.asB (r34.1.getD 0 .u)).bind fun b35 =>
 some ((.b b35), r34.2)
 else none
def chain_Table__Right : Sm O := chain_Table__Right_c chain_Table__Right_1
theorem chain_Table__Right_ent : Entered Tryz.prog 212 := Tryz.call212
theorem chain_Table__Right_run (k235 : Sm O) : run (O := O) Tryz.prog [(235, k235)] Tryz.f212 (.n .z (.n .z (.n (.g [(3, 3, [(12, .one .b)]), (8, 3, [(17, .one .b)]), (13, 4, [(23, .one .b)]), (19, 4, [(29, .one .b)]), (25, 5, [(36, .one .b)])]) .z))) = chain_Table__Right_c k235 := by kernel_rfl
theorem chain_Table__Right_sound : FSound RO Tryz.prog 212 chain_Table__Right := sdf (chain_Table__Right_run _) (gcons chain_Table__Right_1_ent chain_Table__Right_1_sound <| gnil) Tryz.func212 (by kernel_rfl)
def mem_Mem__Size_c (k178 : Sm O) : Sm O := fun xs h =>
 bif Nat.beq xs.length 2 then
 (AV.asP (xs.getD 0 .u)).bind fun p0 =>
 gtI xs 1 fun n1 =>
 (k178 [(.p p0), (.i .i64 n1)] h).bind fun r2 =>
 (AV.asP r2.1).bind fun p3 =>
 (bif (Option.isNone p3) then
 some ((.tup [(.i .i64 0), (.i .i64 10)]), r2.2)
 else Option.bind p3 fun q4 =>
 ldS r2.2 q4.1 q4.2 fun l6 =>
 some ((.tup [(.i .i64 (l6.2 : Int)), (.i .i64 0)]), r2.2))
 else none
def mem_Mem__Size : Sm O := mem_Mem__Size_c mem_Mem__at
theorem mem_Mem__Size_ent : Entered Tryz.prog 104 := Tryz.call104
theorem mem_Mem__Size_run (k178 : Sm O) : run (O := O) Tryz.prog [(178, k178)] Tryz.f104 (.n .z (.n .z (.n (.n .z (.n .z .z)) .z))) = mem_Mem__Size_c k178 := by kernel_rfl
theorem mem_Mem__Size_sound : FSound RO Tryz.prog 104 mem_Mem__Size := sdf (mem_Mem__Size_run _) (gcons mem_Mem__at_ent mem_Mem__at_sound <| gnil) Tryz.func104 (by kernel_rfl)
def chain_Table__Entries_c (k212 k104 : Sm O) : Sm O := fun xs h =>
 bif Nat.beq xs.length 1 then
 (AV.asAgg 5 (xs.getD 0 .u)).bind fun c0 =>
 (AV.asP (c0.getD 0 .u)).bind fun p1 =>
 gtI c0 1 fun n2 =>
 gtI c0 2 fun n3 =>
 gtI c0 3 fun n4 =>
 gtI c0 4 fun n5 =>
 let h6 := h.bump 1
 let h7 := h6.put h.next (.cells true 241 [(.p p1), (.i .i64 n2), (.i .i64 n3), (.i .i64 n4), (.i .i64 n5)])
 ldP h7 (.n h.next) 0 fun p9 =>
 ldI h7 (.n h.next) 1 fun n11 =>
 ldI h7 (.n h.next) 2 fun n13 =>
 ldI h7 (.n h.next) 3 fun n15 =>
 ldI h7 (.n h.next) 4 fun n17 =>
 (k212 [(.agg [(.p p9), (.i .i64 n11), (.i .i64 n13), (.i .i64 n15), (.i .i64 n17)])] h7).bind fun r18 =>
 (AV.asB r18.1).bind fun b19 =>
 (bif (!b19) then
 some ((.i .i64 0), r18.2)
 else ldP r18.2 (.n h.next) 0 fun p21 =>
 ldI r18.2 (.n h.next) 1 fun n23 =>
 (k104 [(.p p21), (.i .i64 n23)] r18.2).bind fun r24 =>
 (AV.asTup 2 r24.1).bind fun c25 =>
 gtI c25 0 fun n26 =>
 gtI c25 1 fun n27 =>
 ldI r24.2 (.n h.next) 2 fun n29 =>
 (bif (n29 == 0) then
 none
 else some ((.i .i64 (IntKind.i64.wrap (Int.tdiv n26 n29))), r24.2)))
 else none
def chain_Table__Entries : Sm O := chain_Table__Entries_c chain_Table__Right mem_Mem__Size
theorem chain_Table__Entries_ent : Entered Tryz.prog 239 := Tryz.call239
theorem chain_Table__Entries_run (k212 k104 : Sm O) : run (O := O) Tryz.prog [(212, k212), (104, k104)] Tryz.f239 (.n .z (.n (.n .z (.n .z .z)) (.n .z .z))) = chain_Table__Entries_c k212 k104 := by kernel_rfl
theorem chain_Table__Entries_sound : FSound RO Tryz.prog 239 chain_Table__Entries := sdf (chain_Table__Entries_run _ _) (gcons chain_Table__Right_ent chain_Table__Right_sound <| gcons mem_Mem__Size_ent mem_Mem__Size_sound <| gnil) Tryz.func239 (by kernel_rfl)
def chain_Table__check_c (k212 k239 : Sm O) : Sm O := fun xs h =>
 bif Nat.beq xs.length 2 then
 (AV.asAgg 5 (xs.getD 0 .u)).bind fun c0 =>
 (AV.asP (c0.getD 0 .u)).bind fun p1 =>
 gtI c0 1 fun n2 =>
 gtI c0 2 fun n3 =>
 gtI c0 3 fun n4 =>
 gtI c0 4 fun n5 =>
 gtI xs 1 fun n6 =>
 let h7 := h.bump 1
 let h8 := h7.put h.next (.cells true 241 [(.p p1), (.i .i64 n2), (.i .i64 n3), (.i .i64 n4), (.i .i64 n5)])
 ldP h8 (.n h.next) 0 fun p10 =>
 ldI h8 (.n h.next) 1 fun n12 =>
 ldI h8 (.n h.next) 2 fun n14 =>
 ldI h8 (.n h.next) 3 fun n16 =>
 ldI h8 (.n h.next) 4 fun n18 =>
 (k212 [(.agg [(.p p10), (.i .i64 n12), (.i .i64 n14), (.i .i64 n16), (.i .i64 n18)])] h8).bind fun r19 =>
 (AV.asB r19.1).bind fun b20 =>
 (bif (!b20) then
 some ((.i .i64 1), r19.2)
 else ((bif ((decide (n6 < 1)) == false) then
 ldP r19.2 (.n h.next) 0 fun p22 =>
 ldI r19.2 (.n h.next) 1 fun n24 =>
 ldI r19.2 (.n h.next) 2 fun n26 =>
 ldI r19.2 (.n h.next) 3 fun n28 =>
 ldI r19.2 (.n h.next) 4 fun n30 =>
 (k239 [(.agg [(.p p22), (.i .i64 n24), (.i .i64 n26), (.i .i64 n28), (.i .i64 n30)])] r19.2).bind fun r31 =>
 (AV.asI .i64 r31.1).bind fun n32 =>
 some ([(.b (decide (n6 > n32)))], r31.2)
 else some ([(.b true)], r19.2)) : Option (List AV × AH O)).bind fun r33 =>
 (AV.asB (r33.1.getD 0 .u)).bind fun b34 =>
 (bif b34 then
 some ((.i .i64 2), r33.2)
 else some ((.i .i64 0), r33.2)))
 else none
def chain_Table__check : Sm O := chain_Table__check_c chain_Table__Right chain_Table__Entries
theorem chain_Table__check_ent : Entered Tryz.prog 224 := Tryz.call224
theorem chain_Table__check_run (k212 k239 : Sm O) : run (O := O) Tryz.prog [(212, k212), (239, k239)] Tryz.f224 (.n .z (.n (.n (.n .z (.n .z (.n (.g [(2, 4, [(17, .one .b)])]) (.n .z .z)))) .z) .z)) = chain_Table__check_c k212 k239 := by kernel_rfl
theorem chain_Table__check_sound : FSound RO Tryz.prog 224 chain_Table__check := sdf (chain_Table__check_run _ _) (gcons chain_Table__Right_ent chain_Table__Right_sound <| gcons chain_Table__Entries_ent chain_Table__Entries_sound <| gnil) Tryz.func224 (by kernel_rfl)
def chain_Table__at_c : Sm O := fun xs h =>
 bif Nat.beq xs.length 3 then
 (AV.asAgg 5 (xs.getD 0 .u)).bind fun c0 =>
 (AV.asP (c0.getD 0 .u)).bind fun p1 =>
 gtI c0 1 fun n2 =>
 gtI c0 2 fun n3 =>
 gtI c0 3 fun n4 =>
 gtI c0 4 fun n5 =>
 gtI xs 1 fun n6 =>
 gtI xs 2 fun n7 =>
 let h8 := h.bump 1
 let h9 := h8.put h.next (.cells true 241 [(.p p1), (.i .i64 n2), (.i .i64 n3), (.i .i64 n4), (.i .i64 n5)])
 ldI h9 (.n h.next) 2 fun n11 =>
 let v12 : Int := (IntKind.i64.wrap ((IntKind.i64.wrap (n6 - 1)) * n11))
 some ((.i .i64 (IntKind.i64.wrap (v12 + n7))), h9)
 else none
def chain_Table__at : Sm O := chain_Table__at_c
theorem chain_Table__at_ent : Entered Tryz.prog 236 := Tryz.call236
theorem chain_Table__at_run : run (O := O) Tryz.prog [] Tryz.f236 (.n .z .z) = chain_Table__at_c  := by kernel_rfl
theorem chain_Table__at_sound : FSound RO Tryz.prog 236 chain_Table__at := sdf chain_Table__at_run (gnil) Tryz.func236 (by kernel_rfl)
def chain_Table__set_c (k236 k114 : Sm O) : Sm O := fun xs h =>
 bif Nat.beq xs.length 4 then
 (AV.asAgg 5 (xs.getD 0 .u)).bind fun c0 =>
 (AV.asP (c0.getD 0 .u)).bind fun p1 =>
 gtI c0 1 fun n2 =>
 gtI c0 2 fun n3 =>
 gtI c0 3 fun n4 =>
 gtI c0 4 fun n5 =>
 gtI xs 1 fun n6 =>
 gtI xs 2 fun n7 =>
 gtI xs 3 fun n8 =>
 let h9 := h.bump 1
 let h10 := h9.put h.next (.cells true 241 [(.p p1), (.i .i64 n2), (.i .i64 n3), (.i .i64 n4), (.i .i64 n5)])
 ldP h10 (.n h.next) 0 fun p12 =>
 ldI h10 (.n h.next) 1 fun n14 =>
 ldP h10 (.n h.next) 0 fun p16 =>
 ldI h10 (.n h.next) 1 fun n18 =>
 ldI h10 (.n h.next) 2 fun n20 =>
 ldI h10 (.n h.next) 3 fun n22 =>
 ldI h10 (.n h.next) 4 fun n24 =>
 (k236 [(.agg [(.p p16), (.i .i64 n18), (.i .i64 n20), (.i .i64 n22), (.i .i64 n24)]), (.i .i64 n6), (.i .i64 n7)] h10).bind fun r25 =>
 (AV.asI .i64 r25.1).bind fun n26 =>
 (chkE (r25.2.ld (.n h.next) 0) (some (.p p12))).bind fun _ =>
 (chkE (r25.2.ld (.n h.next) 1) (some (.i .i64 n14))).bind fun _ =>
 (k114 [(.p p12), (.i .i64 n14), (.i .i64 n26), (.i .u64 (IntKind.u64.wrap n8))] r25.2).bind fun r27 =>
 (AV.asI .i64 r27.1).bind fun n28 =>
 some ((.tup []), r27.2)
 else none
def chain_Table__set : Sm O := chain_Table__set_c chain_Table__at mem_Mem__Write
theorem chain_Table__set_ent : Entered Tryz.prog 213 := Tryz.call213
theorem chain_Table__set_run (k236 k114 : Sm O) : run (O := O) Tryz.prog [(236, k236), (114, k114)] Tryz.f213 (.n .z (.d [] [0, 1, 2, 3, 4, 5, 6, 8, 9, 7, 10] [0, 1, 0, 4, 0, 0, 0, 112, 0, 256, 1023])) = chain_Table__set_c k236 k114 := by kernel_rfl
theorem chain_Table__set_sound : FSound RO Tryz.prog 213 chain_Table__set := sdf (chain_Table__set_run _ _) (gcons chain_Table__at_ent chain_Table__at_sound <| gcons mem_Mem__Write_ent mem_Mem__Write_sound <| gnil) Tryz.func213 (by kernel_rfl)
def chain_Table__Push_c (k224 k213 : Sm O) : Sm O := fun xs h =>
 bif Nat.beq xs.length 3 then
 (AV.asAgg 5 (xs.getD 0 .u)).bind fun c0 =>
 (AV.asP (c0.getD 0 .u)).bind fun p1 =>
 gtI c0 1 fun n2 =>
 gtI c0 2 fun n3 =>
 gtI c0 3 fun n4 =>
 gtI c0 4 fun n5 =>
 (AV.asAgg 3 (xs.getD 1 .u)).bind fun c6 =>
 gtI c6 0 fun n7 =>
 gtI c6 1 fun n8 =>
 gtI c6 2 fun n9 =>
 gtI xs 2 fun n10 =>
 let h11 := h.bump 3
 let h12 := h11.put h.next (.cells true 241 [(.p p1), (.i .i64 n2), (.i .i64 n3), (.i .i64 n4), (.i .i64 n5)])
 let h13 := h12.put (h.next + 1) (.cells true 196 [(.i .i64 n7), (.i .i64 n8), (.i .i64 n9)])
 let h14 := h13.put ((h.next + 1) + 1) (.cells true 196 [(.i .i64 0), (.i .i64 0), (.i .i64 0)])
 ldP h14 (.n h.next) 0 fun p16 =>
 ldI h14 (.n h.next) 1 fun n18 =>
 ldI h14 (.n h.next) 2 fun n20 =>
 ldI h14 (.n h.next) 3 fun n22 =>
 ldI h14 (.n h.next) 4 fun n24 =>
 (k224 [(.agg [(.p p16), (.i .i64 n18), (.i .i64 n20), (.i .i64 n22), (.i .i64 n24)]), (.i .i64 n10)] h14).bind fun r25 =>
 (AV.asI .i64 r25.1).bind fun n26 =>
 (bif ((n26 : Int) != 0) then
 ldI r25.2 (.n (h.next + 1)) 0 fun n28 =>
 ldI r25.2 (.n (h.next + 1)) 1 fun n30 =>
 ldI r25.2 (.n (h.next + 1)) 2 fun n32 =>
 (r25.2.st (.n ((h.next + 1) + 1)) 0 [(.i .i64 n28), (.i .i64 n30), (.i .i64 n32)]).bind fun h33 =>
 ldI h33 (.n ((h.next + 1) + 1)) 0 fun n35 =>
 ldI h33 (.n ((h.next + 1) + 1)) 1 fun n37 =>
 ldI h33 (.n ((h.next + 1) + 1)) 2 fun n39 =>
 some ((.tup [(.agg [(.i .i64 n35), (.i .i64 n37), (.i .i64 n39)]), (.i .i64 n26)]), h33)
 else ldP r25.2 (.n h.next) 0 fun p41 =>
 ldI r25.2 (.n h.next) 1 fun n43 =>
 ldI r25.2 (.n h.next) 2 fun n45 =>
 ldI r25.2 (.n h.next) 3 fun n47 =>
 ldI r25.2 (.n h.next) 4 fun n49 =>
 ldI r25.2 (.n h.next) 4 fun n51 =>
 ldI r25.2 (.n (h.next + 1)) 1 fun n53 =>
 (k213 [(.agg [(.p p41), (.i .i64 n43), (.i .i64 n45), (.i .i64 n47), (.i .i64 n49)]), (.i .i64 n10), (.i .i64 n51), (.i .i64 n53)] r25.2).bind fun r54 =>
 (AV.asTup 0 r54.1).bind fun c55 =>
 ldP r54.2 (.n h.next) 0 fun p57 =>
 ldI r54.2 (.n h.next) 1 fun n59 =>
 ldI r54.2 (.n h.next) 2 fun n61 =>
 ldI r54.2 (.n h.next) 3 fun n63 =>
 ldI r54.2 (.n h.next) 4 fun n65 =>
 ldI r54.2 (.n h.next) 3 fun n67 =>
 (k213 [(.agg [(.p p57), (.i .i64 n59), (.i .i64 n61), (.i .i64 n63), (.i .i64 n65)]), (.i .i64 n10), (.i .i64 n67), (.i .i64 0)] r54.2).bind fun r68 =>
 (AV.asTup 0 r68.1).bind fun c69 =>
 ldI r68.2 (.n (h.next + 1)) 2 fun n71 =>
 (bif ((n71 : Int) == 0) then
 (r68.2.st (.n ((h.next + 1) + 1)) 0 [(.i .i64 n10), (.i .i64 n10), (.i .i64 1)]).bind fun h72 =>
 ldI h72 (.n ((h.next + 1) + 1)) 0 fun n74 =>
 ldI h72 (.n ((h.next + 1) + 1)) 1 fun n76 =>
 ldI h72 (.n ((h.next + 1) + 1)) 2 fun n78 =>
 some ((.tup [(.agg [(.i .i64 n74), (.i .i64 n76), (.i .i64 n78)]), (.i .i64 0)]), h72)
 else ldP r68.2 (.n h.next) 0 fun p80 =>
 ldI r68.2 (.n h.next) 1 fun n82 =>
 ldI r68.2 (.n h.next) 2 fun n84 =>
 ldI r68.2 (.n h.next) 3 fun n86 =>
 ldI r68.2 (.n h.next) 4 fun n88 =>
 ldI r68.2 (.n (h.next + 1)) 1 fun n90 =>
 ldI r68.2 (.n h.next) 3 fun n92 =>
 (k213 [(.agg [(.p p80), (.i .i64 n82), (.i .i64 n84), (.i .i64 n86), (.i .i64 n88)]), (.i .i64 n90), (.i .i64 n92), (.i .i64 n10)] r68.2).bind fun r93 =>
 (AV.asTup 0 r93.1).bind fun c94 =>
 ldI r93.2 (.n (h.next + 1)) 0 fun n96 =>
 ldI r93.2 (.n (h.next + 1)) 2 fun n98 =>
 (r93.2.st (.n ((h.next + 1) + 1)) 0 [(.i .i64 n96), (.i .i64 n10), (.i .i64 (IntKind.i64.wrap (n98 + 1)))]).bind fun h99 =>
 ldI h99 (.n ((h.next + 1) + 1)) 0 fun n101 =>
 ldI h99 (.n ((h.next + 1) + 1)) 1 fun n103 =>
 ldI h99 (.n ((h.next + 1) + 1)) 2 fun n105 =>
 some ((.tup [(.agg [(.i .i64 n101), (.i .i64 n103), (.i .i64 n105)]), (.i .i64 0)]), h99)))
 else none
def chain_Table__Push : Sm O := chain_Table__Push_c chain_Table__check chain_Table__set
theorem chain_Table__Push_ent : Entered Tryz.prog 186 := Tryz.call186
theorem chain_Table__Push_run (k224 k213 : Sm O) : run (O := O) Tryz.prog [(224, k224), (213, k213)] Tryz.f186 (.n .z (.n (.n .z (.n .z (.n .z .z))) (.n .z (.n .z (.n (.n .z (.n .z .z)) (.n .z .z)))))) = chain_Table__Push_c k224 k213 := by kernel_rfl
theorem chain_Table__Push_sound : FSound RO Tryz.prog 186 chain_Table__Push := sdf (chain_Table__Push_run _ _) (gcons chain_Table__check_ent chain_Table__check_sound <| gcons chain_Table__set_ent chain_Table__set_sound <| gnil) Tryz.func186 (by kernel_rfl)
def pool_Pool__Gen_c (k227 : Sm O) : Sm O := fun xs h =>
 bif Nat.beq xs.length 2 then
 (AV.asP (xs.getD 0 .u)).bind fun p0 =>
 gtI xs 1 fun n1 =>
 (k227 [(.p p0), (.i .i64 n1)] h).bind fun r2 =>
 (AV.asTup 2 r2.1).bind fun c3 =>
 gtU c3 0 fun n4 =>
 (AV.asB (c3.getD 1 .u)).bind fun b5 =>
 some ((.i .i64 (IntKind.i64.wrap (Int.fdiv n4 (2 ^ 1)))), r2.2)
 else none
def pool_Pool__Gen : Sm O := pool_Pool__Gen_c pool_Pool__look
theorem pool_Pool__Gen_ent : Entered Tryz.prog 188 := Tryz.call188
theorem pool_Pool__Gen_run (k227 : Sm O) : run (O := O) Tryz.prog [(227, k227)] Tryz.f188 (.n .z (.n .z .z)) = pool_Pool__Gen_c k227 := by kernel_rfl
theorem pool_Pool__Gen_sound : FSound RO Tryz.prog 188 pool_Pool__Gen := sdf (pool_Pool__Gen_run _) (gcons pool_Pool__look_ent pool_Pool__look_sound <| gnil) Tryz.func188 (by kernel_rfl)
def handles_token_c : Sm O := fun xs h =>
 bif Nat.beq xs.length 2 then
 gtI xs 0 fun n0 =>
 gtI xs 1 fun n1 =>
 let v2 : Int := (ibits .or .i64 (IntKind.i64.wrap (n1 * 2 ^ 20)) (IntKind.i64.wrap (n0 - 1)))
 some ((.i .i64 v2), h)
 else none
def handles_token : Sm O := handles_token_c
theorem handles_token_ent : Entered Tryz.prog 187 := Tryz.call187
theorem handles_token_run : run (O := O) Tryz.prog [] Tryz.f187 (.n .z .z) = handles_token_c  := by kernel_rfl
theorem handles_token_sound : FSound RO Tryz.prog 187 handles_token := sdf handles_token_run (gnil) Tryz.func187 (by kernel_rfl)
def handles_Handles__Add_c (k183 k184 k185 k186 k188 k187 : Sm O) : Sm O := fun xs h =>
 bif Nat.beq xs.length 2 then
 (AV.asP (xs.getD 0 .u)).bind fun p0 =>
 gtU xs 1 fun n1 =>
 Option.bind p0 fun q2 =>
 ldP h q2.1 q2.2 fun p4 =>
 (k183 [(.p p4)] h).bind fun r5 =>
 (AV.asTup 2 r5.1).bind fun c6 =>
 gtI c6 0 fun n7 =>
 gtI c6 1 fun n8 =>
 (bif ((n8 : Int) != 0) then
 some ((.tup [(.i .i64 0), (.i .i64 n8)]), r5.2)
 else Option.bind p0 fun q9 =>
 ldP r5.2 q9.1 q9.2 fun p11 =>
 (k184 [(.p p11), (.i .i64 n7), (.i .i64 0), (.i .u64 n1)] r5.2).bind fun r12 =>
 (AV.asI .i64 r12.1).bind fun n13 =>
 Option.bind p0 fun q14 =>
 ldI r12.2 q14.1 (q14.2 + 1) fun n16 =>
 ldI r12.2 q14.1 ((q14.2 + 1) + 1) fun n18 =>
 ldI r12.2 q14.1 (((q14.2 + 1) + 1) + 1) fun n20 =>
 (k185 [(.p p0)] r12.2).bind fun r21 =>
 (AV.asAgg 5 r21.1).bind fun c22 =>
 (AV.asP (c22.getD 0 .u)).bind fun p23 =>
 gtI c22 1 fun n24 =>
 gtI c22 2 fun n25 =>
 gtI c22 3 fun n26 =>
 gtI c22 4 fun n27 =>
 (chkE (r21.2.ld q14.1 (q14.2 + 1)) (some (.i .i64 n16))).bind fun _ =>
 (chkE (r21.2.ld q14.1 ((q14.2 + 1) + 1)) (some (.i .i64 n18))).bind fun _ =>
 (chkE (r21.2.ld q14.1 (((q14.2 + 1) + 1) + 1)) (some (.i .i64 n20))).bind fun _ =>
 (k186 [(.agg [(.p p23), (.i .i64 n24), (.i .i64 n25), (.i .i64 n26), (.i .i64 n27)]), (.agg [(.i .i64 n16), (.i .i64 n18), (.i .i64 n20)]), (.i .i64 n7)] r21.2).bind fun r28 =>
 (AV.asTup 2 r28.1).bind fun c29 =>
 (AV.asAgg 3 (c29.getD 0 .u)).bind fun c30 =>
 gtI c30 0 fun n31 =>
 gtI c30 1 fun n32 =>
 gtI c30 2 fun n33 =>
 gtI c29 1 fun n34 =>
 Option.bind p0 fun q35 =>
 (r28.2.st q35.1 (q35.2 + 1) [(.i .i64 n31), (.i .i64 n32), (.i .i64 n33)]).bind fun h36 =>
 Option.bind p0 fun q37 =>
 ldP h36 q37.1 q37.2 fun p39 =>
 (k188 [(.p p39), (.i .i64 n7)] h36).bind fun r40 =>
 (AV.asI .i64 r40.1).bind fun n41 =>
 (k187 [(.i .i64 n7), (.i .i64 n41)] r40.2).bind fun r42 =>
 (AV.asI .i64 r42.1).bind fun n43 =>
 some ((.tup [(.i .i64 n43), (.i .i64 0)]), r42.2))
 else none
def handles_Handles__Add : Sm O := handles_Handles__Add_c pool_Pool__Take pool_Pool__Set handles_Handles__table chain_Table__Push pool_Pool__Gen handles_token
theorem handles_Handles__Add_ent : Entered Tryz.prog 109 := Tryz.call109
theorem handles_Handles__Add_run (k183 k184 k185 k186 k188 k187 : Sm O) : run (O := O) Tryz.prog [(183, k183), (184, k184), (185, k185), (186, k186), (188, k188), (187, k187)] Tryz.f109 (.n .z (.n .z (.n (.n .z (.n .z .z)) (.n .z (.n (.d [] [0, 1, 3, 4, 5, 6, 7, 2, 8, 9, 10, 11, 12, 13, 14] [0, 0, 2, 0, 8, 24, 56, 0, 254, 510, 1022, 1022, 2047, 6143, 14335]) .z))))) = handles_Handles__Add_c k183 k184 k185 k186 k188 k187 := by kernel_rfl
theorem handles_Handles__Add_sound : FSound RO Tryz.prog 109 handles_Handles__Add := sdf (handles_Handles__Add_run _ _ _ _ _ _) (gcons pool_Pool__Take_ent pool_Pool__Take_sound <| gcons pool_Pool__Set_ent pool_Pool__Set_sound <| gcons handles_Handles__table_ent handles_Handles__table_sound <| gcons chain_Table__Push_ent chain_Table__Push_sound <| gcons pool_Pool__Gen_ent pool_Pool__Gen_sound <| gcons handles_token_ent handles_token_sound <| gnil) Tryz.func109 (by kernel_rfl)
def roots_Roots__Add_c (k109 : Sm O) : Sm O := fun xs h =>
 bif Nat.beq xs.length 1 then
 (AV.asP (xs.getD 0 .u)).bind fun p0 =>
 Option.bind p0 fun q1 =>
 ldP h q1.1 (q1.2 + 1) fun p3 =>
 (k109 [(.p p3), (.i .u64 0)] h).bind fun r4 =>
 (AV.asTup 2 r4.1).bind fun c5 =>
 gtI c5 0 fun n6 =>
 gtI c5 1 fun n7 =>
 some ((.tup [(.i .i64 n6), (.i .i64 n7)]), r4.2)
 else none
def roots_Roots__Add : Sm O := roots_Roots__Add_c handles_Handles__Add
theorem roots_Roots__Add_ent : Entered Tryz.prog 56 := Tryz.call56
theorem roots_Roots__Add_run (k109 : Sm O) : run (O := O) Tryz.prog [(109, k109)] Tryz.f56 (.n .z .z) = roots_Roots__Add_c k109 := by kernel_rfl
theorem roots_Roots__Add_sound : FSound RO Tryz.prog 56 roots_Roots__Add := sdf (roots_Roots__Add_run _) (gcons handles_Handles__Add_ent handles_Handles__Add_sound <| gnil) Tryz.func56 (by kernel_rfl)
def handles_Handles__id_c (k200 k188 : Sm O) : Sm O := fun xs h =>
 bif Nat.beq xs.length 2 then
 (AV.asP (xs.getD 0 .u)).bind fun p0 =>
 gtI xs 1 fun n1 =>
 let v2 : Int := (IntKind.i64.wrap ((ibits .and .i64 n1 1048575) + 1))
 ((bif ((decide (n1 < 0)) == false) then
 Option.bind p0 fun q3 =>
 ldP h q3.1 q3.2 fun p5 =>
 (k200 [(.p p5), (.i .i64 v2)] h).bind fun r6 =>
 (AV.asB r6.1).bind fun b7 =>
 some ([(.b (!b7))], r6.2)
 else some ([(.b true)], h)) : Option (List AV × AH O)).bind fun r8 =>
 (AV.asB (r8.1.getD 0 .u)).bind fun b9 =>
 ((bif (b9 == false) then
 Option.bind p0 fun q10 =>
 ldP r8.2 q10.1 q10.2 fun p12 =>
 (k188 [(.p p12), (.i .i64 v2)] r8.2).bind fun r13 =>
 (AV.asI .i64 r13.1).bind fun n14 =>
 some ([(.b ((n14 : Int) != (Int.fdiv n1 (2 ^ 20))))], r13.2)
 else some ([(.b true)], r8.2)) : Option (List AV × AH O)).bind fun r15 =>
 (AV.asB (r15.1.getD 0 .u)).bind fun b16 =>
 (bif b16 then
 some ((.tup [(.i .i64 0), (.i .i64 30)]), r15.2)
 else some ((.tup [(.i .i64 v2), (.i .i64 0)]), r15.2))
 else none
def handles_Handles__id : Sm O := handles_Handles__id_c pool_Pool__Taken pool_Pool__Gen
theorem handles_Handles__id_ent : Entered Tryz.prog 136 := Tryz.call136
theorem handles_Handles__id_run (k200 k188 : Sm O) : run (O := O) Tryz.prog [(200, k200), (188, k188)] Tryz.f136 (.n .z (.n .z (.n (.n (.g [(2, 7, [(20, .one .b)]), (11, 9, [(31, .one .b)])]) (.n .z .z)) .z))) = handles_Handles__id_c k200 k188 := by kernel_rfl
theorem handles_Handles__id_sound : FSound RO Tryz.prog 136 handles_Handles__id := sdf (handles_Handles__id_run _ _) (gcons pool_Pool__Taken_ent pool_Pool__Taken_sound <| gcons pool_Pool__Gen_ent pool_Pool__Gen_sound <| gnil) Tryz.func136 (by kernel_rfl)
def handles_Handles__Set_c (k136 k184 : Sm O) : Sm O := fun xs h =>
 bif Nat.beq xs.length 3 then
 (AV.asP (xs.getD 0 .u)).bind fun p0 =>
 gtI xs 1 fun n1 =>
 gtU xs 2 fun n2 =>
 (k136 [(.p p0), (.i .i64 n1)] h).bind fun r3 =>
 (AV.asTup 2 r3.1).bind fun c4 =>
 gtI c4 0 fun n5 =>
 gtI c4 1 fun n6 =>
 (bif ((n6 : Int) != 0) then
 some ((.i .i64 n6), r3.2)
 else Option.bind p0 fun q7 =>
 ldP r3.2 q7.1 q7.2 fun p9 =>
 (k184 [(.p p9), (.i .i64 n5), (.i .i64 0), (.i .u64 n2)] r3.2).bind fun r10 =>
 (AV.asI .i64 r10.1).bind fun n11 =>
 some ((.i .i64 n11), r10.2))
 else none
def handles_Handles__Set : Sm O := handles_Handles__Set_c handles_Handles__id pool_Pool__Set
theorem handles_Handles__Set_ent : Entered Tryz.prog 116 := Tryz.call116
theorem handles_Handles__Set_run (k136 k184 : Sm O) : run (O := O) Tryz.prog [(136, k136), (184, k184)] Tryz.f116 (.n .z (.n .z (.n (.n .z (.n .z .z)) .z))) = handles_Handles__Set_c k136 k184 := by kernel_rfl
theorem handles_Handles__Set_sound : FSound RO Tryz.prog 116 handles_Handles__Set := sdf (handles_Handles__Set_run _ _) (gcons handles_Handles__id_ent handles_Handles__id_sound <| gcons pool_Pool__Set_ent pool_Pool__Set_sound <| gnil) Tryz.func116 (by kernel_rfl)
def roots_Slot_c : Sm O := fun xs h =>
 bif Nat.beq xs.length 1 then
 gtI xs 0 fun n0 =>
 some ((.i .i64 (IntKind.i64.wrap ((-1) - n0))), h)
 else none
def roots_Slot : Sm O := roots_Slot_c
theorem roots_Slot_ent : Entered Tryz.prog 58 := Tryz.call58
theorem roots_Slot_run : run (O := O) Tryz.prog [] Tryz.f58 (.n .z .z) = roots_Slot_c  := by kernel_rfl
theorem roots_Slot_sound : FSound RO Tryz.prog 58 roots_Slot := sdf roots_Slot_run (gnil) Tryz.func58 (by kernel_rfl)
def frames_Frames__check_c : Sm O := fun xs h =>
 bif Nat.beq xs.length 2 then
 (AV.asP (xs.getD 0 .u)).bind fun p0 =>
 gtI xs 1 fun n1 =>
 Option.bind p0 fun q2 =>
 ldI h q2.1 (q2.2 + 4) fun n4 =>
 (bif ((n4 : Int) == 0) then
 some ((.i .i64 33), h)
 else ((bif ((decide (n1 < 0)) == false) then
 Option.bind p0 fun q5 =>
 ldI h q5.1 ((q5.2 + 5) + 1) fun n7 =>
 some ([(.b (decide (n1 >= n7)))], h)
 else some ([(.b true)], h)) : Option (List AV × AH O)).bind fun r8 =>
 (AV.asB (r8.1.getD 0 .u)).bind fun b9 =>
 (bif b9 then
 some ((.i .i64 32), r8.2)
 else some ((.i .i64 0), r8.2)))
 else none
def frames_Frames__check : Sm O := frames_Frames__check_c
theorem frames_Frames__check_ent : Entered Tryz.prog 138 := Tryz.call138
theorem frames_Frames__check_run : run (O := O) Tryz.prog [] Tryz.f138 (.n .z (.n (.n (.n .z (.n .z (.n (.g [(2, 7, [(22, .one .b)])]) (.n .z .z)))) .z) .z)) = frames_Frames__check_c  := by kernel_rfl
theorem frames_Frames__check_sound : FSound RO Tryz.prog 138 frames_Frames__check := sdf frames_Frames__check_run (gnil) Tryz.func138 (by kernel_rfl)
def frames_Frames__Set_c (k138 k114 : Sm O) : Sm O := fun xs h =>
 bif Nat.beq xs.length 3 then
 (AV.asP (xs.getD 0 .u)).bind fun p0 =>
 gtI xs 1 fun n1 =>
 gtU xs 2 fun n2 =>
 (k138 [(.p p0), (.i .i64 n1)] h).bind fun r3 =>
 (AV.asI .i64 r3.1).bind fun n4 =>
 (bif ((n4 : Int) != 0) then
 some ((.i .i64 n4), r3.2)
 else Option.bind p0 fun q5 =>
 ldP r3.2 q5.1 q5.2 fun p7 =>
 Option.bind p0 fun q8 =>
 ldI r3.2 q8.1 (q8.2 + 1) fun n10 =>
 Option.bind p0 fun q11 =>
 ldI r3.2 q11.1 (q11.2 + 5) fun n13 =>
 let v14 : Int := (IntKind.i64.wrap ((IntKind.i64.wrap (n13 + 2)) + n1))
 (k114 [(.p p7), (.i .i64 n10), (.i .i64 v14), (.i .u64 n2)] r3.2).bind fun r15 =>
 (AV.asI .i64 r15.1).bind fun n16 =>
 some ((.i .i64 n16), r15.2))
 else none
def frames_Frames__Set : Sm O := frames_Frames__Set_c frames_Frames__check mem_Mem__Write
theorem frames_Frames__Set_ent : Entered Tryz.prog 117 := Tryz.call117
theorem frames_Frames__Set_run (k138 k114 : Sm O) : run (O := O) Tryz.prog [(138, k138), (114, k114)] Tryz.f117 (.n .z (.n (.n .z (.n .z (.n .z .z))) (.n (.d [] [0, 1, 2, 3, 4, 5, 6, 7, 8, 9, 10, 11, 12, 13, 14, 15, 16, 17, 18] [0, 1, 3, 7, 0, 16, 48, 112, 0, 256, 768, 1792, 3840, 7936, 0, 32512, 0, 131071, 262143]) .z))) = frames_Frames__Set_c k138 k114 := by kernel_rfl
theorem frames_Frames__Set_sound : FSound RO Tryz.prog 117 frames_Frames__Set := sdf (frames_Frames__Set_run _ _) (gcons frames_Frames__check_ent frames_Frames__check_sound <| gcons mem_Mem__Write_ent mem_Mem__Write_sound <| gnil) Tryz.func117 (by kernel_rfl)
def roots_Roots__Set_c (k116 k58 k117 : Sm O) : Sm O := fun xs h =>
 bif Nat.beq xs.length 3 then
 (AV.asP (xs.getD 0 .u)).bind fun p0 =>
 gtI xs 1 fun n1 =>
 gtU xs 2 fun n2 =>
 (bif (decide (n1 >= 0)) then
 Option.bind p0 fun q3 =>
 ldP h q3.1 (q3.2 + 1) fun p5 =>
 (k116 [(.p p5), (.i .i64 n1), (.i .u64 n2)] h).bind fun r6 =>
 (AV.asI .i64 r6.1).bind fun n7 =>
 some ((.i .i64 n7), r6.2)
 else Option.bind p0 fun q8 =>
 ldP h q8.1 q8.2 fun p10 =>
 (k58 [(.i .i64 n1)] h).bind fun r11 =>
 (AV.asI .i64 r11.1).bind fun n12 =>
 (chkE (r11.2.ld q8.1 q8.2) (some (.p p10))).bind fun _ =>
 (k117 [(.p p10), (.i .i64 n12), (.i .u64 n2)] r11.2).bind fun r13 =>
 (AV.asI .i64 r13.1).bind fun n14 =>
 some ((.i .i64 n14), r13.2))
 else none
def roots_Roots__Set : Sm O := roots_Roots__Set_c handles_Handles__Set roots_Slot frames_Frames__Set
theorem roots_Roots__Set_ent : Entered Tryz.prog 57 := Tryz.call57
theorem roots_Roots__Set_run (k116 k58 k117 : Sm O) : run (O := O) Tryz.prog [(116, k116), (58, k58), (117, k117)] Tryz.f57 (.n .z (.n (.n .z (.n .z .z)) (.n (.d [] [0, 1, 2, 3, 4, 6, 5, 7, 8] [0, 1, 3, 7, 0, 16, 0, 127, 255]) .z))) = roots_Roots__Set_c k116 k58 k117 := by kernel_rfl
theorem roots_Roots__Set_sound : FSound RO Tryz.prog 57 roots_Roots__Set := sdf (roots_Roots__Set_run _ _ _) (gcons handles_Handles__Set_ent handles_Handles__Set_sound <| gcons roots_Slot_ent roots_Slot_sound <| gcons frames_Frames__Set_ent frames_Frames__Set_sound <| gnil) Tryz.func57 (by kernel_rfl)
def pool_Pool__Get_c (k201 k202 k139 : Sm O) : Sm O := fun xs h =>
 bif Nat.beq xs.length 3 then
 (AV.asP (xs.getD 0 .u)).bind fun p0 =>
 gtI xs 1 fun n1 =>
 gtI xs 2 fun n2 =>
 (k201 [(.p p0), (.i .i64 n1), (.i .i64 n2)] h).bind fun r3 =>
 (AV.asI .i64 r3.1).bind fun n4 =>
 (bif ((n4 : Int) != 0) then
 some ((.tup [(.i .u64 0), (.i .i64 n4)]), r3.2)
 else Option.bind p0 fun q5 =>
 ldP r3.2 q5.1 q5.2 fun p7 =>
 Option.bind p0 fun q8 =>
 ldI r3.2 q8.1 (q8.2 + 1) fun n10 =>
 (k202 [(.p p0), (.i .i64 n1), (.i .i64 n2)] r3.2).bind fun r11 =>
 (AV.asI .i64 r11.1).bind fun n12 =>
 (chkE (r11.2.ld q5.1 q5.2) (some (.p p7))).bind fun _ =>
 (chkE (r11.2.ld q8.1 (q8.2 + 1)) (some (.i .i64 n10))).bind fun _ =>
 (k139 [(.p p7), (.i .i64 n10), (.i .i64 n12)] r11.2).bind fun r13 =>
 (AV.asTup 2 r13.1).bind fun c14 =>
 gtU c14 0 fun n15 =>
 gtI c14 1 fun n16 =>
 some ((.tup [(.i .u64 n15), (.i .i64 n16)]), r13.2))
 else none
def pool_Pool__Get : Sm O := pool_Pool__Get_c pool_Pool__check pool_Pool__at mem_Mem__Read
theorem pool_Pool__Get_ent : Entered Tryz.prog 137 := Tryz.call137
theorem pool_Pool__Get_run (k201 k202 k139 : Sm O) : run (O := O) Tryz.prog [(201, k201), (202, k202), (139, k139)] Tryz.f137 (.n .z (.n (.n .z (.n .z (.n .z .z))) (.n (.d [] [0, 1, 2, 3, 4, 5, 6, 7, 8, 9, 10, 11, 12, 13, 14, 15, 16] [0, 1, 3, 7, 0, 16, 48, 112, 0, 0, 0, 1792, 4095, 8191, 8191, 32767, 65535]) .z))) = pool_Pool__Get_c k201 k202 k139 := by kernel_rfl
theorem pool_Pool__Get_sound : FSound RO Tryz.prog 137 pool_Pool__Get := sdf (pool_Pool__Get_run _ _ _) (gcons pool_Pool__check_ent pool_Pool__check_sound <| gcons pool_Pool__at_ent pool_Pool__at_sound <| gcons mem_Mem__Read_ent mem_Mem__Read_sound <| gnil) Tryz.func137 (by kernel_rfl)
def handles_Handles__Get_c (k136 k137 : Sm O) : Sm O := fun xs h =>
 bif Nat.beq xs.length 2 then
 (AV.asP (xs.getD 0 .u)).bind fun p0 =>
 gtI xs 1 fun n1 =>
 (k136 [(.p p0), (.i .i64 n1)] h).bind fun r2 =>
 (AV.asTup 2 r2.1).bind fun c3 =>
 gtI c3 0 fun n4 =>
 gtI c3 1 fun n5 =>
 (bif ((n5 : Int) != 0) then
 some ((.tup [(.i .u64 0), (.i .i64 n5)]), r2.2)
 else Option.bind p0 fun q6 =>
 ldP r2.2 q6.1 q6.2 fun p8 =>
 (k137 [(.p p8), (.i .i64 n4), (.i .i64 0)] r2.2).bind fun r9 =>
 (AV.asTup 2 r9.1).bind fun c10 =>
 gtU c10 0 fun n11 =>
 gtI c10 1 fun n12 =>
 some ((.tup [(.i .u64 n11), (.i .i64 n12)]), r9.2))
 else none
def handles_Handles__Get : Sm O := handles_Handles__Get_c handles_Handles__id pool_Pool__Get
theorem handles_Handles__Get_ent : Entered Tryz.prog 72 := Tryz.call72
theorem handles_Handles__Get_run (k136 k137 : Sm O) : run (O := O) Tryz.prog [(136, k136), (137, k137)] Tryz.f72 (.n .z (.n .z (.n (.n .z (.n .z .z)) (.n .z .z)))) = handles_Handles__Get_c k136 k137 := by kernel_rfl
theorem handles_Handles__Get_sound : FSound RO Tryz.prog 72 handles_Handles__Get := sdf (handles_Handles__Get_run _ _) (gcons handles_Handles__id_ent handles_Handles__id_sound <| gcons pool_Pool__Get_ent pool_Pool__Get_sound <| gnil) Tryz.func72 (by kernel_rfl)
def frames_Frames__Get_c (k138 k139 : Sm O) : Sm O := fun xs h =>
 bif Nat.beq xs.length 2 then
 (AV.asP (xs.getD 0 .u)).bind fun p0 =>
 gtI xs 1 fun n1 =>
 (k138 [(.p p0), (.i .i64 n1)] h).bind fun r2 =>
 (AV.asI .i64 r2.1).bind fun n3 =>
 (bif ((n3 : Int) != 0) then
 some ((.tup [(.i .u64 0), (.i .i64 n3)]), r2.2)
 else Option.bind p0 fun q4 =>
 ldP r2.2 q4.1 q4.2 fun p6 =>
 Option.bind p0 fun q7 =>
 ldI r2.2 q7.1 (q7.2 + 1) fun n9 =>
 Option.bind p0 fun q10 =>
 ldI r2.2 q10.1 (q10.2 + 5) fun n12 =>
 let v13 : Int := (IntKind.i64.wrap ((IntKind.i64.wrap (n12 + 2)) + n1))
 (k139 [(.p p6), (.i .i64 n9), (.i .i64 v13)] r2.2).bind fun r14 =>
 (AV.asTup 2 r14.1).bind fun c15 =>
 gtU c15 0 fun n16 =>
 gtI c15 1 fun n17 =>
 some ((.tup [(.i .u64 n16), (.i .i64 n17)]), r14.2))
 else none
def frames_Frames__Get : Sm O := frames_Frames__Get_c frames_Frames__check mem_Mem__Read
theorem frames_Frames__Get_ent : Entered Tryz.prog 73 := Tryz.call73
theorem frames_Frames__Get_run (k138 k139 : Sm O) : run (O := O) Tryz.prog [(138, k138), (139, k139)] Tryz.f73 (.n .z (.n (.n .z (.n .z (.n .z .z))) (.n (.d [] [0, 1, 2, 3, 4, 5, 6, 7, 8, 9, 10, 11, 12, 13, 14, 15, 16, 17, 18, 19, 20, 21] [0, 1, 3, 7, 0, 16, 48, 112, 0, 256, 768, 1792, 3840, 7936, 0, 32512, 65535, 131071, 262143, 262143, 524287, 2097151]) .z))) = frames_Frames__Get_c k138 k139 := by kernel_rfl
theorem frames_Frames__Get_sound : FSound RO Tryz.prog 73 frames_Frames__Get := sdf (frames_Frames__Get_run _ _) (gcons frames_Frames__check_ent frames_Frames__check_sound <| gcons mem_Mem__Read_ent mem_Mem__Read_sound <| gnil) Tryz.func73 (by kernel_rfl)
def roots_Roots__Get_c (k72 k58 k73 : Sm O) : Sm O := fun xs h =>
 bif Nat.beq xs.length 2 then
 (AV.asP (xs.getD 0 .u)).bind fun p0 =>
 gtI xs 1 fun n1 =>
 (bif (decide (n1 >= 0)) then
 Option.bind p0 fun q2 =>
 ldP h q2.1 (q2.2 + 1) fun p4 =>
 (k72 [(.p p4), (.i .i64 n1)] h).bind fun r5 =>
 (AV.asTup 2 r5.1).bind fun c6 =>
 gtU c6 0 fun n7 =>
 gtI c6 1 fun n8 =>
 some ((.tup [(.i .u64 n7), (.i .i64 n8)]), r5.2)
 else Option.bind p0 fun q9 =>
 ldP h q9.1 q9.2 fun p11 =>
 (k58 [(.i .i64 n1)] h).bind fun r12 =>
 (AV.asI .i64 r12.1).bind fun n13 =>
 (chkE (r12.2.ld q9.1 q9.2) (some (.p p11))).bind fun _ =>
 (k73 [(.p p11), (.i .i64 n13)] r12.2).bind fun r14 =>
 (AV.asTup 2 r14.1).bind fun c15 =>
 gtU c15 0 fun n16 =>
 gtI c15 1 fun n17 =>
 some ((.tup [(.i .u64 n16), (.i .i64 n17)]), r14.2))
 else none
def roots_Roots__Get : Sm O := roots_Roots__Get_c handles_Handles__Get roots_Slot frames_Frames__Get
theorem roots_Roots__Get_ent : Entered Tryz.prog 18 := Tryz.call18
theorem roots_Roots__Get_run (k72 k58 k73 : Sm O) : run (O := O) Tryz.prog [(72, k72), (58, k58), (73, k73)] Tryz.f18 (.n .z (.n (.n .z (.n .z .z)) (.n (.d [] [0, 1, 2, 3, 4, 5, 6, 7, 8, 9, 10] [0, 1, 3, 7, 0, 16, 63, 127, 127, 511, 1023]) .z))) = roots_Roots__Get_c k72 k58 k73 := by kernel_rfl
theorem roots_Roots__Get_sound : FSound RO Tryz.prog 18 roots_Roots__Get := sdf (roots_Roots__Get_run _ _ _) (gcons handles_Handles__Get_ent handles_Handles__Get_sound <| gcons roots_Slot_ent roots_Slot_sound <| gcons frames_Frames__Get_ent frames_Frames__Get_sound <| gnil) Tryz.func18 (by kernel_rfl)
def frames_Frames__Words_c : Sm O := fun xs h =>
 bif Nat.beq xs.length 1 then
 (AV.asP (xs.getD 0 .u)).bind fun p0 =>
 Option.bind p0 fun q1 =>
 ldI h q1.1 (q1.2 + 3) fun n3 =>
 some ((.i .i64 n3), h)
 else none
def frames_Frames__Words : Sm O := frames_Frames__Words_c
theorem frames_Frames__Words_ent : Entered Tryz.prog 69 := Tryz.call69
theorem frames_Frames__Words_run : run (O := O) Tryz.prog [] Tryz.f69 (.n .z .z) = frames_Frames__Words_c  := by kernel_rfl
theorem frames_Frames__Words_sound : FSound RO Tryz.prog 69 frames_Frames__Words := sdf frames_Frames__Words_run (gnil) Tryz.func69 (by kernel_rfl)
def handles_Handles__Count_c : Sm O := fun xs h =>
 bif Nat.beq xs.length 1 then
 (AV.asP (xs.getD 0 .u)).bind fun p0 =>
 Option.bind p0 fun q1 =>
 ldI h q1.1 ((q1.2 + 1) + 2) fun n3 =>
 some ((.i .i64 n3), h)
 else none
def handles_Handles__Count : Sm O := handles_Handles__Count_c
theorem handles_Handles__Count_ent : Entered Tryz.prog 70 := Tryz.call70
theorem handles_Handles__Count_run : run (O := O) Tryz.prog [] Tryz.f70 (.n .z .z) = handles_Handles__Count_c  := by kernel_rfl
theorem handles_Handles__Count_sound : FSound RO Tryz.prog 70 handles_Handles__Count := sdf handles_Handles__Count_run (gnil) Tryz.func70 (by kernel_rfl)
def roots_Roots__Charge_c (k69 k70 : Sm O) : Sm O := fun xs h =>
 bif Nat.beq xs.length 1 then
 (AV.asP (xs.getD 0 .u)).bind fun p0 =>
 Option.bind p0 fun q1 =>
 ldP h q1.1 q1.2 fun p3 =>
 Option.bind p0 fun q4 =>
 ldP h q4.1 (q4.2 + 1) fun p6 =>
 Option.bind p0 fun q7 =>
 ldP h q7.1 (q7.2 + 2) fun p9 =>
 (k69 [(.p p3)] h).bind fun r10 =>
 (AV.asI .i64 r10.1).bind fun n11 =>
 (chkE (r10.2.ld q4.1 (q4.2 + 1)) (some (.p p6))).bind fun _ =>
 (chkE (r10.2.ld q7.1 (q7.2 + 2)) (some (.p p9))).bind fun _ =>
 (k70 [(.p p6)] r10.2).bind fun r12 =>
 (AV.asI .i64 r12.1).bind fun n13 =>
 (chkE (r12.2.ld q7.1 (q7.2 + 2)) (some (.p p9))).bind fun _ =>
 (k70 [(.p p9)] r12.2).bind fun r14 =>
 (AV.asI .i64 r14.1).bind fun n15 =>
 let v16 : Int := (IntKind.i64.wrap (4 * (IntKind.i64.wrap (n13 + n15))))
 some ((.i .i64 (IntKind.i64.wrap (n11 + v16))), r14.2)
 else none
def roots_Roots__Charge : Sm O := roots_Roots__Charge_c frames_Frames__Words handles_Handles__Count
theorem roots_Roots__Charge_ent : Entered Tryz.prog 13 := Tryz.call13
theorem roots_Roots__Charge_run (k69 k70 : Sm O) : run (O := O) Tryz.prog [(69, k69), (70, k70)] Tryz.f13 (.n .z (.n (.d [] [0, 1, 2, 3, 5, 6, 7, 8, 10, 11, 12, 13, 4, 9, 14, 15, 16, 17, 18] [0, 1, 3, 7, 15, 0, 32, 96, 224, 511, 0, 1024, 3072, 7168, 16383, 32767, 65535, 131071, 262143]) .z)) = roots_Roots__Charge_c k69 k70 := by kernel_rfl
theorem roots_Roots__Charge_sound : FSound RO Tryz.prog 13 roots_Roots__Charge := sdf (roots_Roots__Charge_run _ _) (gcons frames_Frames__Words_ent frames_Frames__Words_sound <| gcons handles_Handles__Count_ent handles_Handles__Count_sound <| gnil) Tryz.func13 (by kernel_rfl)
def law19_awake_c (k10 k55 k56 k57 k18 k13 k58 : Sm O) : Sm O := fun xs h =>
 bif Nat.beq xs.length 0 then
 (k10 [] h).bind fun r0 =>
 (AV.asTup 2 r0.1).bind fun c1 =>
 (AV.asP (c1.getD 0 .u)).bind fun p2 =>
 (AV.asB (c1.getD 1 .u)).bind fun b3 =>
 (bif (!b3) then
 some ((.b false), r0.2)
 else Option.bind p2 fun q4 =>
 ldP r0.2 q4.1 q4.2 fun p6 =>
 (k55 [(.p p6), (.i .i64 2)] r0.2).bind fun r7 =>
 (AV.asI .i64 r7.1).bind fun n8 =>
 (k56 [(.p p2)] r7.2).bind fun r9 =>
 (AV.asTup 2 r9.1).bind fun c10 =>
 gtI c10 0 fun n11 =>
 gtI c10 1 fun n12 =>
 (k57 [(.p p2), (.i .i64 (-2)), (.i .u64 5)] r9.2).bind fun r13 =>
 (AV.asI .i64 r13.1).bind fun n14 =>
 (k18 [(.p p2), (.i .i64 (-2))] r13.2).bind fun r15 =>
 (AV.asTup 2 r15.1).bind fun c16 =>
 gtU c16 0 fun n17 =>
 gtI c16 1 fun n18 =>
 ((bif (((n8 : Int) == 0) == true) then
 some ([(.b ((n11 : Int) == 0))], r15.2)
 else some ([(.b false)], r15.2)) : Option (List AV × AH O)).bind fun r19 =>
 (AV.asB (r19.1.getD 0 .u)).bind fun b20 =>
 ((bif (b20 == true) then
 some ([(.b ((n12 : Int) == 0))], r19.2)
 else some ([(.b false)], r19.2)) : Option (List AV × AH O)).bind fun r21 =>
 (AV.asB (r21.1.getD 0 .u)).bind fun b22 =>
 ((bif (b22 == true) then
 some ([(.b ((n14 : Int) == 0))], r21.2)
 else some ([(.b false)], r21.2)) : Option (List AV × AH O)).bind fun r23 =>
 (AV.asB (r23.1.getD 0 .u)).bind fun b24 =>
 ((bif (b24 == true) then
 some ([(.b ((n17 : Int) == 5))], r23.2)
 else some ([(.b false)], r23.2)) : Option (List AV × AH O)).bind fun r25 =>
 (AV.asB (r25.1.getD 0 .u)).bind fun b26 =>
 ((bif (b26 == true) then
 some ([(.b ((n18 : Int) == 0))], r25.2)
 else some ([(.b false)], r25.2)) : Option (List AV × AH O)).bind fun r27 =>
 (AV.asB (r27.1.getD 0 .u)).bind fun b28 =>
 ((bif (b28 == true) then
 (k13 [(.p p2)] r27.2).bind fun r29 =>
 (AV.asI .i64 r29.1).bind fun n30 =>
 some ([(.b ((n30 : Int) == 8))], r29.2)
 else some ([(.b false)], r27.2)) : Option (List AV × AH O)).bind fun r31 =>
 (AV.asB (r31.1.getD 0 .u)).bind fun b32 =>
 ((bif (b32 == true) then
 (k58 [(.i .i64 1)] r31.2).bind fun r33 =>
 (AV.asI .i64 r33.1).bind fun n34 =>
 some ([(.b ((n34 : Int) == (-2)))], r33.2)
 else some ([(.b false)], r31.2)) : Option (List AV × AH O)).bind fun r35 =>
 (AV.asB (r35.1.getD 0 .u)).bind fun b36 =>
 some ((.b b36), r35.2))
 else none
def law19_awake : Sm O := law19_awake_c law19_made frames_Frames__Push roots_Roots__Add roots_Roots__Set roots_Roots__Get roots_Roots__Charge roots_Slot
theorem law19_awake_ent : Entered Tryz.prog 9 := Tryz.call9
theorem law19_awake_run (k10 k55 k56 k57 k18 k13 k58 : Sm O) : run (O := O) Tryz.prog [(10, k10), (55, k55), (56, k56), (57, k57), (18, k18), (13, k13), (58, k58)] Tryz.f9 (.n .z (.n .z (.n (.n .z (.n .z .z)) (.n .z (.n .z (.n .z (.n .z (.n (.g [(2, 2, [(37, .one .b)]), (6, 2, [(41, .one .b)]), (10, 2, [(45, .one .b)]), (14, 2, [(49, .one .b)]), (18, 2, [(53, .one .b)]), (22, 3, [(58, .one .b)]), (27, 2, [(62, .one .b)])]) .z)))))))) = law19_awake_c k10 k55 k56 k57 k18 k13 k58 := by kernel_rfl
theorem law19_awake_sound : FSound RO Tryz.prog 9 law19_awake := sdf (law19_awake_run _ _ _ _ _ _ _) (gcons law19_made_ent law19_made_sound <| gcons frames_Frames__Push_ent frames_Frames__Push_sound <| gcons roots_Roots__Add_ent roots_Roots__Add_sound <| gcons roots_Roots__Set_ent roots_Roots__Set_sound <| gcons roots_Roots__Get_ent roots_Roots__Get_sound <| gcons roots_Roots__Charge_ent roots_Roots__Charge_sound <| gcons roots_Slot_ent roots_Slot_sound <| gnil) Tryz.func9 (by kernel_rfl)
def haymowref18_New_c : Sm O := fun xs h =>
 bif Nat.beq xs.length 0 then
 let h0 := h.bump 1
 let h1 := h0.put h.next (.cells true 34 [(.i .i64 0), (.sl .nil 0), (.sl .nil 0), (.i .i64 0), (.sl .nil 0)])
 (h1.st (.n h.next) 0 [(.i .i64 3), (.sl .nil 0), (.sl .nil 0), (.i .i64 0), (.sl .nil 0)]).bind fun h2 =>
 ldI h2 (.n h.next) 0 fun n4 =>
 ldS h2 (.n h.next) 1 fun l6 =>
 ldS h2 (.n h.next) 2 fun l8 =>
 ldI h2 (.n h.next) 3 fun n10 =>
 ldS h2 (.n h.next) 4 fun l12 =>
 some ((.agg [(.i .i64 n4), (.sl l6.1 l6.2), (.sl l8.1 l8.2), (.i .i64 n10), (.sl l12.1 l12.2)]), h2)
 else none
def haymowref18_New : Sm O := haymowref18_New_c
theorem haymowref18_New_ent : Entered Tryz.prog 60 := Tryz.call60
theorem haymowref18_New_run : run (O := O) Tryz.prog [] Tryz.f60 (.n .z .z) = haymowref18_New_c  := by kernel_rfl
theorem haymowref18_New_sound : FSound RO Tryz.prog 60 haymowref18_New := sdf haymowref18_New_run (gnil) Tryz.func60 (by kernel_rfl)
def haymowref19_New_c (k60 : Sm O) : Sm O := fun xs h =>
 bif Nat.beq xs.length 0 then
 let h0 := h.bump 1
 let h1 := h0.put h.next (.cells true 36 [(.sl .nil 0), (.i .i64 0), (.sl .nil 0), (.sl .nil 0), (.i .i64 0), (.sl .nil 0), (.i .i64 0), (.sl .nil 0), (.sl .nil 0), (.i .i64 0), (.sl .nil 0)])
 (k60 [] h1).bind fun r2 =>
 (AV.asAgg 5 r2.1).bind fun c3 =>
 gtI c3 0 fun n4 =>
 gtS c3 1 fun l5 =>
 gtS c3 2 fun l6 =>
 gtI c3 3 fun n7 =>
 gtS c3 4 fun l8 =>
 (k60 [] r2.2).bind fun r9 =>
 (AV.asAgg 5 r9.1).bind fun c10 =>
 gtI c10 0 fun n11 =>
 gtS c10 1 fun l12 =>
 gtS c10 2 fun l13 =>
 gtI c10 3 fun n14 =>
 gtS c10 4 fun l15 =>
 (r9.2.st (.n h.next) 0 [(.sl .nil 0), (.i .i64 n4), (.sl l5.1 l5.2), (.sl l6.1 l6.2), (.i .i64 n7), (.sl l8.1 l8.2), (.i .i64 n11), (.sl l12.1 l12.2), (.sl l13.1 l13.2), (.i .i64 n14), (.sl l15.1 l15.2)]).bind fun h16 =>
 ldS h16 (.n h.next) 0 fun l18 =>
 ldI h16 (.n h.next) 1 fun n20 =>
 ldS h16 (.n h.next) 2 fun l22 =>
 ldS h16 (.n h.next) 3 fun l24 =>
 ldI h16 (.n h.next) 4 fun n26 =>
 ldS h16 (.n h.next) 5 fun l28 =>
 ldI h16 (.n h.next) 6 fun n30 =>
 ldS h16 (.n h.next) 7 fun l32 =>
 ldS h16 (.n h.next) 8 fun l34 =>
 ldI h16 (.n h.next) 9 fun n36 =>
 ldS h16 (.n h.next) 10 fun l38 =>
 some ((.agg [(.sl l18.1 l18.2), (.i .i64 n20), (.sl l22.1 l22.2), (.sl l24.1 l24.2), (.i .i64 n26), (.sl l28.1 l28.2), (.i .i64 n30), (.sl l32.1 l32.2), (.sl l34.1 l34.2), (.i .i64 n36), (.sl l38.1 l38.2)]), h16)
 else none
def haymowref19_New : Sm O := haymowref19_New_c haymowref18_New
theorem haymowref19_New_ent : Entered Tryz.prog 11 := Tryz.call11
theorem haymowref19_New_run (k60 : Sm O) : run (O := O) Tryz.prog [(60, k60)] Tryz.f11 (.n .z .z) = haymowref19_New_c k60 := by kernel_rfl
theorem haymowref19_New_sound : FSound RO Tryz.prog 11 haymowref19_New := sdf (haymowref19_New_run _) (gcons haymowref18_New_ent haymowref18_New_sound <| gnil) Tryz.func11 (by kernel_rfl)
def haymowref19_Push_c : Sm O := fun xs h =>
 bif Nat.beq xs.length 2 then
 (AV.asAgg 11 (xs.getD 0 .u)).bind fun c0 =>
 gtS c0 0 fun l1 =>
 gtI c0 1 fun n2 =>
 gtS c0 2 fun l3 =>
 gtS c0 3 fun l4 =>
 gtI c0 4 fun n5 =>
 gtS c0 5 fun l6 =>
 gtI c0 6 fun n7 =>
 gtS c0 7 fun l8 =>
 gtS c0 8 fun l9 =>
 gtI c0 9 fun n10 =>
 gtS c0 10 fun l11 =>
 gtI xs 1 fun n12 =>
 let h13 := h.bump 2
 let h14 := h13.put h.next (.cells true 36 [(.sl l1.1 l1.2), (.i .i64 n2), (.sl l3.1 l3.2), (.sl l4.1 l4.2), (.i .i64 n5), (.sl l6.1 l6.2), (.i .i64 n7), (.sl l8.1 l8.2), (.sl l9.1 l9.2), (.i .i64 n10), (.sl l11.1 l11.2)])
 let h15 := h14.put (h.next + 1) (.cells true 36 [(.sl .nil 0), (.i .i64 0), (.sl .nil 0), (.sl .nil 0), (.i .i64 0), (.sl .nil 0), (.i .i64 0), (.sl .nil 0), (.sl .nil 0), (.i .i64 0), (.sl .nil 0)])
 let h16 := h15.bump 5
 ldS h16 (.n h.next) 0 fun l18 =>
 let h19 := h16.put h15.next (.cells true 70 [])
 (h19.rdSl l18.1 l18.2 1).bind fun new20 =>
 (bif (Nat.ble ((0 + l18.2) * 25) 35184372088832) then
 (h19.appSl (h15.next + 1) 70 1 (.loc (.n h15.next) 0 1) 0 l18.2 new20).bind fun r21 =>
 (AV.asSl r21.1).bind fun l22 =>
 (bif ((((decide ((0 : Int) <= n12)) && (decide (n12 <= n12))) && (decide ((n12 * 8) <= 140737488355328))) && (decide (n12 <= 140737488355328))) then
 let h23 := r21.2.put ((h15.next + 1) + 1) (.cells true 40 ((List.replicate n12.toNat [(.i .u64 0)]).flatten))
 let h24 := h23.put (((h15.next + 1) + 1) + 1) (.cells true 70 [(.sl (.loc (.n ((h15.next + 1) + 1)) 0 1) n12.toNat)])
 (h24.rdSl (.loc (.n (((h15.next + 1) + 1) + 1)) 0 1) 1 1).bind fun new25 =>
 (bif (Nat.ble ((l22.2 + 1) * 25) 35184372088832) then
 (h24.appSl ((((h15.next + 1) + 1) + 1) + 1) 70 1 l22.1 l22.2 1 new25).bind fun r26 =>
 (AV.asSl r26.1).bind fun l27 =>
 (r26.2.st (.n h.next) 0 [(.sl l27.1 l27.2)]).bind fun h28 =>
 ldS h28 (.n h.next) 0 fun l30 =>
 ldI h28 (.n h.next) 1 fun n32 =>
 ldS h28 (.n h.next) 2 fun l34 =>
 ldS h28 (.n h.next) 3 fun l36 =>
 ldI h28 (.n h.next) 4 fun n38 =>
 ldS h28 (.n h.next) 5 fun l40 =>
 ldI h28 (.n h.next) 6 fun n42 =>
 ldS h28 (.n h.next) 7 fun l44 =>
 ldS h28 (.n h.next) 8 fun l46 =>
 ldI h28 (.n h.next) 9 fun n48 =>
 ldS h28 (.n h.next) 10 fun l50 =>
 (h28.st (.n (h.next + 1)) 0 [(.sl l30.1 l30.2), (.i .i64 n32), (.sl l34.1 l34.2), (.sl l36.1 l36.2), (.i .i64 n38), (.sl l40.1 l40.2), (.i .i64 n42), (.sl l44.1 l44.2), (.sl l46.1 l46.2), (.i .i64 n48), (.sl l50.1 l50.2)]).bind fun h51 =>
 ldS h51 (.n (h.next + 1)) 0 fun l53 =>
 ldI h51 (.n (h.next + 1)) 1 fun n55 =>
 ldS h51 (.n (h.next + 1)) 2 fun l57 =>
 ldS h51 (.n (h.next + 1)) 3 fun l59 =>
 ldI h51 (.n (h.next + 1)) 4 fun n61 =>
 ldS h51 (.n (h.next + 1)) 5 fun l63 =>
 ldI h51 (.n (h.next + 1)) 6 fun n65 =>
 ldS h51 (.n (h.next + 1)) 7 fun l67 =>
 ldS h51 (.n (h.next + 1)) 8 fun l69 =>
 ldI h51 (.n (h.next + 1)) 9 fun n71 =>
 ldS h51 (.n (h.next + 1)) 10 fun l73 =>
 some ((.agg [(.sl l53.1 l53.2), (.i .i64 n55), (.sl l57.1 l57.2), (.sl l59.1 l59.2), (.i .i64 n61), (.sl l63.1 l63.2), (.i .i64 n65), (.sl l67.1 l67.2), (.sl l69.1 l69.2), (.i .i64 n71), (.sl l73.1 l73.2)]), h51)
 else none)
 else none)
 else none)
 else none
def haymowref19_Push : Sm O := frz (haymowref19_Push_c)
theorem haymowref19_Push_ent : Entered Tryz.prog 119 := Tryz.call119
theorem haymowref19_Push_run : run (O := O) Tryz.prog [] Tryz.f119 (.n .z (.n (.d [] [1, 2, 4, 0, 3, 5, 6, 7, 8, 9] [0, 0, 2, 7, 0, 16, 48, 127, 255, 511]) .z)) = haymowref19_Push_c  := by kernel_rfl
theorem haymowref19_Push_sound : FSound RO Tryz.prog 119 (haymowref19_Push) :=
   have h : FSound RO Tryz.prog 119 (haymowref19_Push_c) := (haymowref19_Push_run) ▸ run_sound (gnil) mixed Tryz.func119 (by kernel_rfl) _
   h.frz
def frames_Frames__under_c (k139 : Sm O) : Sm O := fun xs h =>
 bif Nat.beq xs.length 2 then
 (AV.asP (xs.getD 0 .u)).bind fun p0 =>
 gtI xs 1 fun n1 =>
 let h2 := h.bump 1
 let h3 := h2.put h.next (.cells true 140 [(.i .i64 0), (.i .i64 0)])
 Option.bind p0 fun q4 =>
 ldP h3 q4.1 q4.2 fun p6 =>
 Option.bind p0 fun q7 =>
 ldI h3 q7.1 (q7.2 + 1) fun n9 =>
 (k139 [(.p p6), (.i .i64 n9), (.i .i64 (IntKind.i64.wrap (n1 + 0)))] h3).bind fun r10 =>
 (AV.asTup 2 r10.1).bind fun c11 =>
 gtU c11 0 fun n12 =>
 gtI c11 1 fun n13 =>
 (bif ((n12 : Int) == 0) then
 (r10.2.st (.n h.next) 0 [(.i .i64 0), (.i .i64 0)]).bind fun h14 =>
 ldI h14 (.n h.next) 0 fun n16 =>
 ldI h14 (.n h.next) 1 fun n18 =>
 some ((.tup [(.agg [(.i .i64 n16), (.i .i64 n18)]), (.b false)]), h14)
 else Option.bind p0 fun q19 =>
 ldP r10.2 q19.1 q19.2 fun p21 =>
 Option.bind p0 fun q22 =>
 ldI r10.2 q22.1 (q22.2 + 1) fun n24 =>
 let v25 : Int := (IntKind.i64.wrap ((IntKind.i64.wrap ((IntKind.i64.wrap n12) - 1)) + 1))
 (k139 [(.p p21), (.i .i64 n24), (.i .i64 v25)] r10.2).bind fun r26 =>
 (AV.asTup 2 r26.1).bind fun c27 =>
 gtU c27 0 fun n28 =>
 gtI c27 1 fun n29 =>
 (r26.2.st (.n h.next) 0 [(.i .i64 (IntKind.i64.wrap ((IntKind.i64.wrap n12) - 1))), (.i .i64 (IntKind.i64.wrap n28))]).bind fun h30 =>
 ldI h30 (.n h.next) 0 fun n32 =>
 ldI h30 (.n h.next) 1 fun n34 =>
 some ((.tup [(.agg [(.i .i64 n32), (.i .i64 n34)]), (.b true)]), h30))
 else none
def frames_Frames__under : Sm O := frames_Frames__under_c mem_Mem__Read
theorem frames_Frames__under_ent : Entered Tryz.prog 193 := Tryz.call193
theorem frames_Frames__under_run (k139 : Sm O) : run (O := O) Tryz.prog [(139, k139)] Tryz.f193 (.n .z (.n (.d [] [0, 1, 2, 3, 4, 5, 6, 7, 8, 9, 10, 11, 12, 13, 14, 15] [0, 1, 3, 7, 0, 16, 48, 112, 0, 256, 1023, 2047, 4095, 4095, 8191, 32767]) (.n (.n .z (.n .z .z)) (.n (.d [] [0, 1, 2, 3, 4, 5, 6, 7, 8, 9, 10, 11, 12, 13, 14, 15, 16, 17] [0, 1, 3, 7, 0, 16, 48, 112, 0, 256, 768, 1792, 4095, 8191, 16383, 16383, 32767, 131071]) .z)))) = frames_Frames__under_c k139 := by kernel_rfl
theorem frames_Frames__under_sound : FSound RO Tryz.prog 193 frames_Frames__under := sdf (frames_Frames__under_run _) (gcons mem_Mem__Read_ent mem_Mem__Read_sound <| gnil) Tryz.func193 (by kernel_rfl)
def frames_Frames__Pop_c (k193 : Sm O) : Sm O := fun xs h =>
 bif Nat.beq xs.length 1 then
 (AV.asP (xs.getD 0 .u)).bind fun p0 =>
 Option.bind p0 fun q1 =>
 ldI h q1.1 (q1.2 + 4) fun n3 =>
 (bif ((n3 : Int) == 0) then
 some ((.i .i64 33), h)
 else let h4 := h.bump 1
 Option.bind p0 fun q5 =>
 ldI h4 q5.1 (q5.2 + 5) fun n7 =>
 (k193 [(.p p0), (.i .i64 n7)] h4).bind fun r8 =>
 (AV.asTup 2 r8.1).bind fun c9 =>
 (AV.asAgg 2 (c9.getD 0 .u)).bind fun c10 =>
 gtI c10 0 fun n11 =>
 gtI c10 1 fun n12 =>
 (AV.asB (c9.getD 1 .u)).bind fun b13 =>
 let h14 := r8.2.put h.next (.cells true 140 [(.i .i64 0), (.i .i64 0)])
 (h14.st (.n h.next) 0 [(.i .i64 n11), (.i .i64 n12)]).bind fun h15 =>
 Option.bind p0 fun q16 =>
 ldI h15 q16.1 (q16.2 + 5) fun n18 =>
 Option.bind p0 fun q19 =>
 (h15.st q19.1 (q19.2 + 3) [(.i .i64 n18)]).bind fun h20 =>
 ldI h20 (.n h.next) 0 fun n22 =>
 ldI h20 (.n h.next) 1 fun n24 =>
 Option.bind p0 fun q25 =>
 (h20.st q25.1 (q25.2 + 5) [(.i .i64 n22), (.i .i64 n24)]).bind fun h26 =>
 Option.bind p0 fun q27 =>
 ldI h26 q27.1 (q27.2 + 4) fun n29 =>
 Option.bind p0 fun q30 =>
 (h26.st q30.1 (q30.2 + 4) [(.i .i64 (IntKind.i64.wrap (n29 - 1)))]).bind fun h31 =>
 some ((.i .i64 0), h31))
 else none
def frames_Frames__Pop : Sm O := frames_Frames__Pop_c frames_Frames__under
theorem frames_Frames__Pop_ent : Entered Tryz.prog 120 := Tryz.call120
theorem frames_Frames__Pop_run (k193 : Sm O) : run (O := O) Tryz.prog [(193, k193)] Tryz.f120 (.n .z (.n (.n .z (.n .z .z)) (.n .z (.n .z (.n .z (.n .z .z)))))) = frames_Frames__Pop_c k193 := by kernel_rfl
theorem frames_Frames__Pop_sound : FSound RO Tryz.prog 120 frames_Frames__Pop := sdf (frames_Frames__Pop_run _) (gcons frames_Frames__under_ent frames_Frames__under_sound <| gnil) Tryz.func120 (by kernel_rfl)
def law19_slots_c (k55 k119 k120 : Sm O) : Sm O := fun xs h =>
 bif Nat.beq xs.length 3 then
 (AV.asP (xs.getD 0 .u)).bind fun p0 =>
 (AV.asAgg 11 (xs.getD 1 .u)).bind fun c1 =>
 gtS c1 0 fun l2 =>
 gtI c1 1 fun n3 =>
 gtS c1 2 fun l4 =>
 gtS c1 3 fun l5 =>
 gtI c1 4 fun n6 =>
 gtS c1 5 fun l7 =>
 gtI c1 6 fun n8 =>
 gtS c1 7 fun l9 =>
 gtS c1 8 fun l10 =>
 gtI c1 9 fun n11 =>
 gtS c1 10 fun l12 =>
 (AV.asAgg 3 (xs.getD 2 .u)).bind fun c13 =>
 gtI c13 0 fun n14 =>
 gtI c13 1 fun n15 =>
 gtU c13 2 fun n16 =>
 let h17 := h.bump 3
 let h18 := h17.put h.next (.cells true 36 [(.sl l2.1 l2.2), (.i .i64 n3), (.sl l4.1 l4.2), (.sl l5.1 l5.2), (.i .i64 n6), (.sl l7.1 l7.2), (.i .i64 n8), (.sl l9.1 l9.2), (.sl l10.1 l10.2), (.i .i64 n11), (.sl l12.1 l12.2)])
 let h19 := h18.put (h.next + 1) (.cells true 42 [(.i .i64 n14), (.i .i64 n15), (.i .u64 n16)])
 let h20 := h19.put ((h.next + 1) + 1) (.cells true 36 [(.sl .nil 0), (.i .i64 0), (.sl .nil 0), (.sl .nil 0), (.i .i64 0), (.sl .nil 0), (.i .i64 0), (.sl .nil 0), (.sl .nil 0), (.i .i64 0), (.sl .nil 0)])
 ldI h20 (.n (h.next + 1)) 0 fun n22 =>
 (bif ((n22 : Int) == 0) then
 Option.bind p0 fun q23 =>
 ldP h20 q23.1 q23.2 fun p25 =>
 ldI h20 (.n (h.next + 1)) 1 fun n27 =>
 (k55 [(.p p25), (.i .i64 n27)] h20).bind fun r28 =>
 (AV.asI .i64 r28.1).bind fun n29 =>
 ldI r28.2 (.n (h.next + 1)) 1 fun n31 =>
 ((bif ((decide (n31 < 0)) == false) then
 ldI r28.2 (.n (h.next + 1)) 1 fun n33 =>
 some ([(.b (decide (n33 > 256)))], r28.2)
 else some ([(.b true)], r28.2)) : Option (List AV × AH O)).bind fun r34 =>
 (AV.asB (r34.1.getD 0 .u)).bind fun b35 =>
 (bif b35 then
 ldS r34.2 (.n h.next) 0 fun l37 =>
 ldI r34.2 (.n h.next) 1 fun n39 =>
 ldS r34.2 (.n h.next) 2 fun l41 =>
 ldS r34.2 (.n h.next) 3 fun l43 =>
 ldI r34.2 (.n h.next) 4 fun n45 =>
 ldS r34.2 (.n h.next) 5 fun l47 =>
 ldI r34.2 (.n h.next) 6 fun n49 =>
 ldS r34.2 (.n h.next) 7 fun l51 =>
 ldS r34.2 (.n h.next) 8 fun l53 =>
 ldI r34.2 (.n h.next) 9 fun n55 =>
 ldS r34.2 (.n h.next) 10 fun l57 =>
 (r34.2.st (.n ((h.next + 1) + 1)) 0 [(.sl l37.1 l37.2), (.i .i64 n39), (.sl l41.1 l41.2), (.sl l43.1 l43.2), (.i .i64 n45), (.sl l47.1 l47.2), (.i .i64 n49), (.sl l51.1 l51.2), (.sl l53.1 l53.2), (.i .i64 n55), (.sl l57.1 l57.2)]).bind fun h58 =>
 ldS h58 (.n ((h.next + 1) + 1)) 0 fun l60 =>
 ldI h58 (.n ((h.next + 1) + 1)) 1 fun n62 =>
 ldS h58 (.n ((h.next + 1) + 1)) 2 fun l64 =>
 ldS h58 (.n ((h.next + 1) + 1)) 3 fun l66 =>
 ldI h58 (.n ((h.next + 1) + 1)) 4 fun n68 =>
 ldS h58 (.n ((h.next + 1) + 1)) 5 fun l70 =>
 ldI h58 (.n ((h.next + 1) + 1)) 6 fun n72 =>
 ldS h58 (.n ((h.next + 1) + 1)) 7 fun l74 =>
 ldS h58 (.n ((h.next + 1) + 1)) 8 fun l76 =>
 ldI h58 (.n ((h.next + 1) + 1)) 9 fun n78 =>
 ldS h58 (.n ((h.next + 1) + 1)) 10 fun l80 =>
 some ((.tup [(.agg [(.sl l60.1 l60.2), (.i .i64 n62), (.sl l64.1 l64.2), (.sl l66.1 l66.2), (.i .i64 n68), (.sl l70.1 l70.2), (.i .i64 n72), (.sl l74.1 l74.2), (.sl l76.1 l76.2), (.i .i64 n78), (.sl l80.1 l80.2)]), (.b ((n29 : Int) == 1))]), h58)
 else ldS r34.2 (.n h.next) 0 fun l82 =>
 ldI r34.2 (.n h.next) 1 fun n84 =>
 ldS r34.2 (.n h.next) 2 fun l86 =>
 ldS r34.2 (.n h.next) 3 fun l88 =>
 ldI r34.2 (.n h.next) 4 fun n90 =>
 ldS r34.2 (.n h.next) 5 fun l92 =>
 ldI r34.2 (.n h.next) 6 fun n94 =>
 ldS r34.2 (.n h.next) 7 fun l96 =>
 ldS r34.2 (.n h.next) 8 fun l98 =>
 ldI r34.2 (.n h.next) 9 fun n100 =>
 ldS r34.2 (.n h.next) 10 fun l102 =>
 ldI r34.2 (.n (h.next + 1)) 1 fun n104 =>
 (k119 [(.agg [(.sl l82.1 l82.2), (.i .i64 n84), (.sl l86.1 l86.2), (.sl l88.1 l88.2), (.i .i64 n90), (.sl l92.1 l92.2), (.i .i64 n94), (.sl l96.1 l96.2), (.sl l98.1 l98.2), (.i .i64 n100), (.sl l102.1 l102.2)]), (.i .i64 n104)] r34.2).bind fun r105 =>
 (AV.asAgg 11 r105.1).bind fun c106 =>
 gtS c106 0 fun l107 =>
 gtI c106 1 fun n108 =>
 gtS c106 2 fun l109 =>
 gtS c106 3 fun l110 =>
 gtI c106 4 fun n111 =>
 gtS c106 5 fun l112 =>
 gtI c106 6 fun n113 =>
 gtS c106 7 fun l114 =>
 gtS c106 8 fun l115 =>
 gtI c106 9 fun n116 =>
 gtS c106 10 fun l117 =>
 (r105.2.st (.n ((h.next + 1) + 1)) 0 [(.sl l107.1 l107.2), (.i .i64 n108), (.sl l109.1 l109.2), (.sl l110.1 l110.2), (.i .i64 n111), (.sl l112.1 l112.2), (.i .i64 n113), (.sl l114.1 l114.2), (.sl l115.1 l115.2), (.i .i64 n116), (.sl l117.1 l117.2)]).bind fun h118 =>
 ldS h118 (.n ((h.next + 1) + 1)) 0 fun l120 =>
 ldI h118 (.n ((h.next + 1) + 1)) 1 fun n122 =>
 ldS h118 (.n ((h.next + 1) + 1)) 2 fun l124 =>
 ldS h118 (.n ((h.next + 1) + 1)) 3 fun l126 =>
 ldI h118 (.n ((h.next + 1) + 1)) 4 fun n128 =>
 ldS h118 (.n ((h.next + 1) + 1)) 5 fun l130 =>
 ldI h118 (.n ((h.next + 1) + 1)) 6 fun n132 =>
 ldS h118 (.n ((h.next + 1) + 1)) 7 fun l134 =>
 ldS h118 (.n ((h.next + 1) + 1)) 8 fun l136 =>
 ldI h118 (.n ((h.next + 1) + 1)) 9 fun n138 =>
 ldS h118 (.n ((h.next + 1) + 1)) 10 fun l140 =>
 some ((.tup [(.agg [(.sl l120.1 l120.2), (.i .i64 n122), (.sl l124.1 l124.2), (.sl l126.1 l126.2), (.i .i64 n128), (.sl l130.1 l130.2), (.i .i64 n132), (.sl l134.1 l134.2), (.sl l136.1 l136.2), (.i .i64 n138), (.sl l140.1 l140.2)]), (.b ((n29 : Int) == 0))]), h118))
 else Option.bind p0 fun q141 =>
 ldP h20 q141.1 q141.2 fun p143 =>
 (k120 [(.p p143)] h20).bind fun r144 =>
 (AV.asI .i64 r144.1).bind fun n145 =>
 ldS r144.2 (.n h.next) 0 fun l147 =>
 (bif (((l147.2 : Int) : Int) == 0) then
 ldS r144.2 (.n h.next) 0 fun l149 =>
 ldI r144.2 (.n h.next) 1 fun n151 =>
 ldS r144.2 (.n h.next) 2 fun l153 =>
 ldS r144.2 (.n h.next) 3 fun l155 =>
 ldI r144.2 (.n h.next) 4 fun n157 =>
 ldS r144.2 (.n h.next) 5 fun l159 =>
 ldI r144.2 (.n h.next) 6 fun n161 =>
 ldS r144.2 (.n h.next) 7 fun l163 =>
 ldS r144.2 (.n h.next) 8 fun l165 =>
 ldI r144.2 (.n h.next) 9 fun n167 =>
 ldS r144.2 (.n h.next) 10 fun l169 =>
 (r144.2.st (.n ((h.next + 1) + 1)) 0 [(.sl l149.1 l149.2), (.i .i64 n151), (.sl l153.1 l153.2), (.sl l155.1 l155.2), (.i .i64 n157), (.sl l159.1 l159.2), (.i .i64 n161), (.sl l163.1 l163.2), (.sl l165.1 l165.2), (.i .i64 n167), (.sl l169.1 l169.2)]).bind fun h170 =>
 ldS h170 (.n ((h.next + 1) + 1)) 0 fun l172 =>
 ldI h170 (.n ((h.next + 1) + 1)) 1 fun n174 =>
 ldS h170 (.n ((h.next + 1) + 1)) 2 fun l176 =>
 ldS h170 (.n ((h.next + 1) + 1)) 3 fun l178 =>
 ldI h170 (.n ((h.next + 1) + 1)) 4 fun n180 =>
 ldS h170 (.n ((h.next + 1) + 1)) 5 fun l182 =>
 ldI h170 (.n ((h.next + 1) + 1)) 6 fun n184 =>
 ldS h170 (.n ((h.next + 1) + 1)) 7 fun l186 =>
 ldS h170 (.n ((h.next + 1) + 1)) 8 fun l188 =>
 ldI h170 (.n ((h.next + 1) + 1)) 9 fun n190 =>
 ldS h170 (.n ((h.next + 1) + 1)) 10 fun l192 =>
 some ((.tup [(.agg [(.sl l172.1 l172.2), (.i .i64 n174), (.sl l176.1 l176.2), (.sl l178.1 l178.2), (.i .i64 n180), (.sl l182.1 l182.2), (.i .i64 n184), (.sl l186.1 l186.2), (.sl l188.1 l188.2), (.i .i64 n190), (.sl l192.1 l192.2)]), (.b ((n145 : Int) == 33))]), h170)
 else ldS r144.2 (.n h.next) 0 fun l194 =>
 ldS r144.2 (.n h.next) 0 fun l196 =>
 (bif ((decide ((0 : Int) <= (IntKind.i64.wrap ((l196.2 : Int) - 1)))) && (decide ((IntKind.i64.wrap ((l196.2 : Int) - 1)) <= (l194.2 : Int)))) then
 (SA.adv l194.1 0 1).bind fun a197 =>
 (r144.2.st (.n h.next) 0 [(.sl a197 ((IntKind.i64.wrap ((l196.2 : Int) - 1)).toNat - 0))]).bind fun h198 =>
 ldS h198 (.n h.next) 0 fun l200 =>
 ldI h198 (.n h.next) 1 fun n202 =>
 ldS h198 (.n h.next) 2 fun l204 =>
 ldS h198 (.n h.next) 3 fun l206 =>
 ldI h198 (.n h.next) 4 fun n208 =>
 ldS h198 (.n h.next) 5 fun l210 =>
 ldI h198 (.n h.next) 6 fun n212 =>
 ldS h198 (.n h.next) 7 fun l214 =>
 ldS h198 (.n h.next) 8 fun l216 =>
 ldI h198 (.n h.next) 9 fun n218 =>
 ldS h198 (.n h.next) 10 fun l220 =>
 (h198.st (.n ((h.next + 1) + 1)) 0 [(.sl l200.1 l200.2), (.i .i64 n202), (.sl l204.1 l204.2), (.sl l206.1 l206.2), (.i .i64 n208), (.sl l210.1 l210.2), (.i .i64 n212), (.sl l214.1 l214.2), (.sl l216.1 l216.2), (.i .i64 n218), (.sl l220.1 l220.2)]).bind fun h221 =>
 ldS h221 (.n ((h.next + 1) + 1)) 0 fun l223 =>
 ldI h221 (.n ((h.next + 1) + 1)) 1 fun n225 =>
 ldS h221 (.n ((h.next + 1) + 1)) 2 fun l227 =>
 ldS h221 (.n ((h.next + 1) + 1)) 3 fun l229 =>
 ldI h221 (.n ((h.next + 1) + 1)) 4 fun n231 =>
 ldS h221 (.n ((h.next + 1) + 1)) 5 fun l233 =>
 ldI h221 (.n ((h.next + 1) + 1)) 6 fun n235 =>
 ldS h221 (.n ((h.next + 1) + 1)) 7 fun l237 =>
 ldS h221 (.n ((h.next + 1) + 1)) 8 fun l239 =>
 ldI h221 (.n ((h.next + 1) + 1)) 9 fun n241 =>
 ldS h221 (.n ((h.next + 1) + 1)) 10 fun l243 =>
 some ((.tup [(.agg [(.sl l223.1 l223.2), (.i .i64 n225), (.sl l227.1 l227.2), (.sl l229.1 l229.2), (.i .i64 n231), (.sl l233.1 l233.2), (.i .i64 n235), (.sl l237.1 l237.2), (.sl l239.1 l239.2), (.i .i64 n241), (.sl l243.1 l243.2)]), (.b ((n145 : Int) == 0))]), h221)
 else none)))
 else none
def law19_slots : Sm O := law19_slots_c frames_Frames__Push haymowref19_Push frames_Frames__Pop
theorem law19_slots_ent : Entered Tryz.prog 61 := Tryz.call61
theorem law19_slots_run (k55 k119 k120 : Sm O) : run (O := O) Tryz.prog [(55, k55), (119, k119), (120, k120)] Tryz.f61 (.n .z (.n (.n .z (.n (.n (.d [] [0, 1, 2, 3, 4, 5, 6, 7] [0, 1, 3, 7, 0, 16, 63, 127]) (.n (.n (.g [(3, 3, [(27, .one .b)])]) (.n .z .z)) .z)) .z)) (.n .z (.n (.n .z (.n .z .z)) (.n .z .z))))) = law19_slots_c k55 k119 k120 := by kernel_rfl
theorem law19_slots_sound : FSound RO Tryz.prog 61 law19_slots := sdf (law19_slots_run _ _ _) (gcons frames_Frames__Push_ent frames_Frames__Push_sound <| gcons haymowref19_Push_ent haymowref19_Push_sound <| gcons frames_Frames__Pop_ent frames_Frames__Pop_sound <| gnil) Tryz.func61 (by kernel_rfl)
def haymowref10_copied_L1 (l14 : SA × Nat) : List AV × AH O -> Option ((List AV × AH O) ⊕ (List AV × AH O)) := (fun r15 =>
 (AV.asI .i64 (r15.1.getD 0 .u)).bind fun n16 =>
 (bif (decide (n16 < (l14.2 : Int))) then
 let h17 := r15.2.bump 2
 let h18 := h17.put r15.2.next (.cells true 40 [])
 (bif ((decide ((0 : Int) <= n16)) && (decide (n16 < (l14.2 : Int)))) then
 (SA.ref l14.1).bind fun q19 =>
 ldS h18 q19.1 ((q19.2 + (n16.toNat * 3)) + 2) fun l21 =>
 (h18.rdSl l21.1 l21.2 1).bind fun new22 =>
 (bif (Nat.ble ((0 + l21.2) * 9) 35184372088832) then
 (h18.appSl (r15.2.next + 1) 40 1 (.loc (.n r15.2.next) 0 1) 0 l21.2 new22).bind fun r23 =>
 (AV.asSl r23.1).bind fun l24 =>
 (bif ((decide ((0 : Int) <= n16)) && (decide (n16 < (l14.2 : Int)))) then
 (SA.ref l14.1).bind fun q25 =>
 (r23.2.st q25.1 ((q25.2 + (n16.toNat * 3)) + 2) [(.sl l24.1 l24.2)]).bind fun h26 =>
 some (Sum.inl ([(.i .i64 (IntKind.i64.wrap (n16 + 1)))], h26))
 else none)
 else none)
 else none)
 else some (Sum.inr ([], r15.2))))
def haymowref10_copied_c : Sm O := fun xs h =>
 bif Nat.beq xs.length 1 then
 (AV.asAgg 4 (xs.getD 0 .u)).bind fun c0 =>
 gtI c0 0 fun n1 =>
 gtS c0 1 fun l2 =>
 gtS c0 2 fun l3 =>
 gtI c0 3 fun n4 =>
 let h5 := h.bump 2
 let h6 := h5.put h.next (.cells true 31 [(.i .i64 n1), (.sl l2.1 l2.2), (.sl l3.1 l3.2), (.i .i64 n4)])
 let h7 := h6.put (h.next + 1) (.cells true 31 [(.i .i64 0), (.sl .nil 0), (.sl .nil 0), (.i .i64 0)])
 let h8 := h7.bump 2
 let h9 := h8.put h7.next (.cells true 214 [])
 ldS h9 (.n h.next) 1 fun l11 =>
 (h9.rdSl l11.1 l11.2 3).bind fun new12 =>
 (bif (Nat.ble ((0 + l11.2) * 41) 35184372088832) then
 (h9.appSl (h7.next + 1) 214 3 (.loc (.n h7.next) 0 3) 0 l11.2 new12).bind fun r13 =>
 (AV.asSl r13.1).bind fun l14 =>
 (loopF (S := List AV × AH O) (T := List AV × AH O) (haymowref10_copied_L1 l14) ([(.i .i64 0)], r13.2)).bind fun r27 =>
 (r27.2.st (.n h.next) 1 [(.sl l14.1 l14.2)]).bind fun h28 =>
 let h29 := h28.bump 2
 let h30 := h29.put h28.next (.cells true 3 [])
 ldS h30 (.n h.next) 2 fun l32 =>
 (h30.rdSl l32.1 l32.2 1).bind fun new33 =>
 (bif (Nat.ble ((0 + l32.2) * 9) 35184372088832) then
 (h30.appSl (h28.next + 1) 3 1 (.loc (.n h28.next) 0 1) 0 l32.2 new33).bind fun r34 =>
 (AV.asSl r34.1).bind fun l35 =>
 (r34.2.st (.n h.next) 2 [(.sl l35.1 l35.2)]).bind fun h36 =>
 ldI h36 (.n h.next) 0 fun n38 =>
 ldS h36 (.n h.next) 1 fun l40 =>
 ldS h36 (.n h.next) 2 fun l42 =>
 ldI h36 (.n h.next) 3 fun n44 =>
 (h36.st (.n (h.next + 1)) 0 [(.i .i64 n38), (.sl l40.1 l40.2), (.sl l42.1 l42.2), (.i .i64 n44)]).bind fun h45 =>
 ldI h45 (.n (h.next + 1)) 0 fun n47 =>
 ldS h45 (.n (h.next + 1)) 1 fun l49 =>
 ldS h45 (.n (h.next + 1)) 2 fun l51 =>
 ldI h45 (.n (h.next + 1)) 3 fun n53 =>
 some ((.agg [(.i .i64 n47), (.sl l49.1 l49.2), (.sl l51.1 l51.2), (.i .i64 n53)]), h45)
 else none)
 else none)
 else none
def haymowref10_copied : Sm O := haymowref10_copied_c
theorem haymowref10_copied_ent : Entered Tryz.prog 194 := Tryz.call194
theorem haymowref10_copied_run : run (O := O) Tryz.prog [] Tryz.f194 (.n .z (.n .z (.n (.n .z (.n (.lp false 0 [(4, .one (.i .i64))] [] (.n (.n .z .z) (.n .z .z))) .z)) (.n .z (.n .z .z))))) = haymowref10_copied_c  := by kernel_rfl
theorem haymowref10_copied_sound : FSound RO Tryz.prog 194 haymowref10_copied := sdf haymowref10_copied_run (gnil) Tryz.func194 (by kernel_rfl)
def haymowref10_Take_c (k194 : Sm O) : Sm O := fun xs h =>
 bif Nat.beq xs.length 1 then
 (AV.asAgg 4 (xs.getD 0 .u)).bind fun c0 =>
 gtI c0 0 fun n1 =>
 gtS c0 1 fun l2 =>
 gtS c0 2 fun l3 =>
 gtI c0 3 fun n4 =>
 let h5 := h.bump 2
 let h6 := h5.put h.next (.cells true 31 [(.i .i64 n1), (.sl l2.1 l2.2), (.sl l3.1 l3.2), (.i .i64 n4)])
 let h7 := h6.put (h.next + 1) (.cells true 31 [(.i .i64 0), (.sl .nil 0), (.sl .nil 0), (.i .i64 0)])
 ldI h7 (.n h.next) 0 fun n9 =>
 ldS h7 (.n h.next) 1 fun l11 =>
 ldS h7 (.n h.next) 2 fun l13 =>
 ldI h7 (.n h.next) 3 fun n15 =>
 (k194 [(.agg [(.i .i64 n9), (.sl l11.1 l11.2), (.sl l13.1 l13.2), (.i .i64 n15)])] h7).bind fun r16 =>
 (AV.asAgg 4 r16.1).bind fun c17 =>
 gtI c17 0 fun n18 =>
 gtS c17 1 fun l19 =>
 gtS c17 2 fun l20 =>
 gtI c17 3 fun n21 =>
 (r16.2.st (.n h.next) 0 [(.i .i64 n18), (.sl l19.1 l19.2), (.sl l20.1 l20.2), (.i .i64 n21)]).bind fun h22 =>
 ldS h22 (.n h.next) 2 fun l24 =>
 (bif (decide ((l24.2 : Int) > 0)) then
 ldS h22 (.n h.next) 2 fun l26 =>
 (bif ((decide ((0 : Int) <= (IntKind.i64.wrap ((l24.2 : Int) - 1)))) && (decide ((IntKind.i64.wrap ((l24.2 : Int) - 1)) < (l26.2 : Int)))) then
 (SA.ref l26.1).bind fun q27 =>
 ldI h22 q27.1 (q27.2 + ((IntKind.i64.wrap ((l24.2 : Int) - 1)).toNat * 1)) fun n29 =>
 ldS h22 (.n h.next) 2 fun l31 =>
 (bif ((decide ((0 : Int) <= (IntKind.i64.wrap ((l24.2 : Int) - 1)))) && (decide ((IntKind.i64.wrap ((l24.2 : Int) - 1)) <= (l31.2 : Int)))) then
 (SA.adv l31.1 0 1).bind fun a32 =>
 (h22.st (.n h.next) 2 [(.sl a32 ((IntKind.i64.wrap ((l24.2 : Int) - 1)).toNat - 0))]).bind fun h33 =>
 ldS h33 (.n h.next) 1 fun l35 =>
 (bif ((decide ((0 : Int) <= (IntKind.i64.wrap (n29 - 1)))) && (decide ((IntKind.i64.wrap (n29 - 1)) < (l35.2 : Int)))) then
 (SA.ref l35.1).bind fun q36 =>
 (h33.st q36.1 (q36.2 + ((IntKind.i64.wrap (n29 - 1)).toNat * 3)) [(.b true)]).bind fun h37 =>
 let h38 := h37.bump 1
 ldS h38 (.n h.next) 1 fun l40 =>
 ldI h38 (.n h.next) 0 fun n42 =>
 (bif ((((decide ((0 : Int) <= n42)) && (decide (n42 <= n42))) && (decide ((n42 * 8) <= 140737488355328))) && (decide (n42 <= 140737488355328))) then
 let h43 := h38.put h37.next (.cells true 40 ((List.replicate n42.toNat [(.i .u64 0)]).flatten))
 (bif ((decide ((0 : Int) <= (IntKind.i64.wrap (n29 - 1)))) && (decide ((IntKind.i64.wrap (n29 - 1)) < (l40.2 : Int)))) then
 (SA.ref l40.1).bind fun q44 =>
 (h43.st q44.1 ((q44.2 + ((IntKind.i64.wrap (n29 - 1)).toNat * 3)) + 2) [(.sl (.loc (.n h37.next) 0 1) n42.toNat)]).bind fun h45 =>
 ldI h45 (.n h.next) 0 fun n47 =>
 ldS h45 (.n h.next) 1 fun l49 =>
 ldS h45 (.n h.next) 2 fun l51 =>
 ldI h45 (.n h.next) 3 fun n53 =>
 (h45.st (.n (h.next + 1)) 0 [(.i .i64 n47), (.sl l49.1 l49.2), (.sl l51.1 l51.2), (.i .i64 n53)]).bind fun h54 =>
 ldI h54 (.n (h.next + 1)) 0 fun n56 =>
 ldS h54 (.n (h.next + 1)) 1 fun l58 =>
 ldS h54 (.n (h.next + 1)) 2 fun l60 =>
 ldI h54 (.n (h.next + 1)) 3 fun n62 =>
 some ((.tup [(.agg [(.i .i64 n56), (.sl l58.1 l58.2), (.sl l60.1 l60.2), (.i .i64 n62)]), (.i .i64 n29)]), h54)
 else none)
 else none)
 else none)
 else none)
 else none)
 else ldS h22 (.n h.next) 1 fun l64 =>
 ldI h22 (.n h.next) 3 fun n66 =>
 ((bif (((l64.2 : Int) : Int) == n66) then
 ldI h22 (.n h.next) 3 fun n68 =>
 let v69 : Int := (if (IntKind.i64.wrap (2 * n68)) > 8 then (IntKind.i64.wrap (2 * n68)) else 8)
 (h22.st (.n h.next) 3 [(.i .i64 v69)]).bind fun h70 =>
 some ([], h70)
 else some ([], h22)) : Option (List AV × AH O)).bind fun r71 =>
 let h72 := r71.2.bump 3
 ldS h72 (.n h.next) 1 fun l74 =>
 ldI h72 (.n h.next) 0 fun n76 =>
 (bif ((((decide ((0 : Int) <= n76)) && (decide (n76 <= n76))) && (decide ((n76 * 8) <= 140737488355328))) && (decide (n76 <= 140737488355328))) then
 let h77 := h72.put r71.2.next (.cells true 40 ((List.replicate n76.toNat [(.i .u64 0)]).flatten))
 let h78 := h77.put (r71.2.next + 1) (.cells true 214 [(.b true), (.i .i64 0), (.sl (.loc (.n r71.2.next) 0 1) n76.toNat)])
 (h78.rdSl (.loc (.n (r71.2.next + 1)) 0 3) 1 3).bind fun new79 =>
 (bif (Nat.ble ((l74.2 + 1) * 41) 35184372088832) then
 (h78.appSl ((r71.2.next + 1) + 1) 214 3 l74.1 l74.2 1 new79).bind fun r80 =>
 (AV.asSl r80.1).bind fun l81 =>
 (r80.2.st (.n h.next) 1 [(.sl l81.1 l81.2)]).bind fun h82 =>
 ldI h82 (.n h.next) 0 fun n84 =>
 ldS h82 (.n h.next) 1 fun l86 =>
 ldS h82 (.n h.next) 2 fun l88 =>
 ldI h82 (.n h.next) 3 fun n90 =>
 ldS h82 (.n h.next) 1 fun l92 =>
 (h82.st (.n (h.next + 1)) 0 [(.i .i64 n84), (.sl l86.1 l86.2), (.sl l88.1 l88.2), (.i .i64 n90)]).bind fun h93 =>
 (chkE (h93.ld (.n h.next) 1) (some (.sl l92.1 l92.2))).bind fun _ =>
 ldI h93 (.n (h.next + 1)) 0 fun n95 =>
 ldS h93 (.n (h.next + 1)) 1 fun l97 =>
 ldS h93 (.n (h.next + 1)) 2 fun l99 =>
 ldI h93 (.n (h.next + 1)) 3 fun n101 =>
 some ((.tup [(.agg [(.i .i64 n95), (.sl l97.1 l97.2), (.sl l99.1 l99.2), (.i .i64 n101)]), (.i .i64 (l92.2 : Int))]), h93)
 else none)
 else none))
 else none
def haymowref10_Take : Sm O := frz (haymowref10_Take_c haymowref10_copied)
theorem haymowref10_Take_ent : Entered Tryz.prog 121 := Tryz.call121
theorem haymowref10_Take_run (k194 : Sm O) : run (O := O) Tryz.prog [(194, k194)] Tryz.f121 (.n .z (.n .z (.n (.n .z (.n .z (.n (.n .z (.n .z (.n .z (.n (.d [] [0, 1, 2, 3, 4, 5, 6, 7, 8, 9] [0, 1, 0, 4, 0, 16, 48, 127, 255, 511]) .z)))) .z))) (.n (.n .z (.j false [] .z .z)) (.n (.d [] [0, 1, 2, 3, 4, 5, 6, 7, 8, 9] [0, 1, 0, 4, 12, 28, 60, 127, 255, 511]) (.n (.d [] [0, 1, 2, 3, 4, 5] [0, 0, 2, 6, 1, 31]) .z)))))) = haymowref10_Take_c k194 := by kernel_rfl
theorem haymowref10_Take_sound : FSound RO Tryz.prog 121 (haymowref10_Take) :=
   have h : FSound RO Tryz.prog 121 (haymowref10_Take_c haymowref10_copied) := (haymowref10_Take_run haymowref10_copied) ▸ run_sound (gcons haymowref10_copied_ent (haymowref10_copied_sound) <| gnil) mixed Tryz.func121 (by kernel_rfl) _
   h.frz
def haymowref18_Add_c (k121 : Sm O) : Sm O := fun xs h =>
 bif Nat.beq xs.length 2 then
 (AV.asAgg 5 (xs.getD 0 .u)).bind fun c0 =>
 gtI c0 0 fun n1 =>
 gtS c0 1 fun l2 =>
 gtS c0 2 fun l3 =>
 gtI c0 3 fun n4 =>
 gtS c0 4 fun l5 =>
 gtU xs 1 fun n6 =>
 let h7 := h.bump 2
 let h8 := h7.put h.next (.cells true 34 [(.i .i64 n1), (.sl l2.1 l2.2), (.sl l3.1 l3.2), (.i .i64 n4), (.sl l5.1 l5.2)])
 let h9 := h8.put (h.next + 1) (.cells true 34 [(.i .i64 0), (.sl .nil 0), (.sl .nil 0), (.i .i64 0), (.sl .nil 0)])
 ldI h9 (.n h.next) 0 fun n11 =>
 ldS h9 (.n h.next) 1 fun l13 =>
 ldS h9 (.n h.next) 2 fun l15 =>
 ldI h9 (.n h.next) 3 fun n17 =>
 (k121 [(.agg [(.i .i64 n11), (.sl l13.1 l13.2), (.sl l15.1 l15.2), (.i .i64 n17)])] h9).bind fun r18 =>
 (AV.asTup 2 r18.1).bind fun c19 =>
 (AV.asAgg 4 (c19.getD 0 .u)).bind fun c20 =>
 gtI c20 0 fun n21 =>
 gtS c20 1 fun l22 =>
 gtS c20 2 fun l23 =>
 gtI c20 3 fun n24 =>
 gtI c19 1 fun n25 =>
 (r18.2.st (.n h.next) 0 [(.i .i64 n21), (.sl l22.1 l22.2), (.sl l23.1 l23.2), (.i .i64 n24)]).bind fun h26 =>
 ldS h26 (.n h.next) 1 fun l28 =>
 (bif ((decide ((0 : Int) <= (IntKind.i64.wrap (n25 - 1)))) && (decide ((IntKind.i64.wrap (n25 - 1)) < (l28.2 : Int)))) then
 (SA.ref l28.1).bind fun q29 =>
 ldI h26 q29.1 ((q29.2 + ((IntKind.i64.wrap (n25 - 1)).toNat * 3)) + 1) fun n31 =>
 let v32 : Int := (IntKind.i64.wrap ((IntKind.i64.wrap (n25 - 1)) + (IntKind.i64.wrap (1048576 * n31))))
 let h33 := h26.bump 4
 let h34 := h33.put h26.next (.cells true 54 [])
 ldS h34 (.n h.next) 4 fun l36 =>
 (h34.rdSl l36.1 l36.2 2).bind fun new37 =>
 (bif (Nat.ble ((0 + l36.2) * 17) 35184372088832) then
 (h34.appSl (h26.next + 1) 54 2 (.loc (.n h26.next) 0 2) 0 l36.2 new37).bind fun r38 =>
 (AV.asSl r38.1).bind fun l39 =>
 let h40 := r38.2.put ((h26.next + 1) + 1) (.cells true 54 [(.i .i64 v32), (.i .u64 n6)])
 (h40.rdSl (.loc (.n ((h26.next + 1) + 1)) 0 2) 1 2).bind fun new41 =>
 (bif (Nat.ble ((l39.2 + 1) * 17) 35184372088832) then
 (h40.appSl (((h26.next + 1) + 1) + 1) 54 2 l39.1 l39.2 1 new41).bind fun r42 =>
 (AV.asSl r42.1).bind fun l43 =>
 (r42.2.st (.n h.next) 4 [(.sl l43.1 l43.2)]).bind fun h44 =>
 ldI h44 (.n h.next) 0 fun n46 =>
 ldS h44 (.n h.next) 1 fun l48 =>
 ldS h44 (.n h.next) 2 fun l50 =>
 ldI h44 (.n h.next) 3 fun n52 =>
 ldS h44 (.n h.next) 4 fun l54 =>
 (h44.st (.n (h.next + 1)) 0 [(.i .i64 n46), (.sl l48.1 l48.2), (.sl l50.1 l50.2), (.i .i64 n52), (.sl l54.1 l54.2)]).bind fun h55 =>
 ldI h55 (.n (h.next + 1)) 0 fun n57 =>
 ldS h55 (.n (h.next + 1)) 1 fun l59 =>
 ldS h55 (.n (h.next + 1)) 2 fun l61 =>
 ldI h55 (.n (h.next + 1)) 3 fun n63 =>
 ldS h55 (.n (h.next + 1)) 4 fun l65 =>
 some ((.tup [(.agg [(.i .i64 n57), (.sl l59.1 l59.2), (.sl l61.1 l61.2), (.i .i64 n63), (.sl l65.1 l65.2)]), (.i .i64 v32)]), h55)
 else none)
 else none)
 else none)
 else none
def haymowref18_Add : Sm O := frz (haymowref18_Add_c haymowref10_Take)
theorem haymowref18_Add_ent : Entered Tryz.prog 62 := Tryz.call62
theorem haymowref18_Add_run (k121 : Sm O) : run (O := O) Tryz.prog [(121, k121)] Tryz.f62 (.n .z (.n .z (.n .z (.n .z (.n .z .z))))) = haymowref18_Add_c k121 := by kernel_rfl
theorem haymowref18_Add_sound : FSound RO Tryz.prog 62 (haymowref18_Add) :=
   have h : FSound RO Tryz.prog 62 (haymowref18_Add_c haymowref10_Take) := (haymowref18_Add_run haymowref10_Take) ▸ run_sound (gcons haymowref10_Take_ent (haymowref10_Take_sound) <| gnil) mixed Tryz.func62 (by kernel_rfl) _
   h.frz
def chain_Table__get_c (k236 k139 : Sm O) : Sm O := fun xs h =>
 bif Nat.beq xs.length 3 then
 (AV.asAgg 5 (xs.getD 0 .u)).bind fun c0 =>
 (AV.asP (c0.getD 0 .u)).bind fun p1 =>
 gtI c0 1 fun n2 =>
 gtI c0 2 fun n3 =>
 gtI c0 3 fun n4 =>
 gtI c0 4 fun n5 =>
 gtI xs 1 fun n6 =>
 gtI xs 2 fun n7 =>
 let h8 := h.bump 1
 let h9 := h8.put h.next (.cells true 241 [(.p p1), (.i .i64 n2), (.i .i64 n3), (.i .i64 n4), (.i .i64 n5)])
 ldP h9 (.n h.next) 0 fun p11 =>
 ldI h9 (.n h.next) 1 fun n13 =>
 ldP h9 (.n h.next) 0 fun p15 =>
 ldI h9 (.n h.next) 1 fun n17 =>
 ldI h9 (.n h.next) 2 fun n19 =>
 ldI h9 (.n h.next) 3 fun n21 =>
 ldI h9 (.n h.next) 4 fun n23 =>
 (k236 [(.agg [(.p p15), (.i .i64 n17), (.i .i64 n19), (.i .i64 n21), (.i .i64 n23)]), (.i .i64 n6), (.i .i64 n7)] h9).bind fun r24 =>
 (AV.asI .i64 r24.1).bind fun n25 =>
 (chkE (r24.2.ld (.n h.next) 0) (some (.p p11))).bind fun _ =>
 (chkE (r24.2.ld (.n h.next) 1) (some (.i .i64 n13))).bind fun _ =>
 (k139 [(.p p11), (.i .i64 n13), (.i .i64 n25)] r24.2).bind fun r26 =>
 (AV.asTup 2 r26.1).bind fun c27 =>
 gtU c27 0 fun n28 =>
 gtI c27 1 fun n29 =>
 some ((.i .i64 (IntKind.i64.wrap n28)), r26.2)
 else none
def chain_Table__get : Sm O := chain_Table__get_c chain_Table__at mem_Mem__Read
theorem chain_Table__get_ent : Entered Tryz.prog 225 := Tryz.call225
theorem chain_Table__get_run (k236 k139 : Sm O) : run (O := O) Tryz.prog [(236, k236), (139, k139)] Tryz.f225 (.n .z (.n (.d [] [0, 1, 2, 3, 4, 5, 6, 7, 8, 9, 10, 11, 12, 13] [0, 1, 0, 4, 0, 0, 0, 112, 255, 511, 1023, 1023, 2047, 8191]) .z)) = chain_Table__get_c k236 k139 := by kernel_rfl
theorem chain_Table__get_sound : FSound RO Tryz.prog 225 chain_Table__get := sdf (chain_Table__get_run _ _) (gcons chain_Table__at_ent chain_Table__at_sound <| gcons mem_Mem__Read_ent mem_Mem__Read_sound <| gnil) Tryz.func225 (by kernel_rfl)
def chain_Table__Drop_c (k224 k225 k213 : Sm O) : Sm O := fun xs h =>
 bif Nat.beq xs.length 3 then
 (AV.asAgg 5 (xs.getD 0 .u)).bind fun c0 =>
 (AV.asP (c0.getD 0 .u)).bind fun p1 =>
 gtI c0 1 fun n2 =>
 gtI c0 2 fun n3 =>
 gtI c0 3 fun n4 =>
 gtI c0 4 fun n5 =>
 (AV.asAgg 3 (xs.getD 1 .u)).bind fun c6 =>
 gtI c6 0 fun n7 =>
 gtI c6 1 fun n8 =>
 gtI c6 2 fun n9 =>
 gtI xs 2 fun n10 =>
 let h11 := h.bump 3
 let h12 := h11.put h.next (.cells true 241 [(.p p1), (.i .i64 n2), (.i .i64 n3), (.i .i64 n4), (.i .i64 n5)])
 let h13 := h12.put (h.next + 1) (.cells true 196 [(.i .i64 n7), (.i .i64 n8), (.i .i64 n9)])
 let h14 := h13.put ((h.next + 1) + 1) (.cells true 196 [(.i .i64 0), (.i .i64 0), (.i .i64 0)])
 ldP h14 (.n h.next) 0 fun p16 =>
 ldI h14 (.n h.next) 1 fun n18 =>
 ldI h14 (.n h.next) 2 fun n20 =>
 ldI h14 (.n h.next) 3 fun n22 =>
 ldI h14 (.n h.next) 4 fun n24 =>
 (k224 [(.agg [(.p p16), (.i .i64 n18), (.i .i64 n20), (.i .i64 n22), (.i .i64 n24)]), (.i .i64 n10)] h14).bind fun r25 =>
 (AV.asI .i64 r25.1).bind fun n26 =>
 (bif ((n26 : Int) != 0) then
 ldI r25.2 (.n (h.next + 1)) 0 fun n28 =>
 ldI r25.2 (.n (h.next + 1)) 1 fun n30 =>
 ldI r25.2 (.n (h.next + 1)) 2 fun n32 =>
 (r25.2.st (.n ((h.next + 1) + 1)) 0 [(.i .i64 n28), (.i .i64 n30), (.i .i64 n32)]).bind fun h33 =>
 ldI h33 (.n ((h.next + 1) + 1)) 0 fun n35 =>
 ldI h33 (.n ((h.next + 1) + 1)) 1 fun n37 =>
 ldI h33 (.n ((h.next + 1) + 1)) 2 fun n39 =>
 some ((.tup [(.agg [(.i .i64 n35), (.i .i64 n37), (.i .i64 n39)]), (.i .i64 n26)]), h33)
 else ldP r25.2 (.n h.next) 0 fun p41 =>
 ldI r25.2 (.n h.next) 1 fun n43 =>
 ldI r25.2 (.n h.next) 2 fun n45 =>
 ldI r25.2 (.n h.next) 3 fun n47 =>
 ldI r25.2 (.n h.next) 4 fun n49 =>
 ldI r25.2 (.n h.next) 3 fun n51 =>
 ldP r25.2 (.n h.next) 0 fun p53 =>
 ldI r25.2 (.n h.next) 1 fun n55 =>
 ldI r25.2 (.n h.next) 2 fun n57 =>
 ldI r25.2 (.n h.next) 3 fun n59 =>
 ldI r25.2 (.n h.next) 4 fun n61 =>
 ldI r25.2 (.n h.next) 4 fun n63 =>
 (k225 [(.agg [(.p p41), (.i .i64 n43), (.i .i64 n45), (.i .i64 n47), (.i .i64 n49)]), (.i .i64 n10), (.i .i64 n51)] r25.2).bind fun r64 =>
 (AV.asI .i64 r64.1).bind fun n65 =>
 (chkE (r64.2.ld (.n h.next) 0) (some (.p p53))).bind fun _ =>
 (chkE (r64.2.ld (.n h.next) 1) (some (.i .i64 n55))).bind fun _ =>
 (chkE (r64.2.ld (.n h.next) 2) (some (.i .i64 n57))).bind fun _ =>
 (chkE (r64.2.ld (.n h.next) 3) (some (.i .i64 n59))).bind fun _ =>
 (chkE (r64.2.ld (.n h.next) 4) (some (.i .i64 n61))).bind fun _ =>
 (chkE (r64.2.ld (.n h.next) 4) (some (.i .i64 n63))).bind fun _ =>
 (k225 [(.agg [(.p p53), (.i .i64 n55), (.i .i64 n57), (.i .i64 n59), (.i .i64 n61)]), (.i .i64 n10), (.i .i64 n63)] r64.2).bind fun r66 =>
 (AV.asI .i64 r66.1).bind fun n67 =>
 ((bif ((n67 : Int) != 0) then
 ldP r66.2 (.n h.next) 0 fun p69 =>
 ldI r66.2 (.n h.next) 1 fun n71 =>
 ldI r66.2 (.n h.next) 2 fun n73 =>
 ldI r66.2 (.n h.next) 3 fun n75 =>
 ldI r66.2 (.n h.next) 4 fun n77 =>
 ldI r66.2 (.n h.next) 3 fun n79 =>
 (k213 [(.agg [(.p p69), (.i .i64 n71), (.i .i64 n73), (.i .i64 n75), (.i .i64 n77)]), (.i .i64 n67), (.i .i64 n79), (.i .i64 n65)] r66.2).bind fun r80 =>
 (AV.asTup 0 r80.1).bind fun c81 =>
 some ([], r80.2)
 else (r66.2.st (.n (h.next + 1)) 0 [(.i .i64 n65)]).bind fun h82 =>
 some ([], h82)) : Option (List AV × AH O)).bind fun r83 =>
 ((bif ((n65 : Int) != 0) then
 ldP r83.2 (.n h.next) 0 fun p85 =>
 ldI r83.2 (.n h.next) 1 fun n87 =>
 ldI r83.2 (.n h.next) 2 fun n89 =>
 ldI r83.2 (.n h.next) 3 fun n91 =>
 ldI r83.2 (.n h.next) 4 fun n93 =>
 ldI r83.2 (.n h.next) 4 fun n95 =>
 (k213 [(.agg [(.p p85), (.i .i64 n87), (.i .i64 n89), (.i .i64 n91), (.i .i64 n93)]), (.i .i64 n65), (.i .i64 n95), (.i .i64 n67)] r83.2).bind fun r96 =>
 (AV.asTup 0 r96.1).bind fun c97 =>
 some ([], r96.2)
 else (r83.2.st (.n (h.next + 1)) 1 [(.i .i64 n67)]).bind fun h98 =>
 some ([], h98)) : Option (List AV × AH O)).bind fun r99 =>
 ldI r99.2 (.n (h.next + 1)) 2 fun n101 =>
 (r99.2.st (.n (h.next + 1)) 2 [(.i .i64 (IntKind.i64.wrap (n101 - 1)))]).bind fun h102 =>
 ldI h102 (.n (h.next + 1)) 0 fun n104 =>
 ldI h102 (.n (h.next + 1)) 1 fun n106 =>
 ldI h102 (.n (h.next + 1)) 2 fun n108 =>
 (h102.st (.n ((h.next + 1) + 1)) 0 [(.i .i64 n104), (.i .i64 n106), (.i .i64 n108)]).bind fun h109 =>
 ldI h109 (.n ((h.next + 1) + 1)) 0 fun n111 =>
 ldI h109 (.n ((h.next + 1) + 1)) 1 fun n113 =>
 ldI h109 (.n ((h.next + 1) + 1)) 2 fun n115 =>
 some ((.tup [(.agg [(.i .i64 n111), (.i .i64 n113), (.i .i64 n115)]), (.i .i64 0)]), h109))
 else none
def chain_Table__Drop : Sm O := chain_Table__Drop_c chain_Table__check chain_Table__get chain_Table__set
theorem chain_Table__Drop_ent : Entered Tryz.prog 195 := Tryz.call195
theorem chain_Table__Drop_run (k224 k225 k213 : Sm O) : run (O := O) Tryz.prog [(224, k224), (225, k225), (213, k213)] Tryz.f195 (.n .z (.n (.n .z (.n .z (.n .z .z))) (.n (.d [] [0, 1, 2, 3, 5, 6, 7, 8, 4, 9, 10, 11] [0, 0, 0, 4, 15, 0, 0, 0, 128, 511, 1023, 2047]) (.n (.n .z (.j false [] .z .z)) (.n (.n .z (.j false [] .z .z)) (.n .z .z)))))) = chain_Table__Drop_c k224 k225 k213 := by kernel_rfl
theorem chain_Table__Drop_sound : FSound RO Tryz.prog 195 chain_Table__Drop := sdf (chain_Table__Drop_run _ _ _) (gcons chain_Table__check_ent chain_Table__check_sound <| gcons chain_Table__get_ent chain_Table__get_sound <| gcons chain_Table__set_ent chain_Table__set_sound <| gnil) Tryz.func195 (by kernel_rfl)
def pool_Pool__Give_c (k227 k202 k114 : Sm O) : Sm O := fun xs h =>
 bif Nat.beq xs.length 2 then
 (AV.asP (xs.getD 0 .u)).bind fun p0 =>
 gtI xs 1 fun n1 =>
 (k227 [(.p p0), (.i .i64 n1)] h).bind fun r2 =>
 (AV.asTup 2 r2.1).bind fun c3 =>
 gtU c3 0 fun n4 =>
 (AV.asB (c3.getD 1 .u)).bind fun b5 =>
 ((bif ((!b5) == false) then
 some ([(.b (((ibits .and .u64 n4 1) : Int) == 0))], r2.2)
 else some ([(.b true)], r2.2)) : Option (List AV × AH O)).bind fun r6 =>
 (AV.asB (r6.1.getD 0 .u)).bind fun b7 =>
 (bif b7 then
 some ((.i .i64 4), r6.2)
 else Option.bind p0 fun q8 =>
 ldP r6.2 q8.1 q8.2 fun p10 =>
 Option.bind p0 fun q11 =>
 ldI r6.2 q11.1 (q11.2 + 1) fun n13 =>
 let v14 : Int := (IntKind.u64.wrap ((IntKind.u64.wrap ((Int.fdiv n4 (2 ^ 1)) + 1)) * 2 ^ 1))
 (k202 [(.p p0), (.i .i64 n1), (.i .i64 (-1))] r6.2).bind fun r15 =>
 (AV.asI .i64 r15.1).bind fun n16 =>
 (chkE (r15.2.ld q8.1 q8.2) (some (.p p10))).bind fun _ =>
 (chkE (r15.2.ld q11.1 (q11.2 + 1)) (some (.i .i64 n13))).bind fun _ =>
 (k114 [(.p p10), (.i .i64 n13), (.i .i64 n16), (.i .u64 v14)] r15.2).bind fun r17 =>
 (AV.asI .i64 r17.1).bind fun n18 =>
 Option.bind p0 fun q19 =>
 ldP r17.2 q19.1 q19.2 fun p21 =>
 Option.bind p0 fun q22 =>
 ldI r17.2 q22.1 (q22.2 + 1) fun n24 =>
 Option.bind p0 fun q25 =>
 ldI r17.2 q25.1 (q25.2 + 5) fun n27 =>
 (k202 [(.p p0), (.i .i64 n1), (.i .i64 0)] r17.2).bind fun r28 =>
 (AV.asI .i64 r28.1).bind fun n29 =>
 (chkE (r28.2.ld q19.1 q19.2) (some (.p p21))).bind fun _ =>
 (chkE (r28.2.ld q22.1 (q22.2 + 1)) (some (.i .i64 n24))).bind fun _ =>
 (chkE (r28.2.ld q25.1 (q25.2 + 5)) (some (.i .i64 n27))).bind fun _ =>
 (k114 [(.p p21), (.i .i64 n24), (.i .i64 n29), (.i .u64 (IntKind.u64.wrap n27))] r28.2).bind fun r30 =>
 (AV.asI .i64 r30.1).bind fun n31 =>
 Option.bind p0 fun q32 =>
 (r30.2.st q32.1 (q32.2 + 5) [(.i .i64 n1)]).bind fun h33 =>
 Option.bind p0 fun q34 =>
 ldI h33 q34.1 (q34.2 + 6) fun n36 =>
 Option.bind p0 fun q37 =>
 (h33.st q37.1 (q37.2 + 6) [(.i .i64 (IntKind.i64.wrap (n36 - 1)))]).bind fun h38 =>
 some ((.i .i64 0), h38))
 else none
def pool_Pool__Give : Sm O := pool_Pool__Give_c pool_Pool__look pool_Pool__at mem_Mem__Write
theorem pool_Pool__Give_ent : Entered Tryz.prog 181 := Tryz.call181
theorem pool_Pool__Give_run (k227 k202 k114 : Sm O) : run (O := O) Tryz.prog [(227, k227), (202, k202), (114, k114)] Tryz.f181 (.n .z (.n .z (.n (.n (.g [(2, 3, [(19, .one .b)])]) (.n .z .z)) (.n (.d [] [0, 1, 2, 3, 4, 5, 6, 7, 8, 9, 11, 12, 13, 14, 10, 15] [0, 1, 3, 7, 0, 16, 48, 112, 0, 0, 768, 0, 2048, 6144, 14336, 32767]) (.n (.d [] [0, 1, 2, 3, 4, 5, 6, 7, 8, 9, 11, 12, 13, 14, 15, 10, 16] [0, 1, 3, 7, 0, 16, 48, 112, 0, 0, 768, 0, 2048, 6144, 14336, 30720, 65535]) (.n .z (.n .z .z))))))) = pool_Pool__Give_c k227 k202 k114 := by kernel_rfl
theorem pool_Pool__Give_sound : FSound RO Tryz.prog 181 pool_Pool__Give := sdf (pool_Pool__Give_run _ _ _) (gcons pool_Pool__look_ent pool_Pool__look_sound <| gcons pool_Pool__at_ent pool_Pool__at_sound <| gcons mem_Mem__Write_ent mem_Mem__Write_sound <| gnil) Tryz.func181 (by kernel_rfl)
def handles_Handles__Drop_c (k136 k185 k195 k181 : Sm O) : Sm O := fun xs h =>
 bif Nat.beq xs.length 2 then
 (AV.asP (xs.getD 0 .u)).bind fun p0 =>
 gtI xs 1 fun n1 =>
 (k136 [(.p p0), (.i .i64 n1)] h).bind fun r2 =>
 (AV.asTup 2 r2.1).bind fun c3 =>
 gtI c3 0 fun n4 =>
 gtI c3 1 fun n5 =>
 (bif ((n5 : Int) != 0) then
 some ((.i .i64 n5), r2.2)
 else Option.bind p0 fun q6 =>
 ldI r2.2 q6.1 (q6.2 + 1) fun n8 =>
 ldI r2.2 q6.1 ((q6.2 + 1) + 1) fun n10 =>
 ldI r2.2 q6.1 (((q6.2 + 1) + 1) + 1) fun n12 =>
 (k185 [(.p p0)] r2.2).bind fun r13 =>
 (AV.asAgg 5 r13.1).bind fun c14 =>
 (AV.asP (c14.getD 0 .u)).bind fun p15 =>
 gtI c14 1 fun n16 =>
 gtI c14 2 fun n17 =>
 gtI c14 3 fun n18 =>
 gtI c14 4 fun n19 =>
 (chkE (r13.2.ld q6.1 (q6.2 + 1)) (some (.i .i64 n8))).bind fun _ =>
 (chkE (r13.2.ld q6.1 ((q6.2 + 1) + 1)) (some (.i .i64 n10))).bind fun _ =>
 (chkE (r13.2.ld q6.1 (((q6.2 + 1) + 1) + 1)) (some (.i .i64 n12))).bind fun _ =>
 (k195 [(.agg [(.p p15), (.i .i64 n16), (.i .i64 n17), (.i .i64 n18), (.i .i64 n19)]), (.agg [(.i .i64 n8), (.i .i64 n10), (.i .i64 n12)]), (.i .i64 n4)] r13.2).bind fun r20 =>
 (AV.asTup 2 r20.1).bind fun c21 =>
 (AV.asAgg 3 (c21.getD 0 .u)).bind fun c22 =>
 gtI c22 0 fun n23 =>
 gtI c22 1 fun n24 =>
 gtI c22 2 fun n25 =>
 gtI c21 1 fun n26 =>
 Option.bind p0 fun q27 =>
 (r20.2.st q27.1 (q27.2 + 1) [(.i .i64 n23), (.i .i64 n24), (.i .i64 n25)]).bind fun h28 =>
 Option.bind p0 fun q29 =>
 ldP h28 q29.1 q29.2 fun p31 =>
 (k181 [(.p p31), (.i .i64 n4)] h28).bind fun r32 =>
 (AV.asI .i64 r32.1).bind fun n33 =>
 some ((.i .i64 n33), r32.2))
 else none
def handles_Handles__Drop : Sm O := handles_Handles__Drop_c handles_Handles__id handles_Handles__table chain_Table__Drop pool_Pool__Give
theorem handles_Handles__Drop_ent : Entered Tryz.prog 122 := Tryz.call122
theorem handles_Handles__Drop_run (k136 k185 k195 k181 : Sm O) : run (O := O) Tryz.prog [(136, k136), (185, k185), (195, k195), (181, k181)] Tryz.f122 (.n .z (.n .z (.n (.n .z (.n .z .z)) (.n (.d [] [0, 1, 3, 4, 5, 6, 7, 2, 8, 9, 10, 11, 12, 13, 14] [0, 0, 2, 0, 8, 24, 56, 0, 254, 510, 1022, 1022, 2047, 6143, 14335]) .z)))) = handles_Handles__Drop_c k136 k185 k195 k181 := by kernel_rfl
theorem handles_Handles__Drop_sound : FSound RO Tryz.prog 122 handles_Handles__Drop := sdf (handles_Handles__Drop_run _ _ _ _) (gcons handles_Handles__id_ent handles_Handles__id_sound <| gcons handles_Handles__table_ent handles_Handles__table_sound <| gcons chain_Table__Drop_ent chain_Table__Drop_sound <| gcons pool_Pool__Give_ent pool_Pool__Give_sound <| gnil) Tryz.func122 (by kernel_rfl)
def roots_Roots__Drop_c (k122 : Sm O) : Sm O := fun xs h =>
 bif Nat.beq xs.length 2 then
 (AV.asP (xs.getD 0 .u)).bind fun p0 =>
 gtI xs 1 fun n1 =>
 Option.bind p0 fun q2 =>
 ldP h q2.1 (q2.2 + 1) fun p4 =>
 (k122 [(.p p4), (.i .i64 n1)] h).bind fun r5 =>
 (AV.asI .i64 r5.1).bind fun n6 =>
 some ((.i .i64 n6), r5.2)
 else none
def roots_Roots__Drop : Sm O := roots_Roots__Drop_c handles_Handles__Drop
theorem roots_Roots__Drop_ent : Entered Tryz.prog 63 := Tryz.call63
theorem roots_Roots__Drop_run (k122 : Sm O) : run (O := O) Tryz.prog [(122, k122)] Tryz.f63 (.n .z .z) = roots_Roots__Drop_c k122 := by kernel_rfl
theorem roots_Roots__Drop_sound : FSound RO Tryz.prog 63 roots_Roots__Drop := sdf (roots_Roots__Drop_run _) (gcons handles_Handles__Drop_ent handles_Handles__Drop_sound <| gnil) Tryz.func63 (by kernel_rfl)
def haymowref18_At_L1 (h : AH O) (n6 : Int) : List AV × AH O -> Option ((List AV × AH O) ⊕ ((List AV × AH O) ⊕ (AV × AH O))) := (fun r9 =>
 (AV.asI .i64 (r9.1.getD 0 .u)).bind fun n10 =>
 ldS r9.2 (.n h.next) 4 fun l12 =>
 (bif (decide (n10 < (l12.2 : Int))) then
 ldS r9.2 (.n h.next) 4 fun l14 =>
 (bif ((decide ((0 : Int) <= n10)) && (decide (n10 < (l14.2 : Int)))) then
 (SA.ref l14.1).bind fun q15 =>
 ldI r9.2 q15.1 (q15.2 + (n10.toNat * 2)) fun n17 =>
 (bif ((n17 : Int) == n6) then
 ((some ((.i .i64 n10), r9.2) : Option (AV × AH O)).map fun r => Sum.inr (Sum.inr r))
 else some (Sum.inl ([(.i .i64 (IntKind.i64.wrap (n10 + 1)))], r9.2)))
 else none)
 else some (Sum.inr (Sum.inl ([], r9.2)))))
def haymowref18_At_c : Sm O := fun xs h =>
 bif Nat.beq xs.length 2 then
 (AV.asAgg 5 (xs.getD 0 .u)).bind fun c0 =>
 gtI c0 0 fun n1 =>
 gtS c0 1 fun l2 =>
 gtS c0 2 fun l3 =>
 gtI c0 3 fun n4 =>
 gtS c0 4 fun l5 =>
 gtI xs 1 fun n6 =>
 let h7 := h.bump 1
 let h8 := h7.put h.next (.cells true 34 [(.i .i64 n1), (.sl l2.1 l2.2), (.sl l3.1 l3.2), (.i .i64 n4), (.sl l5.1 l5.2)])
 bindS (S := List AV × AH O) (R := (AV × AH O)) (loopF (S := List AV × AH O) (T := (List AV × AH O) ⊕ (AV × AH O)) (haymowref18_At_L1 h n6) ([(.i .i64 0)], h8)) fun r18 =>
 some ((.i .i64 (-1)), r18.2)
 else none
def haymowref18_At : Sm O := haymowref18_At_c
theorem haymowref18_At_ent : Entered Tryz.prog 123 := Tryz.call123
theorem haymowref18_At_run : run (O := O) Tryz.prog [] Tryz.f123 (.n .z (.n (.n .z (.n (.lp true 0 [(5, .one (.i .i64))] [] (.n (.n .z .z) (.n (.n (.n .z (.n .z .z)) .z) .z))) .z)) .z)) = haymowref18_At_c  := by kernel_rfl
theorem haymowref18_At_sound : FSound RO Tryz.prog 123 haymowref18_At := sdf haymowref18_At_run (gnil) Tryz.func123 (by kernel_rfl)
def haymowref10_Is_c : Sm O := fun xs h =>
 bif Nat.beq xs.length 2 then
 (AV.asAgg 4 (xs.getD 0 .u)).bind fun c0 =>
 gtI c0 0 fun n1 =>
 gtS c0 1 fun l2 =>
 gtS c0 2 fun l3 =>
 gtI c0 3 fun n4 =>
 gtI xs 1 fun n5 =>
 let h6 := h.bump 1
 let h7 := h6.put h.next (.cells true 31 [(.i .i64 n1), (.sl l2.1 l2.2), (.sl l3.1 l3.2), (.i .i64 n4)])
 ((bif ((decide (n5 >= 1)) == true) then
 ldS h7 (.n h.next) 1 fun l9 =>
 some ([(.b (decide (n5 <= (l9.2 : Int))))], h7)
 else some ([(.b false)], h7)) : Option (List AV × AH O)).bind fun r10 =>
 (AV.asB (r10.1.getD 0 .u)).bind fun b11 =>
 ((bif (b11 == true) then
 ldS r10.2 (.n h.next) 1 fun l13 =>
 (bif ((decide ((0 : Int) <= (IntKind.i64.wrap (n5 - 1)))) && (decide ((IntKind.i64.wrap (n5 - 1)) < (l13.2 : Int)))) then
 (SA.ref l13.1).bind fun q14 =>
 (r10.2.ld q14.1 (q14.2 + ((IntKind.i64.wrap (n5 - 1)).toNat * 3))).bind fun w15 =>
 (AV.asB w15).bind fun b16 =>
 some ([(.b b16)], r10.2)
 else none)
 else some ([(.b false)], r10.2)) : Option (List AV × AH O)).bind fun r17 =>
 (AV.asB (r17.1.getD 0 .u)).bind fun b18 =>
 some ((.b b18), r17.2)
 else none
def haymowref10_Is : Sm O := haymowref10_Is_c
theorem haymowref10_Is_ent : Entered Tryz.prog 196 := Tryz.call196
theorem haymowref10_Is_run : run (O := O) Tryz.prog [] Tryz.f196 (.n .z (.n (.g [(2, 5, [(13, .one .b)]), (9, 7, [(22, .one .b)])]) .z)) = haymowref10_Is_c  := by kernel_rfl
theorem haymowref10_Is_sound : FSound RO Tryz.prog 196 haymowref10_Is := sdf haymowref10_Is_run (gnil) Tryz.func196 (by kernel_rfl)
def haymowref10_Give_c (k196 k194 : Sm O) : Sm O := fun xs h =>
 bif Nat.beq xs.length 2 then
 (AV.asAgg 4 (xs.getD 0 .u)).bind fun c0 =>
 gtI c0 0 fun n1 =>
 gtS c0 1 fun l2 =>
 gtS c0 2 fun l3 =>
 gtI c0 3 fun n4 =>
 gtI xs 1 fun n5 =>
 let h6 := h.bump 2
 let h7 := h6.put h.next (.cells true 31 [(.i .i64 n1), (.sl l2.1 l2.2), (.sl l3.1 l3.2), (.i .i64 n4)])
 let h8 := h7.put (h.next + 1) (.cells true 31 [(.i .i64 0), (.sl .nil 0), (.sl .nil 0), (.i .i64 0)])
 ldI h8 (.n h.next) 0 fun n10 =>
 ldS h8 (.n h.next) 1 fun l12 =>
 ldS h8 (.n h.next) 2 fun l14 =>
 ldI h8 (.n h.next) 3 fun n16 =>
 (k196 [(.agg [(.i .i64 n10), (.sl l12.1 l12.2), (.sl l14.1 l14.2), (.i .i64 n16)]), (.i .i64 n5)] h8).bind fun r17 =>
 (AV.asB r17.1).bind fun b18 =>
 (bif (!b18) then
 ldI r17.2 (.n h.next) 0 fun n20 =>
 ldS r17.2 (.n h.next) 1 fun l22 =>
 ldS r17.2 (.n h.next) 2 fun l24 =>
 ldI r17.2 (.n h.next) 3 fun n26 =>
 (r17.2.st (.n (h.next + 1)) 0 [(.i .i64 n20), (.sl l22.1 l22.2), (.sl l24.1 l24.2), (.i .i64 n26)]).bind fun h27 =>
 ldI h27 (.n (h.next + 1)) 0 fun n29 =>
 ldS h27 (.n (h.next + 1)) 1 fun l31 =>
 ldS h27 (.n (h.next + 1)) 2 fun l33 =>
 ldI h27 (.n (h.next + 1)) 3 fun n35 =>
 some ((.tup [(.agg [(.i .i64 n29), (.sl l31.1 l31.2), (.sl l33.1 l33.2), (.i .i64 n35)]), (.i .i64 4)]), h27)
 else ldI r17.2 (.n h.next) 0 fun n37 =>
 ldS r17.2 (.n h.next) 1 fun l39 =>
 ldS r17.2 (.n h.next) 2 fun l41 =>
 ldI r17.2 (.n h.next) 3 fun n43 =>
 (k194 [(.agg [(.i .i64 n37), (.sl l39.1 l39.2), (.sl l41.1 l41.2), (.i .i64 n43)])] r17.2).bind fun r44 =>
 (AV.asAgg 4 r44.1).bind fun c45 =>
 gtI c45 0 fun n46 =>
 gtS c45 1 fun l47 =>
 gtS c45 2 fun l48 =>
 gtI c45 3 fun n49 =>
 (r44.2.st (.n h.next) 0 [(.i .i64 n46), (.sl l47.1 l47.2), (.sl l48.1 l48.2), (.i .i64 n49)]).bind fun h50 =>
 ldS h50 (.n h.next) 1 fun l52 =>
 (bif ((decide ((0 : Int) <= (IntKind.i64.wrap (n5 - 1)))) && (decide ((IntKind.i64.wrap (n5 - 1)) < (l52.2 : Int)))) then
 (SA.ref l52.1).bind fun q53 =>
 (h50.st q53.1 (q53.2 + ((IntKind.i64.wrap (n5 - 1)).toNat * 3)) [(.b false)]).bind fun h54 =>
 ldS h54 (.n h.next) 1 fun l56 =>
 (bif ((decide ((0 : Int) <= (IntKind.i64.wrap (n5 - 1)))) && (decide ((IntKind.i64.wrap (n5 - 1)) < (l56.2 : Int)))) then
 (SA.ref l56.1).bind fun q57 =>
 ldI h54 q57.1 ((q57.2 + ((IntKind.i64.wrap (n5 - 1)).toNat * 3)) + 1) fun n59 =>
 (bif ((decide ((0 : Int) <= (IntKind.i64.wrap (n5 - 1)))) && (decide ((IntKind.i64.wrap (n5 - 1)) < (l56.2 : Int)))) then
 (SA.ref l56.1).bind fun q60 =>
 (h54.st q60.1 ((q60.2 + ((IntKind.i64.wrap (n5 - 1)).toNat * 3)) + 1) [(.i .i64 (IntKind.i64.wrap (n59 + 1)))]).bind fun h61 =>
 let h62 := h61.bump 2
 ldS h62 (.n h.next) 2 fun l64 =>
 let h65 := h62.put h61.next (.cells true 3 [(.i .i64 n5)])
 (h65.rdSl (.loc (.n h61.next) 0 1) 1 1).bind fun new66 =>
 (bif (Nat.ble ((l64.2 + 1) * 9) 35184372088832) then
 (h65.appSl (h61.next + 1) 3 1 l64.1 l64.2 1 new66).bind fun r67 =>
 (AV.asSl r67.1).bind fun l68 =>
 (r67.2.st (.n h.next) 2 [(.sl l68.1 l68.2)]).bind fun h69 =>
 ldI h69 (.n h.next) 0 fun n71 =>
 ldS h69 (.n h.next) 1 fun l73 =>
 ldS h69 (.n h.next) 2 fun l75 =>
 ldI h69 (.n h.next) 3 fun n77 =>
 (h69.st (.n (h.next + 1)) 0 [(.i .i64 n71), (.sl l73.1 l73.2), (.sl l75.1 l75.2), (.i .i64 n77)]).bind fun h78 =>
 ldI h78 (.n (h.next + 1)) 0 fun n80 =>
 ldS h78 (.n (h.next + 1)) 1 fun l82 =>
 ldS h78 (.n (h.next + 1)) 2 fun l84 =>
 ldI h78 (.n (h.next + 1)) 3 fun n86 =>
 some ((.tup [(.agg [(.i .i64 n80), (.sl l82.1 l82.2), (.sl l84.1 l84.2), (.i .i64 n86)]), (.i .i64 0)]), h78)
 else none)
 else none)
 else none)
 else none))
 else none
def haymowref10_Give : Sm O := frz (haymowref10_Give_c haymowref10_Is haymowref10_copied)
theorem haymowref10_Give_ent : Entered Tryz.prog 124 := Tryz.call124
theorem haymowref10_Give_run (k196 k194 : Sm O) : run (O := O) Tryz.prog [(196, k196), (194, k194)] Tryz.f124 (.n .z (.n (.n .z (.n .z .z)) (.n .z (.n .z (.n .z (.n .z .z)))))) = haymowref10_Give_c k196 k194 := by kernel_rfl
theorem haymowref10_Give_sound : FSound RO Tryz.prog 124 (haymowref10_Give) :=
   have h : FSound RO Tryz.prog 124 (haymowref10_Give_c haymowref10_Is haymowref10_copied) := (haymowref10_Give_run haymowref10_Is haymowref10_copied) ▸ run_sound (gcons haymowref10_Is_ent (haymowref10_Is_sound) <| gcons haymowref10_copied_ent (haymowref10_copied_sound) <| gnil) mixed Tryz.func124 (by kernel_rfl) _
   h.frz
def haymowref18_Drop_c (k123 k124 : Sm O) : Sm O := fun xs h =>
 bif Nat.beq xs.length 2 then
 (AV.asAgg 5 (xs.getD 0 .u)).bind fun c0 =>
 gtI c0 0 fun n1 =>
 gtS c0 1 fun l2 =>
 gtS c0 2 fun l3 =>
 gtI c0 3 fun n4 =>
 gtS c0 4 fun l5 =>
 gtI xs 1 fun n6 =>
 let h7 := h.bump 2
 let h8 := h7.put h.next (.cells true 34 [(.i .i64 n1), (.sl l2.1 l2.2), (.sl l3.1 l3.2), (.i .i64 n4), (.sl l5.1 l5.2)])
 let h9 := h8.put (h.next + 1) (.cells true 34 [(.i .i64 0), (.sl .nil 0), (.sl .nil 0), (.i .i64 0), (.sl .nil 0)])
 ldI h9 (.n h.next) 0 fun n11 =>
 ldS h9 (.n h.next) 1 fun l13 =>
 ldS h9 (.n h.next) 2 fun l15 =>
 ldI h9 (.n h.next) 3 fun n17 =>
 ldS h9 (.n h.next) 4 fun l19 =>
 (k123 [(.agg [(.i .i64 n11), (.sl l13.1 l13.2), (.sl l15.1 l15.2), (.i .i64 n17), (.sl l19.1 l19.2)]), (.i .i64 n6)] h9).bind fun r20 =>
 (AV.asI .i64 r20.1).bind fun n21 =>
 (bif (decide (n21 < 0)) then
 ldI r20.2 (.n h.next) 0 fun n23 =>
 ldS r20.2 (.n h.next) 1 fun l25 =>
 ldS r20.2 (.n h.next) 2 fun l27 =>
 ldI r20.2 (.n h.next) 3 fun n29 =>
 ldS r20.2 (.n h.next) 4 fun l31 =>
 (r20.2.st (.n (h.next + 1)) 0 [(.i .i64 n23), (.sl l25.1 l25.2), (.sl l27.1 l27.2), (.i .i64 n29), (.sl l31.1 l31.2)]).bind fun h32 =>
 ldI h32 (.n (h.next + 1)) 0 fun n34 =>
 ldS h32 (.n (h.next + 1)) 1 fun l36 =>
 ldS h32 (.n (h.next + 1)) 2 fun l38 =>
 ldI h32 (.n (h.next + 1)) 3 fun n40 =>
 ldS h32 (.n (h.next + 1)) 4 fun l42 =>
 some ((.tup [(.agg [(.i .i64 n34), (.sl l36.1 l36.2), (.sl l38.1 l38.2), (.i .i64 n40), (.sl l42.1 l42.2)]), (.i .i64 30)]), h32)
 else let h43 := r20.2.bump 3
 ldS h43 (.n h.next) 4 fun l45 =>
 (bif ((decide ((0 : Int) <= n21)) && (decide (n21 <= (l45.2 : Int)))) then
 (SA.adv l45.1 0 2).bind fun a46 =>
 ldS h43 (.n h.next) 4 fun l48 =>
 (bif (((decide ((0 : Int) <= (IntKind.i64.wrap (n21 + 1)))) && (decide ((IntKind.i64.wrap (n21 + 1)) <= (l48.2 : Int)))) && (decide ((l48.2 : Int) <= (l48.2 : Int)))) then
 (SA.adv l48.1 (IntKind.i64.wrap (n21 + 1)).toNat 2).bind fun a49 =>
 let h50 := h43.put r20.2.next (.cells true 54 [])
 (h50.rdSl a46 (n21.toNat - 0) 2).bind fun new51 =>
 (bif (Nat.ble ((0 + (n21.toNat - 0)) * 17) 35184372088832) then
 (h50.appSl (r20.2.next + 1) 54 2 (.loc (.n r20.2.next) 0 2) 0 (n21.toNat - 0) new51).bind fun r52 =>
 (AV.asSl r52.1).bind fun l53 =>
 (chkE (r52.2.ld (.n h.next) 4) (some (.sl l48.1 l48.2))).bind fun _ =>
 (r52.2.rdSl a49 ((l48.2 : Int).toNat - (IntKind.i64.wrap (n21 + 1)).toNat) 2).bind fun new54 =>
 (bif (Nat.ble ((l53.2 + ((l48.2 : Int).toNat - (IntKind.i64.wrap (n21 + 1)).toNat)) * 17) 35184372088832) then
 (r52.2.appSl ((r20.2.next + 1) + 1) 54 2 l53.1 l53.2 ((l48.2 : Int).toNat - (IntKind.i64.wrap (n21 + 1)).toNat) new54).bind fun r55 =>
 (AV.asSl r55.1).bind fun l56 =>
 (r55.2.st (.n h.next) 4 [(.sl l56.1 l56.2)]).bind fun h57 =>
 ldI h57 (.n h.next) 0 fun n59 =>
 ldS h57 (.n h.next) 1 fun l61 =>
 ldS h57 (.n h.next) 2 fun l63 =>
 ldI h57 (.n h.next) 3 fun n65 =>
 (k124 [(.agg [(.i .i64 n59), (.sl l61.1 l61.2), (.sl l63.1 l63.2), (.i .i64 n65)]), (.i .i64 (IntKind.i64.wrap ((Int.tmod n6 1048576) + 1)))] h57).bind fun r66 =>
 (AV.asTup 2 r66.1).bind fun c67 =>
 (AV.asAgg 4 (c67.getD 0 .u)).bind fun c68 =>
 gtI c68 0 fun n69 =>
 gtS c68 1 fun l70 =>
 gtS c68 2 fun l71 =>
 gtI c68 3 fun n72 =>
 gtI c67 1 fun n73 =>
 (r66.2.st (.n h.next) 0 [(.i .i64 n69), (.sl l70.1 l70.2), (.sl l71.1 l71.2), (.i .i64 n72)]).bind fun h74 =>
 ldI h74 (.n h.next) 0 fun n76 =>
 ldS h74 (.n h.next) 1 fun l78 =>
 ldS h74 (.n h.next) 2 fun l80 =>
 ldI h74 (.n h.next) 3 fun n82 =>
 ldS h74 (.n h.next) 4 fun l84 =>
 (h74.st (.n (h.next + 1)) 0 [(.i .i64 n76), (.sl l78.1 l78.2), (.sl l80.1 l80.2), (.i .i64 n82), (.sl l84.1 l84.2)]).bind fun h85 =>
 ldI h85 (.n (h.next + 1)) 0 fun n87 =>
 ldS h85 (.n (h.next + 1)) 1 fun l89 =>
 ldS h85 (.n (h.next + 1)) 2 fun l91 =>
 ldI h85 (.n (h.next + 1)) 3 fun n93 =>
 ldS h85 (.n (h.next + 1)) 4 fun l95 =>
 some ((.tup [(.agg [(.i .i64 n87), (.sl l89.1 l89.2), (.sl l91.1 l91.2), (.i .i64 n93), (.sl l95.1 l95.2)]), (.i .i64 0)]), h85)
 else none)
 else none)
 else none)
 else none))
 else none
def haymowref18_Drop : Sm O := frz (haymowref18_Drop_c haymowref18_At haymowref10_Give)
theorem haymowref18_Drop_ent : Entered Tryz.prog 64 := Tryz.call64
theorem haymowref18_Drop_run (k123 k124 : Sm O) : run (O := O) Tryz.prog [(123, k123), (124, k124)] Tryz.f64 (.n .z (.n .z (.n (.n .z (.n .z .z)) (.n (.d [] [1, 2, 3, 4, 6, 7, 8, 9, 10, 0, 5, 11, 12, 13] [0, 0, 2, 0, 14, 31, 0, 64, 0, 256, 960, 2047, 4095, 8191]) (.n .z .z))))) = haymowref18_Drop_c k123 k124 := by kernel_rfl
theorem haymowref18_Drop_sound : FSound RO Tryz.prog 64 (haymowref18_Drop) :=
   have h : FSound RO Tryz.prog 64 (haymowref18_Drop_c haymowref18_At haymowref10_Give) := (haymowref18_Drop_run haymowref18_At haymowref10_Give) ▸ run_sound (gcons haymowref18_At_ent (haymowref18_At_sound) <| gcons haymowref10_Give_ent (haymowref10_Give_sound) <| gnil) mixed Tryz.func64 (by kernel_rfl) _
   h.frz
def roots_Roots__AddWeak_c (k109 : Sm O) : Sm O := fun xs h =>
 bif Nat.beq xs.length 2 then
 (AV.asP (xs.getD 0 .u)).bind fun p0 =>
 gtU xs 1 fun n1 =>
 Option.bind p0 fun q2 =>
 ldP h q2.1 (q2.2 + 2) fun p4 =>
 (k109 [(.p p4), (.i .u64 n1)] h).bind fun r5 =>
 (AV.asTup 2 r5.1).bind fun c6 =>
 gtI c6 0 fun n7 =>
 gtI c6 1 fun n8 =>
 some ((.tup [(.i .i64 n7), (.i .i64 n8)]), r5.2)
 else none
def roots_Roots__AddWeak : Sm O := roots_Roots__AddWeak_c handles_Handles__Add
theorem roots_Roots__AddWeak_ent : Entered Tryz.prog 52 := Tryz.call52
theorem roots_Roots__AddWeak_run (k109 : Sm O) : run (O := O) Tryz.prog [(109, k109)] Tryz.f52 (.n .z .z) = roots_Roots__AddWeak_c k109 := by kernel_rfl
theorem roots_Roots__AddWeak_sound : FSound RO Tryz.prog 52 roots_Roots__AddWeak := sdf (roots_Roots__AddWeak_run _) (gcons handles_Handles__Add_ent handles_Handles__Add_sound <| gnil) Tryz.func52 (by kernel_rfl)
def roots_Roots__DropWeak_c (k122 : Sm O) : Sm O := fun xs h =>
 bif Nat.beq xs.length 2 then
 (AV.asP (xs.getD 0 .u)).bind fun p0 =>
 gtI xs 1 fun n1 =>
 Option.bind p0 fun q2 =>
 ldP h q2.1 (q2.2 + 2) fun p4 =>
 (k122 [(.p p4), (.i .i64 n1)] h).bind fun r5 =>
 (AV.asI .i64 r5.1).bind fun n6 =>
 some ((.i .i64 n6), r5.2)
 else none
def roots_Roots__DropWeak : Sm O := roots_Roots__DropWeak_c handles_Handles__Drop
theorem roots_Roots__DropWeak_ent : Entered Tryz.prog 125 := Tryz.call125
theorem roots_Roots__DropWeak_run (k122 : Sm O) : run (O := O) Tryz.prog [(122, k122)] Tryz.f125 (.n .z .z) = roots_Roots__DropWeak_c k122 := by kernel_rfl
theorem roots_Roots__DropWeak_sound : FSound RO Tryz.prog 125 roots_Roots__DropWeak := sdf (roots_Roots__DropWeak_run _) (gcons handles_Handles__Drop_ent handles_Handles__Drop_sound <| gnil) Tryz.func125 (by kernel_rfl)
def roots_Roots__Weak_c (k72 : Sm O) : Sm O := fun xs h =>
 bif Nat.beq xs.length 2 then
 (AV.asP (xs.getD 0 .u)).bind fun p0 =>
 gtI xs 1 fun n1 =>
 Option.bind p0 fun q2 =>
 ldP h q2.1 (q2.2 + 2) fun p4 =>
 (k72 [(.p p4), (.i .i64 n1)] h).bind fun r5 =>
 (AV.asTup 2 r5.1).bind fun c6 =>
 gtU c6 0 fun n7 =>
 gtI c6 1 fun n8 =>
 some ((.tup [(.i .u64 n7), (.i .i64 n8)]), r5.2)
 else none
def roots_Roots__Weak : Sm O := roots_Roots__Weak_c handles_Handles__Get
theorem roots_Roots__Weak_ent : Entered Tryz.prog 54 := Tryz.call54
theorem roots_Roots__Weak_run (k72 : Sm O) : run (O := O) Tryz.prog [(72, k72)] Tryz.f54 (.n .z .z) = roots_Roots__Weak_c k72 := by kernel_rfl
theorem roots_Roots__Weak_sound : FSound RO Tryz.prog 54 roots_Roots__Weak := sdf (roots_Roots__Weak_run _) (gcons handles_Handles__Get_ent handles_Handles__Get_sound <| gnil) Tryz.func54 (by kernel_rfl)
def law19_weak_c (k52 k62 k125 k64 k54 k123 : Sm O) : Sm O := fun xs h =>
 bif Nat.beq xs.length 3 then
 (AV.asP (xs.getD 0 .u)).bind fun p0 =>
 (AV.asAgg 11 (xs.getD 1 .u)).bind fun c1 =>
 gtS c1 0 fun l2 =>
 gtI c1 1 fun n3 =>
 gtS c1 2 fun l4 =>
 gtS c1 3 fun l5 =>
 gtI c1 4 fun n6 =>
 gtS c1 5 fun l7 =>
 gtI c1 6 fun n8 =>
 gtS c1 7 fun l9 =>
 gtS c1 8 fun l10 =>
 gtI c1 9 fun n11 =>
 gtS c1 10 fun l12 =>
 (AV.asAgg 3 (xs.getD 2 .u)).bind fun c13 =>
 gtI c13 0 fun n14 =>
 gtI c13 1 fun n15 =>
 gtU c13 2 fun n16 =>
 let h17 := h.bump 3
 let h18 := h17.put h.next (.cells true 36 [(.sl l2.1 l2.2), (.i .i64 n3), (.sl l4.1 l4.2), (.sl l5.1 l5.2), (.i .i64 n6), (.sl l7.1 l7.2), (.i .i64 n8), (.sl l9.1 l9.2), (.sl l10.1 l10.2), (.i .i64 n11), (.sl l12.1 l12.2)])
 let h19 := h18.put (h.next + 1) (.cells true 42 [(.i .i64 n14), (.i .i64 n15), (.i .u64 n16)])
 let h20 := h19.put ((h.next + 1) + 1) (.cells true 36 [(.sl .nil 0), (.i .i64 0), (.sl .nil 0), (.sl .nil 0), (.i .i64 0), (.sl .nil 0), (.i .i64 0), (.sl .nil 0), (.sl .nil 0), (.i .i64 0), (.sl .nil 0)])
 ldI h20 (.n (h.next + 1)) 0 fun n22 =>
 (bif ((n22 : Int) == 4) then
 ldU h20 (.n (h.next + 1)) 2 fun n24 =>
 (k52 [(.p p0), (.i .u64 n24)] h20).bind fun r25 =>
 (AV.asTup 2 r25.1).bind fun c26 =>
 gtI c26 0 fun n27 =>
 gtI c26 1 fun n28 =>
 ldI r25.2 (.n h.next) 6 fun n30 =>
 ldS r25.2 (.n h.next) 7 fun l32 =>
 ldS r25.2 (.n h.next) 8 fun l34 =>
 ldI r25.2 (.n h.next) 9 fun n36 =>
 ldS r25.2 (.n h.next) 10 fun l38 =>
 ldU r25.2 (.n (h.next + 1)) 2 fun n40 =>
 (k62 [(.agg [(.i .i64 n30), (.sl l32.1 l32.2), (.sl l34.1 l34.2), (.i .i64 n36), (.sl l38.1 l38.2)]), (.i .u64 n40)] r25.2).bind fun r41 =>
 (AV.asTup 2 r41.1).bind fun c42 =>
 (AV.asAgg 5 (c42.getD 0 .u)).bind fun c43 =>
 gtI c43 0 fun n44 =>
 gtS c43 1 fun l45 =>
 gtS c43 2 fun l46 =>
 gtI c43 3 fun n47 =>
 gtS c43 4 fun l48 =>
 gtI c42 1 fun n49 =>
 (r41.2.st (.n h.next) 6 [(.i .i64 n44), (.sl l45.1 l45.2), (.sl l46.1 l46.2), (.i .i64 n47), (.sl l48.1 l48.2)]).bind fun h50 =>
 ldS h50 (.n h.next) 0 fun l52 =>
 ldI h50 (.n h.next) 1 fun n54 =>
 ldS h50 (.n h.next) 2 fun l56 =>
 ldS h50 (.n h.next) 3 fun l58 =>
 ldI h50 (.n h.next) 4 fun n60 =>
 ldS h50 (.n h.next) 5 fun l62 =>
 ldI h50 (.n h.next) 6 fun n64 =>
 ldS h50 (.n h.next) 7 fun l66 =>
 ldS h50 (.n h.next) 8 fun l68 =>
 ldI h50 (.n h.next) 9 fun n70 =>
 ldS h50 (.n h.next) 10 fun l72 =>
 ((bif (((n27 : Int) == n49) == true) then
 some ([(.b ((n28 : Int) == 0))], h50)
 else some ([(.b false)], h50)) : Option (List AV × AH O)).bind fun r73 =>
 (AV.asB (r73.1.getD 0 .u)).bind fun b74 =>
 (r73.2.st (.n ((h.next + 1) + 1)) 0 [(.sl l52.1 l52.2), (.i .i64 n54), (.sl l56.1 l56.2), (.sl l58.1 l58.2), (.i .i64 n60), (.sl l62.1 l62.2), (.i .i64 n64), (.sl l66.1 l66.2), (.sl l68.1 l68.2), (.i .i64 n70), (.sl l72.1 l72.2)]).bind fun h75 =>
 ldS h75 (.n ((h.next + 1) + 1)) 0 fun l77 =>
 ldI h75 (.n ((h.next + 1) + 1)) 1 fun n79 =>
 ldS h75 (.n ((h.next + 1) + 1)) 2 fun l81 =>
 ldS h75 (.n ((h.next + 1) + 1)) 3 fun l83 =>
 ldI h75 (.n ((h.next + 1) + 1)) 4 fun n85 =>
 ldS h75 (.n ((h.next + 1) + 1)) 5 fun l87 =>
 ldI h75 (.n ((h.next + 1) + 1)) 6 fun n89 =>
 ldS h75 (.n ((h.next + 1) + 1)) 7 fun l91 =>
 ldS h75 (.n ((h.next + 1) + 1)) 8 fun l93 =>
 ldI h75 (.n ((h.next + 1) + 1)) 9 fun n95 =>
 ldS h75 (.n ((h.next + 1) + 1)) 10 fun l97 =>
 some ((.tup [(.agg [(.sl l77.1 l77.2), (.i .i64 n79), (.sl l81.1 l81.2), (.sl l83.1 l83.2), (.i .i64 n85), (.sl l87.1 l87.2), (.i .i64 n89), (.sl l91.1 l91.2), (.sl l93.1 l93.2), (.i .i64 n95), (.sl l97.1 l97.2)]), (.b b74)]), h75)
 else (bif ((n22 : Int) == 5) then
 ldI h20 (.n (h.next + 1)) 1 fun n99 =>
 (k125 [(.p p0), (.i .i64 n99)] h20).bind fun r100 =>
 (AV.asI .i64 r100.1).bind fun n101 =>
 ldI r100.2 (.n h.next) 6 fun n103 =>
 ldS r100.2 (.n h.next) 7 fun l105 =>
 ldS r100.2 (.n h.next) 8 fun l107 =>
 ldI r100.2 (.n h.next) 9 fun n109 =>
 ldS r100.2 (.n h.next) 10 fun l111 =>
 ldI r100.2 (.n (h.next + 1)) 1 fun n113 =>
 (k64 [(.agg [(.i .i64 n103), (.sl l105.1 l105.2), (.sl l107.1 l107.2), (.i .i64 n109), (.sl l111.1 l111.2)]), (.i .i64 n113)] r100.2).bind fun r114 =>
 (AV.asTup 2 r114.1).bind fun c115 =>
 (AV.asAgg 5 (c115.getD 0 .u)).bind fun c116 =>
 gtI c116 0 fun n117 =>
 gtS c116 1 fun l118 =>
 gtS c116 2 fun l119 =>
 gtI c116 3 fun n120 =>
 gtS c116 4 fun l121 =>
 gtI c115 1 fun n122 =>
 (r114.2.st (.n h.next) 6 [(.i .i64 n117), (.sl l118.1 l118.2), (.sl l119.1 l119.2), (.i .i64 n120), (.sl l121.1 l121.2)]).bind fun h123 =>
 ldS h123 (.n h.next) 0 fun l125 =>
 ldI h123 (.n h.next) 1 fun n127 =>
 ldS h123 (.n h.next) 2 fun l129 =>
 ldS h123 (.n h.next) 3 fun l131 =>
 ldI h123 (.n h.next) 4 fun n133 =>
 ldS h123 (.n h.next) 5 fun l135 =>
 ldI h123 (.n h.next) 6 fun n137 =>
 ldS h123 (.n h.next) 7 fun l139 =>
 ldS h123 (.n h.next) 8 fun l141 =>
 ldI h123 (.n h.next) 9 fun n143 =>
 ldS h123 (.n h.next) 10 fun l145 =>
 (h123.st (.n ((h.next + 1) + 1)) 0 [(.sl l125.1 l125.2), (.i .i64 n127), (.sl l129.1 l129.2), (.sl l131.1 l131.2), (.i .i64 n133), (.sl l135.1 l135.2), (.i .i64 n137), (.sl l139.1 l139.2), (.sl l141.1 l141.2), (.i .i64 n143), (.sl l145.1 l145.2)]).bind fun h146 =>
 ldS h146 (.n ((h.next + 1) + 1)) 0 fun l148 =>
 ldI h146 (.n ((h.next + 1) + 1)) 1 fun n150 =>
 ldS h146 (.n ((h.next + 1) + 1)) 2 fun l152 =>
 ldS h146 (.n ((h.next + 1) + 1)) 3 fun l154 =>
 ldI h146 (.n ((h.next + 1) + 1)) 4 fun n156 =>
 ldS h146 (.n ((h.next + 1) + 1)) 5 fun l158 =>
 ldI h146 (.n ((h.next + 1) + 1)) 6 fun n160 =>
 ldS h146 (.n ((h.next + 1) + 1)) 7 fun l162 =>
 ldS h146 (.n ((h.next + 1) + 1)) 8 fun l164 =>
 ldI h146 (.n ((h.next + 1) + 1)) 9 fun n166 =>
 ldS h146 (.n ((h.next + 1) + 1)) 10 fun l168 =>
 some ((.tup [(.agg [(.sl l148.1 l148.2), (.i .i64 n150), (.sl l152.1 l152.2), (.sl l154.1 l154.2), (.i .i64 n156), (.sl l158.1 l158.2), (.i .i64 n160), (.sl l162.1 l162.2), (.sl l164.1 l164.2), (.i .i64 n166), (.sl l168.1 l168.2)]), (.b ((n101 : Int) == n122))]), h146)
 else ldI h20 (.n (h.next + 1)) 1 fun n170 =>
 (k54 [(.p p0), (.i .i64 n170)] h20).bind fun r171 =>
 (AV.asTup 2 r171.1).bind fun c172 =>
 gtU c172 0 fun n173 =>
 gtI c172 1 fun n174 =>
 ldI r171.2 (.n h.next) 6 fun n176 =>
 ldS r171.2 (.n h.next) 7 fun l178 =>
 ldS r171.2 (.n h.next) 8 fun l180 =>
 ldI r171.2 (.n h.next) 9 fun n182 =>
 ldS r171.2 (.n h.next) 10 fun l184 =>
 ldI r171.2 (.n (h.next + 1)) 1 fun n186 =>
 (k123 [(.agg [(.i .i64 n176), (.sl l178.1 l178.2), (.sl l180.1 l180.2), (.i .i64 n182), (.sl l184.1 l184.2)]), (.i .i64 n186)] r171.2).bind fun r187 =>
 (AV.asI .i64 r187.1).bind fun n188 =>
 (bif (decide (n188 < 0)) then
 ldS r187.2 (.n h.next) 0 fun l190 =>
 ldI r187.2 (.n h.next) 1 fun n192 =>
 ldS r187.2 (.n h.next) 2 fun l194 =>
 ldS r187.2 (.n h.next) 3 fun l196 =>
 ldI r187.2 (.n h.next) 4 fun n198 =>
 ldS r187.2 (.n h.next) 5 fun l200 =>
 ldI r187.2 (.n h.next) 6 fun n202 =>
 ldS r187.2 (.n h.next) 7 fun l204 =>
 ldS r187.2 (.n h.next) 8 fun l206 =>
 ldI r187.2 (.n h.next) 9 fun n208 =>
 ldS r187.2 (.n h.next) 10 fun l210 =>
 ((bif (((n173 : Int) == 0) == true) then
 some ([(.b ((n174 : Int) == 30))], r187.2)
 else some ([(.b false)], r187.2)) : Option (List AV × AH O)).bind fun r211 =>
 (AV.asB (r211.1.getD 0 .u)).bind fun b212 =>
 (r211.2.st (.n ((h.next + 1) + 1)) 0 [(.sl l190.1 l190.2), (.i .i64 n192), (.sl l194.1 l194.2), (.sl l196.1 l196.2), (.i .i64 n198), (.sl l200.1 l200.2), (.i .i64 n202), (.sl l204.1 l204.2), (.sl l206.1 l206.2), (.i .i64 n208), (.sl l210.1 l210.2)]).bind fun h213 =>
 ldS h213 (.n ((h.next + 1) + 1)) 0 fun l215 =>
 ldI h213 (.n ((h.next + 1) + 1)) 1 fun n217 =>
 ldS h213 (.n ((h.next + 1) + 1)) 2 fun l219 =>
 ldS h213 (.n ((h.next + 1) + 1)) 3 fun l221 =>
 ldI h213 (.n ((h.next + 1) + 1)) 4 fun n223 =>
 ldS h213 (.n ((h.next + 1) + 1)) 5 fun l225 =>
 ldI h213 (.n ((h.next + 1) + 1)) 6 fun n227 =>
 ldS h213 (.n ((h.next + 1) + 1)) 7 fun l229 =>
 ldS h213 (.n ((h.next + 1) + 1)) 8 fun l231 =>
 ldI h213 (.n ((h.next + 1) + 1)) 9 fun n233 =>
 ldS h213 (.n ((h.next + 1) + 1)) 10 fun l235 =>
 some ((.tup [(.agg [(.sl l215.1 l215.2), (.i .i64 n217), (.sl l219.1 l219.2), (.sl l221.1 l221.2), (.i .i64 n223), (.sl l225.1 l225.2), (.i .i64 n227), (.sl l229.1 l229.2), (.sl l231.1 l231.2), (.i .i64 n233), (.sl l235.1 l235.2)]), (.b b212)]), h213)
 else ldS r187.2 (.n h.next) 0 fun l237 =>
 ldI r187.2 (.n h.next) 1 fun n239 =>
 ldS r187.2 (.n h.next) 2 fun l241 =>
 ldS r187.2 (.n h.next) 3 fun l243 =>
 ldI r187.2 (.n h.next) 4 fun n245 =>
 ldS r187.2 (.n h.next) 5 fun l247 =>
 ldI r187.2 (.n h.next) 6 fun n249 =>
 ldS r187.2 (.n h.next) 7 fun l251 =>
 ldS r187.2 (.n h.next) 8 fun l253 =>
 ldI r187.2 (.n h.next) 9 fun n255 =>
 ldS r187.2 (.n h.next) 10 fun l257 =>
 ldS r187.2 (.n h.next) 10 fun l259 =>
 (bif ((decide ((0 : Int) <= n188)) && (decide (n188 < (l259.2 : Int)))) then
 (SA.ref l259.1).bind fun q260 =>
 ldU r187.2 q260.1 ((q260.2 + (n188.toNat * 2)) + 1) fun n262 =>
 ((bif (((n173 : Int) == n262) == true) then
 some ([(.b ((n174 : Int) == 0))], r187.2)
 else some ([(.b false)], r187.2)) : Option (List AV × AH O)).bind fun r263 =>
 (AV.asB (r263.1.getD 0 .u)).bind fun b264 =>
 (r263.2.st (.n ((h.next + 1) + 1)) 0 [(.sl l237.1 l237.2), (.i .i64 n239), (.sl l241.1 l241.2), (.sl l243.1 l243.2), (.i .i64 n245), (.sl l247.1 l247.2), (.i .i64 n249), (.sl l251.1 l251.2), (.sl l253.1 l253.2), (.i .i64 n255), (.sl l257.1 l257.2)]).bind fun h265 =>
 ldS h265 (.n ((h.next + 1) + 1)) 0 fun l267 =>
 ldI h265 (.n ((h.next + 1) + 1)) 1 fun n269 =>
 ldS h265 (.n ((h.next + 1) + 1)) 2 fun l271 =>
 ldS h265 (.n ((h.next + 1) + 1)) 3 fun l273 =>
 ldI h265 (.n ((h.next + 1) + 1)) 4 fun n275 =>
 ldS h265 (.n ((h.next + 1) + 1)) 5 fun l277 =>
 ldI h265 (.n ((h.next + 1) + 1)) 6 fun n279 =>
 ldS h265 (.n ((h.next + 1) + 1)) 7 fun l281 =>
 ldS h265 (.n ((h.next + 1) + 1)) 8 fun l283 =>
 ldI h265 (.n ((h.next + 1) + 1)) 9 fun n285 =>
 ldS h265 (.n ((h.next + 1) + 1)) 10 fun l287 =>
 some ((.tup [(.agg [(.sl l267.1 l267.2), (.i .i64 n269), (.sl l271.1 l271.2), (.sl l273.1 l273.2), (.i .i64 n275), (.sl l277.1 l277.2), (.i .i64 n279), (.sl l281.1 l281.2), (.sl l283.1 l283.2), (.i .i64 n285), (.sl l287.1 l287.2)]), (.b b264)]), h265)
 else none))))
 else none
def law19_weak : Sm O := law19_weak_c roots_Roots__AddWeak haymowref18_Add roots_Roots__DropWeak haymowref18_Drop roots_Roots__Weak haymowref18_At
theorem law19_weak_ent : Entered Tryz.prog 65 := Tryz.call65
theorem law19_weak_run (k52 k62 k125 k64 k54 k123 : Sm O) : run (O := O) Tryz.prog [(52, k52), (62, k62), (125, k125), (64, k64), (54, k54), (123, k123)] Tryz.f65 (.n .z (.n .z (.n (.n .z (.n (.n .z (.n (.n .z (.n .z (.n (.g [(4, 2, [(43, .one .b)])]) .z))) (.n .z (.n (.n .z (.n .z .z)) .z)))) .z)) (.n .z (.n .z (.n (.n .z (.n (.n (.g [(3, 2, [(83, .one .b)])]) .z) .z)) (.n (.d [(10, 2, [(97, .one .b)])] [0, 1, 2, 3, 4, 5, 6, 7, 8, 9, 10, 11, 12, 13, 14, 15] [0, 0, 0, 4, 12, 0, 60, 124, 252, 510, 1022, 2046, 4094, 8190, 2047, 32767]) .z))))))) = law19_weak_c k52 k62 k125 k64 k54 k123 := by kernel_rfl
theorem law19_weak_sound : FSound RO Tryz.prog 65 law19_weak := sdf (law19_weak_run _ _ _ _ _ _) (gcons roots_Roots__AddWeak_ent roots_Roots__AddWeak_sound <| gcons haymowref18_Add_ent haymowref18_Add_sound <| gcons roots_Roots__DropWeak_ent roots_Roots__DropWeak_sound <| gcons haymowref18_Drop_ent haymowref18_Drop_sound <| gcons roots_Roots__Weak_ent roots_Roots__Weak_sound <| gcons haymowref18_At_ent haymowref18_At_sound <| gnil) Tryz.func65 (by kernel_rfl)
def haymowref18_Set_c (k123 : Sm O) : Sm O := fun xs h =>
 bif Nat.beq xs.length 3 then
 (AV.asAgg 5 (xs.getD 0 .u)).bind fun c0 =>
 gtI c0 0 fun n1 =>
 gtS c0 1 fun l2 =>
 gtS c0 2 fun l3 =>
 gtI c0 3 fun n4 =>
 gtS c0 4 fun l5 =>
 gtI xs 1 fun n6 =>
 gtU xs 2 fun n7 =>
 let h8 := h.bump 2
 let h9 := h8.put h.next (.cells true 34 [(.i .i64 n1), (.sl l2.1 l2.2), (.sl l3.1 l3.2), (.i .i64 n4), (.sl l5.1 l5.2)])
 let h10 := h9.put (h.next + 1) (.cells true 34 [(.i .i64 0), (.sl .nil 0), (.sl .nil 0), (.i .i64 0), (.sl .nil 0)])
 ldI h10 (.n h.next) 0 fun n12 =>
 ldS h10 (.n h.next) 1 fun l14 =>
 ldS h10 (.n h.next) 2 fun l16 =>
 ldI h10 (.n h.next) 3 fun n18 =>
 ldS h10 (.n h.next) 4 fun l20 =>
 (k123 [(.agg [(.i .i64 n12), (.sl l14.1 l14.2), (.sl l16.1 l16.2), (.i .i64 n18), (.sl l20.1 l20.2)]), (.i .i64 n6)] h10).bind fun r21 =>
 (AV.asI .i64 r21.1).bind fun n22 =>
 (bif (decide (n22 < 0)) then
 ldI r21.2 (.n h.next) 0 fun n24 =>
 ldS r21.2 (.n h.next) 1 fun l26 =>
 ldS r21.2 (.n h.next) 2 fun l28 =>
 ldI r21.2 (.n h.next) 3 fun n30 =>
 ldS r21.2 (.n h.next) 4 fun l32 =>
 (r21.2.st (.n (h.next + 1)) 0 [(.i .i64 n24), (.sl l26.1 l26.2), (.sl l28.1 l28.2), (.i .i64 n30), (.sl l32.1 l32.2)]).bind fun h33 =>
 ldI h33 (.n (h.next + 1)) 0 fun n35 =>
 ldS h33 (.n (h.next + 1)) 1 fun l37 =>
 ldS h33 (.n (h.next + 1)) 2 fun l39 =>
 ldI h33 (.n (h.next + 1)) 3 fun n41 =>
 ldS h33 (.n (h.next + 1)) 4 fun l43 =>
 some ((.tup [(.agg [(.i .i64 n35), (.sl l37.1 l37.2), (.sl l39.1 l39.2), (.i .i64 n41), (.sl l43.1 l43.2)]), (.i .i64 30)]), h33)
 else let h44 := r21.2.bump 2
 let h45 := h44.put r21.2.next (.cells true 54 [])
 ldS h45 (.n h.next) 4 fun l47 =>
 (h45.rdSl l47.1 l47.2 2).bind fun new48 =>
 (bif (Nat.ble ((0 + l47.2) * 17) 35184372088832) then
 (h45.appSl (r21.2.next + 1) 54 2 (.loc (.n r21.2.next) 0 2) 0 l47.2 new48).bind fun r49 =>
 (AV.asSl r49.1).bind fun l50 =>
 (r49.2.st (.n h.next) 4 [(.sl l50.1 l50.2)]).bind fun h51 =>
 ldS h51 (.n h.next) 4 fun l53 =>
 (bif ((decide ((0 : Int) <= n22)) && (decide (n22 < (l53.2 : Int)))) then
 (SA.ref l53.1).bind fun q54 =>
 (h51.st q54.1 ((q54.2 + (n22.toNat * 2)) + 1) [(.i .u64 n7)]).bind fun h55 =>
 ldI h55 (.n h.next) 0 fun n57 =>
 ldS h55 (.n h.next) 1 fun l59 =>
 ldS h55 (.n h.next) 2 fun l61 =>
 ldI h55 (.n h.next) 3 fun n63 =>
 ldS h55 (.n h.next) 4 fun l65 =>
 (h55.st (.n (h.next + 1)) 0 [(.i .i64 n57), (.sl l59.1 l59.2), (.sl l61.1 l61.2), (.i .i64 n63), (.sl l65.1 l65.2)]).bind fun h66 =>
 ldI h66 (.n (h.next + 1)) 0 fun n68 =>
 ldS h66 (.n (h.next + 1)) 1 fun l70 =>
 ldS h66 (.n (h.next + 1)) 2 fun l72 =>
 ldI h66 (.n (h.next + 1)) 3 fun n74 =>
 ldS h66 (.n (h.next + 1)) 4 fun l76 =>
 some ((.tup [(.agg [(.i .i64 n68), (.sl l70.1 l70.2), (.sl l72.1 l72.2), (.i .i64 n74), (.sl l76.1 l76.2)]), (.i .i64 0)]), h66)
 else none)
 else none))
 else none
def haymowref18_Set : Sm O := frz (haymowref18_Set_c haymowref18_At)
theorem haymowref18_Set_ent : Entered Tryz.prog 126 := Tryz.call126
theorem haymowref18_Set_run (k123 : Sm O) : run (O := O) Tryz.prog [(123, k123)] Tryz.f126 (.n .z (.n .z (.n (.n .z (.n .z .z)) (.n .z (.n .z .z))))) = haymowref18_Set_c k123 := by kernel_rfl
theorem haymowref18_Set_sound : FSound RO Tryz.prog 126 (haymowref18_Set) :=
   have h : FSound RO Tryz.prog 126 (haymowref18_Set_c haymowref18_At) := (haymowref18_Set_run haymowref18_At) ▸ run_sound (gcons haymowref18_At_ent (haymowref18_At_sound) <| gnil) mixed Tryz.func126 (by kernel_rfl) _
   h.frz
def haymowref17_Wrong_c : Sm O := fun xs h =>
 bif Nat.beq xs.length 2 then
 gtS xs 0 fun l0 =>
 gtI xs 1 fun n1 =>
 (bif (((l0.2 : Int) : Int) == 0) then
 some ((.i .i64 33), h)
 else ((bif ((decide (n1 < 0)) == false) then
 (bif ((decide ((0 : Int) <= (IntKind.i64.wrap ((l0.2 : Int) - 1)))) && (decide ((IntKind.i64.wrap ((l0.2 : Int) - 1)) < (l0.2 : Int)))) then
 (SA.ref l0.1).bind fun q2 =>
 ldS h q2.1 (q2.2 + ((IntKind.i64.wrap ((l0.2 : Int) - 1)).toNat * 1)) fun l4 =>
 some ([(.b (decide (n1 >= (l4.2 : Int))))], h)
 else none)
 else some ([(.b true)], h)) : Option (List AV × AH O)).bind fun r5 =>
 (AV.asB (r5.1.getD 0 .u)).bind fun b6 =>
 (bif b6 then
 some ((.i .i64 32), r5.2)
 else some ((.i .i64 0), r5.2)))
 else none
def haymowref17_Wrong : Sm O := haymowref17_Wrong_c
theorem haymowref17_Wrong_ent : Entered Tryz.prog 127 := Tryz.call127
theorem haymowref17_Wrong_run : run (O := O) Tryz.prog [] Tryz.f127 (.n .z (.n (.n .z (.n .z .z)) (.n (.n (.g [(2, 9, [(20, .one .b)])]) (.n .z .z)) .z))) = haymowref17_Wrong_c  := by kernel_rfl
theorem haymowref17_Wrong_sound : FSound RO Tryz.prog 127 haymowref17_Wrong := sdf haymowref17_Wrong_run (gnil) Tryz.func127 (by kernel_rfl)
def haymowref17_Set_c : Sm O := fun xs h =>
 bif Nat.beq xs.length 3 then
 gtS xs 0 fun l0 =>
 gtI xs 1 fun n1 =>
 gtU xs 2 fun n2 =>
 let h3 := h.bump 2
 let h4 := h3.put h.next (.cells true 70 [])
 (h4.rdSl l0.1 l0.2 1).bind fun new5 =>
 (bif (Nat.ble ((0 + l0.2) * 25) 35184372088832) then
 (h4.appSl (h.next + 1) 70 1 (.loc (.n h.next) 0 1) 0 l0.2 new5).bind fun r6 =>
 (AV.asSl r6.1).bind fun l7 =>
 let h8 := r6.2.bump 2
 let h9 := h8.put r6.2.next (.cells true 40 [])
 (bif ((decide ((0 : Int) <= (IntKind.i64.wrap ((l7.2 : Int) - 1)))) && (decide ((IntKind.i64.wrap ((l7.2 : Int) - 1)) < (l7.2 : Int)))) then
 (SA.ref l7.1).bind fun q10 =>
 ldS h9 q10.1 (q10.2 + ((IntKind.i64.wrap ((l7.2 : Int) - 1)).toNat * 1)) fun l12 =>
 (h9.rdSl l12.1 l12.2 1).bind fun new13 =>
 (bif (Nat.ble ((0 + l12.2) * 9) 35184372088832) then
 (h9.appSl (r6.2.next + 1) 40 1 (.loc (.n r6.2.next) 0 1) 0 l12.2 new13).bind fun r14 =>
 (AV.asSl r14.1).bind fun l15 =>
 (bif ((decide ((0 : Int) <= n1)) && (decide (n1 < (l15.2 : Int)))) then
 (SA.ref l15.1).bind fun q16 =>
 (r14.2.st q16.1 (q16.2 + (n1.toNat * 1)) [(.i .u64 n2)]).bind fun h17 =>
 (bif ((decide ((0 : Int) <= (IntKind.i64.wrap ((l7.2 : Int) - 1)))) && (decide ((IntKind.i64.wrap ((l7.2 : Int) - 1)) < (l7.2 : Int)))) then
 (SA.ref l7.1).bind fun q18 =>
 (h17.st q18.1 (q18.2 + ((IntKind.i64.wrap ((l7.2 : Int) - 1)).toNat * 1)) [(.sl l15.1 l15.2)]).bind fun h19 =>
 some ((.sl l7.1 l7.2), h19)
 else none)
 else none)
 else none)
 else none)
 else none)
 else none
def haymowref17_Set : Sm O := frz (haymowref17_Set_c)
theorem haymowref17_Set_ent : Entered Tryz.prog 128 := Tryz.call128
theorem haymowref17_Set_run : run (O := O) Tryz.prog [] Tryz.f128 (.n .z (.n .z (.n .z (.n .z (.n .z .z))))) = haymowref17_Set_c  := by kernel_rfl
theorem haymowref17_Set_sound : FSound RO Tryz.prog 128 (haymowref17_Set) :=
   have h : FSound RO Tryz.prog 128 (haymowref17_Set_c) := (haymowref17_Set_run) ▸ run_sound (gnil) mixed Tryz.func128 (by kernel_rfl) _
   h.frz
def haymowref19_Set_c (k126 k127 k128 : Sm O) : Sm O := fun xs h =>
 bif Nat.beq xs.length 3 then
 (AV.asAgg 11 (xs.getD 0 .u)).bind fun c0 =>
 gtS c0 0 fun l1 =>
 gtI c0 1 fun n2 =>
 gtS c0 2 fun l3 =>
 gtS c0 3 fun l4 =>
 gtI c0 4 fun n5 =>
 gtS c0 5 fun l6 =>
 gtI c0 6 fun n7 =>
 gtS c0 7 fun l8 =>
 gtS c0 8 fun l9 =>
 gtI c0 9 fun n10 =>
 gtS c0 10 fun l11 =>
 gtI xs 1 fun n12 =>
 gtU xs 2 fun n13 =>
 let h14 := h.bump 2
 let h15 := h14.put h.next (.cells true 36 [(.sl l1.1 l1.2), (.i .i64 n2), (.sl l3.1 l3.2), (.sl l4.1 l4.2), (.i .i64 n5), (.sl l6.1 l6.2), (.i .i64 n7), (.sl l8.1 l8.2), (.sl l9.1 l9.2), (.i .i64 n10), (.sl l11.1 l11.2)])
 let h16 := h15.put (h.next + 1) (.cells true 36 [(.sl .nil 0), (.i .i64 0), (.sl .nil 0), (.sl .nil 0), (.i .i64 0), (.sl .nil 0), (.i .i64 0), (.sl .nil 0), (.sl .nil 0), (.i .i64 0), (.sl .nil 0)])
 (bif (decide (n12 >= 0)) then
 ldI h16 (.n h.next) 1 fun n18 =>
 ldS h16 (.n h.next) 2 fun l20 =>
 ldS h16 (.n h.next) 3 fun l22 =>
 ldI h16 (.n h.next) 4 fun n24 =>
 ldS h16 (.n h.next) 5 fun l26 =>
 (k126 [(.agg [(.i .i64 n18), (.sl l20.1 l20.2), (.sl l22.1 l22.2), (.i .i64 n24), (.sl l26.1 l26.2)]), (.i .i64 n12), (.i .u64 n13)] h16).bind fun r27 =>
 (AV.asTup 2 r27.1).bind fun c28 =>
 (AV.asAgg 5 (c28.getD 0 .u)).bind fun c29 =>
 gtI c29 0 fun n30 =>
 gtS c29 1 fun l31 =>
 gtS c29 2 fun l32 =>
 gtI c29 3 fun n33 =>
 gtS c29 4 fun l34 =>
 gtI c28 1 fun n35 =>
 (r27.2.st (.n h.next) 1 [(.i .i64 n30), (.sl l31.1 l31.2), (.sl l32.1 l32.2), (.i .i64 n33), (.sl l34.1 l34.2)]).bind fun h36 =>
 ldS h36 (.n h.next) 0 fun l38 =>
 ldI h36 (.n h.next) 1 fun n40 =>
 ldS h36 (.n h.next) 2 fun l42 =>
 ldS h36 (.n h.next) 3 fun l44 =>
 ldI h36 (.n h.next) 4 fun n46 =>
 ldS h36 (.n h.next) 5 fun l48 =>
 ldI h36 (.n h.next) 6 fun n50 =>
 ldS h36 (.n h.next) 7 fun l52 =>
 ldS h36 (.n h.next) 8 fun l54 =>
 ldI h36 (.n h.next) 9 fun n56 =>
 ldS h36 (.n h.next) 10 fun l58 =>
 (h36.st (.n (h.next + 1)) 0 [(.sl l38.1 l38.2), (.i .i64 n40), (.sl l42.1 l42.2), (.sl l44.1 l44.2), (.i .i64 n46), (.sl l48.1 l48.2), (.i .i64 n50), (.sl l52.1 l52.2), (.sl l54.1 l54.2), (.i .i64 n56), (.sl l58.1 l58.2)]).bind fun h59 =>
 ldS h59 (.n (h.next + 1)) 0 fun l61 =>
 ldI h59 (.n (h.next + 1)) 1 fun n63 =>
 ldS h59 (.n (h.next + 1)) 2 fun l65 =>
 ldS h59 (.n (h.next + 1)) 3 fun l67 =>
 ldI h59 (.n (h.next + 1)) 4 fun n69 =>
 ldS h59 (.n (h.next + 1)) 5 fun l71 =>
 ldI h59 (.n (h.next + 1)) 6 fun n73 =>
 ldS h59 (.n (h.next + 1)) 7 fun l75 =>
 ldS h59 (.n (h.next + 1)) 8 fun l77 =>
 ldI h59 (.n (h.next + 1)) 9 fun n79 =>
 ldS h59 (.n (h.next + 1)) 10 fun l81 =>
 some ((.tup [(.agg [(.sl l61.1 l61.2), (.i .i64 n63), (.sl l65.1 l65.2), (.sl l67.1 l67.2), (.i .i64 n69), (.sl l71.1 l71.2), (.i .i64 n73), (.sl l75.1 l75.2), (.sl l77.1 l77.2), (.i .i64 n79), (.sl l81.1 l81.2)]), (.i .i64 n35)]), h59)
 else ldS h16 (.n h.next) 0 fun l83 =>
 (k127 [(.sl l83.1 l83.2), (.i .i64 (IntKind.i64.wrap ((-1) - n12)))] h16).bind fun r84 =>
 (AV.asI .i64 r84.1).bind fun n85 =>
 (bif ((n85 : Int) != 0) then
 ldS r84.2 (.n h.next) 0 fun l87 =>
 ldI r84.2 (.n h.next) 1 fun n89 =>
 ldS r84.2 (.n h.next) 2 fun l91 =>
 ldS r84.2 (.n h.next) 3 fun l93 =>
 ldI r84.2 (.n h.next) 4 fun n95 =>
 ldS r84.2 (.n h.next) 5 fun l97 =>
 ldI r84.2 (.n h.next) 6 fun n99 =>
 ldS r84.2 (.n h.next) 7 fun l101 =>
 ldS r84.2 (.n h.next) 8 fun l103 =>
 ldI r84.2 (.n h.next) 9 fun n105 =>
 ldS r84.2 (.n h.next) 10 fun l107 =>
 (r84.2.st (.n (h.next + 1)) 0 [(.sl l87.1 l87.2), (.i .i64 n89), (.sl l91.1 l91.2), (.sl l93.1 l93.2), (.i .i64 n95), (.sl l97.1 l97.2), (.i .i64 n99), (.sl l101.1 l101.2), (.sl l103.1 l103.2), (.i .i64 n105), (.sl l107.1 l107.2)]).bind fun h108 =>
 ldS h108 (.n (h.next + 1)) 0 fun l110 =>
 ldI h108 (.n (h.next + 1)) 1 fun n112 =>
 ldS h108 (.n (h.next + 1)) 2 fun l114 =>
 ldS h108 (.n (h.next + 1)) 3 fun l116 =>
 ldI h108 (.n (h.next + 1)) 4 fun n118 =>
 ldS h108 (.n (h.next + 1)) 5 fun l120 =>
 ldI h108 (.n (h.next + 1)) 6 fun n122 =>
 ldS h108 (.n (h.next + 1)) 7 fun l124 =>
 ldS h108 (.n (h.next + 1)) 8 fun l126 =>
 ldI h108 (.n (h.next + 1)) 9 fun n128 =>
 ldS h108 (.n (h.next + 1)) 10 fun l130 =>
 some ((.tup [(.agg [(.sl l110.1 l110.2), (.i .i64 n112), (.sl l114.1 l114.2), (.sl l116.1 l116.2), (.i .i64 n118), (.sl l120.1 l120.2), (.i .i64 n122), (.sl l124.1 l124.2), (.sl l126.1 l126.2), (.i .i64 n128), (.sl l130.1 l130.2)]), (.i .i64 n85)]), h108)
 else ldS r84.2 (.n h.next) 0 fun l132 =>
 (k128 [(.sl l132.1 l132.2), (.i .i64 (IntKind.i64.wrap ((-1) - n12))), (.i .u64 n13)] r84.2).bind fun r133 =>
 (AV.asSl r133.1).bind fun l134 =>
 (r133.2.st (.n h.next) 0 [(.sl l134.1 l134.2)]).bind fun h135 =>
 ldS h135 (.n h.next) 0 fun l137 =>
 ldI h135 (.n h.next) 1 fun n139 =>
 ldS h135 (.n h.next) 2 fun l141 =>
 ldS h135 (.n h.next) 3 fun l143 =>
 ldI h135 (.n h.next) 4 fun n145 =>
 ldS h135 (.n h.next) 5 fun l147 =>
 ldI h135 (.n h.next) 6 fun n149 =>
 ldS h135 (.n h.next) 7 fun l151 =>
 ldS h135 (.n h.next) 8 fun l153 =>
 ldI h135 (.n h.next) 9 fun n155 =>
 ldS h135 (.n h.next) 10 fun l157 =>
 (h135.st (.n (h.next + 1)) 0 [(.sl l137.1 l137.2), (.i .i64 n139), (.sl l141.1 l141.2), (.sl l143.1 l143.2), (.i .i64 n145), (.sl l147.1 l147.2), (.i .i64 n149), (.sl l151.1 l151.2), (.sl l153.1 l153.2), (.i .i64 n155), (.sl l157.1 l157.2)]).bind fun h158 =>
 ldS h158 (.n (h.next + 1)) 0 fun l160 =>
 ldI h158 (.n (h.next + 1)) 1 fun n162 =>
 ldS h158 (.n (h.next + 1)) 2 fun l164 =>
 ldS h158 (.n (h.next + 1)) 3 fun l166 =>
 ldI h158 (.n (h.next + 1)) 4 fun n168 =>
 ldS h158 (.n (h.next + 1)) 5 fun l170 =>
 ldI h158 (.n (h.next + 1)) 6 fun n172 =>
 ldS h158 (.n (h.next + 1)) 7 fun l174 =>
 ldS h158 (.n (h.next + 1)) 8 fun l176 =>
 ldI h158 (.n (h.next + 1)) 9 fun n178 =>
 ldS h158 (.n (h.next + 1)) 10 fun l180 =>
 some ((.tup [(.agg [(.sl l160.1 l160.2), (.i .i64 n162), (.sl l164.1 l164.2), (.sl l166.1 l166.2), (.i .i64 n168), (.sl l170.1 l170.2), (.i .i64 n172), (.sl l174.1 l174.2), (.sl l176.1 l176.2), (.i .i64 n178), (.sl l180.1 l180.2)]), (.i .i64 0)]), h158)))
 else none
def haymowref19_Set : Sm O := frz (haymowref19_Set_c haymowref18_Set haymowref17_Wrong haymowref17_Set)
theorem haymowref19_Set_ent : Entered Tryz.prog 66 := Tryz.call66
theorem haymowref19_Set_run (k126 k127 k128 : Sm O) : run (O := O) Tryz.prog [(126, k126), (127, k127), (128, k128)] Tryz.f66 (.n .z (.n (.n .z (.n (.n .z (.n .z .z)) .z)) (.n .z (.n (.n .z (.n .z (.n .z .z))) (.n .z .z))))) = haymowref19_Set_c k126 k127 k128 := by kernel_rfl
theorem haymowref19_Set_sound : FSound RO Tryz.prog 66 (haymowref19_Set) :=
   have h : FSound RO Tryz.prog 66 (haymowref19_Set_c haymowref18_Set haymowref17_Wrong haymowref17_Set) := (haymowref19_Set_run haymowref18_Set haymowref17_Wrong haymowref17_Set) ▸ run_sound (gcons haymowref18_Set_ent (haymowref18_Set_sound) <| gcons haymowref17_Wrong_ent (haymowref17_Wrong_sound) <| gcons haymowref17_Set_ent (haymowref17_Set_sound) <| gnil) mixed Tryz.func66 (by kernel_rfl) _
   h.frz
def law19_turn_1_c : Sm O := fun xs h =>
 bif Nat.beq xs.length 3 then
 gtU xs 0 fun n0 =>
 let h1 := h.bump 2
 (AV.asPS (xs.getD 1 .u)).bind fun q2 =>
 ldS h1 q2.1 q2.2 fun l4 =>
 let h5 := h1.put h.next (.cells true 40 [(.i .u64 n0)])
 (h5.rdSl (.loc (.n h.next) 0 1) 1 1).bind fun new6 =>
 (bif (Nat.ble ((l4.2 + 1) * 9) 35184372088832) then
 (h5.appSl (h.next + 1) 40 1 l4.1 l4.2 1 new6).bind fun r7 =>
 (AV.asSl r7.1).bind fun l8 =>
 (AV.asPS (xs.getD 1 .u)).bind fun q9 =>
 (r7.2.st q9.1 q9.2 [(.sl l8.1 l8.2)]).bind fun h10 =>
 (AV.asPS (xs.getD 2 .u)).bind fun q11 =>
 ldU h10 q11.1 (q11.2 + 2) fun n13 =>
 some ((.i .u64 (IntKind.u64.wrap (n0 + n13))), h10)
 else none)
 else none
def law19_turn_1 : Sm O := law19_turn_1_c
theorem law19_turn_1_ent : Entered Tryz.prog 129 := Tryz.call129
theorem law19_turn_1_run : run (O := O) Tryz.prog [] Tryz.f129 (.n .z (.n .z .z)) = law19_turn_1_c  := by kernel_rfl
theorem law19_turn_1_sound : FSound RO Tryz.prog 129 law19_turn_1 := sdf law19_turn_1_run (gnil) Tryz.func129 (by kernel_rfl)
def frames_Frames__Turn_L2 (n16 : Int) (h : AH O) (p0 : Option (Bid × Nat)) (k139 : Sm O) (k114 : Sm O) (k193 : Sm O) (k129 : Sm O) (f1 : Option (Fn × List AV × List AV)) : List AV × AH O -> Option ((List AV × AH O) ⊕ (List AV × AH O)) := (fun r17 =>
 (AV.asI .i64 (r17.1.getD 0 .u)).bind fun n18 =>
 (bif (decide (n18 < n16)) then
 ldI r17.2 (.n h.next) 0 fun n20 =>
 let v21 : Int := (IntKind.i64.wrap ((IntKind.i64.wrap (n20 + 2)) + n18))
 Option.bind p0 fun q22 =>
 ldP r17.2 q22.1 q22.2 fun p24 =>
 Option.bind p0 fun q25 =>
 ldI r17.2 q25.1 (q25.2 + 1) fun n27 =>
 (k139 [(.p p24), (.i .i64 n27), (.i .i64 v21)] r17.2).bind fun r28 =>
 (AV.asTup 2 r28.1).bind fun c29 =>
 gtU c29 0 fun n30 =>
 gtI c29 1 fun n31 =>
 ((bif ((n30 : Int) != 0) then
 Option.bind p0 fun q32 =>
 ldP r28.2 q32.1 q32.2 fun p34 =>
 Option.bind p0 fun q35 =>
 ldI r28.2 q35.1 (q35.2 + 1) fun n37 =>
 (callV [(139, k139), (114, k114), (193, k193), (129, k129)] f1 [(.i .u64 n30)] r28.2).bind fun r38 =>
 (AV.asI .u64 r38.1).bind fun n39 =>
 (chkE (r38.2.ld q32.1 q32.2) (some (.p p34))).bind fun _ =>
 (chkE (r38.2.ld q35.1 (q35.2 + 1)) (some (.i .i64 n37))).bind fun _ =>
 (k114 [(.p p34), (.i .i64 n37), (.i .i64 v21), (.i .u64 n39)] r38.2).bind fun r40 =>
 (AV.asI .i64 r40.1).bind fun n41 =>
 some ([], r40.2)
 else some ([], r28.2)) : Option (List AV × AH O)).bind fun r42 =>
 some (Sum.inl ([(.i .i64 (IntKind.i64.wrap (n18 + 1)))], r42.2))
 else some (Sum.inr ([], r17.2))))
def frames_Frames__Turn_L1 (h : AH O) (p0 : Option (Bid × Nat)) (k139 : Sm O) (k114 : Sm O) (k193 : Sm O) (k129 : Sm O) (f1 : Option (Fn × List AV × List AV)) : List AV × AH O -> Option ((List AV × AH O) ⊕ (List AV × AH O)) := (fun r13 =>
 (AV.asB (r13.1.getD 0 .u)).bind fun b14 =>
 (bif b14 then
 ldI r13.2 (.n h.next) 1 fun n16 =>
 (loopF (S := List AV × AH O) (T := List AV × AH O) (frames_Frames__Turn_L2 n16 h p0 k139 k114 k193 k129 f1) ([(.i .i64 0)], r13.2)).bind fun r43 =>
 ldI r43.2 (.n h.next) 0 fun n45 =>
 (k193 [(.p p0), (.i .i64 n45)] r43.2).bind fun r46 =>
 (AV.asTup 2 r46.1).bind fun c47 =>
 (AV.asAgg 2 (c47.getD 0 .u)).bind fun c48 =>
 gtI c48 0 fun n49 =>
 gtI c48 1 fun n50 =>
 (AV.asB (c47.getD 1 .u)).bind fun b51 =>
 (r46.2.st (.n h.next) 0 [(.i .i64 n49), (.i .i64 n50)]).bind fun h52 =>
 some (Sum.inl ([(.b b51)], h52))
 else some (Sum.inr ([], r13.2))))
def frames_Frames__Turn_c (k139 k114 k193 k129 : Sm O) : Sm O := fun xs h =>
 bif Nat.beq xs.length 2 then
 (AV.asP (xs.getD 0 .u)).bind fun p0 =>
 (AV.asF (xs.getD 1 .u)).bind fun f1 =>
 (bif (Option.isNone f1) then
 some ((.tup []), h)
 else let h2 := h.bump 1
 Option.bind p0 fun q3 =>
 ldI h2 q3.1 (q3.2 + 5) fun n5 =>
 ldI h2 q3.1 ((q3.2 + 5) + 1) fun n7 =>
 Option.bind p0 fun q8 =>
 ldI h2 q8.1 (q8.2 + 4) fun n10 =>
 let h11 := h2.put h.next (.cells true 140 [(.i .i64 0), (.i .i64 0)])
 (h11.st (.n h.next) 0 [(.i .i64 n5), (.i .i64 n7)]).bind fun h12 =>
 (chkE (h12.ld q8.1 (q8.2 + 4)) (some (.i .i64 n10))).bind fun _ =>
 (loopF (S := List AV × AH O) (T := List AV × AH O) (frames_Frames__Turn_L1 h p0 k139 k114 k193 k129 f1) ([(.b (decide (n10 > 0)))], h12)).bind fun r53 =>
 some ((.tup []), r53.2))
 else none
def frames_Frames__Turn : Sm O := frames_Frames__Turn_c mem_Mem__Read mem_Mem__Write frames_Frames__under law19_turn_1
theorem frames_Frames__Turn_ent : Entered Tryz.prog 197 := Tryz.call197
theorem frames_Frames__Turn_run (k139 k114 k193 k129 : Sm O) : run (O := O) Tryz.prog [(139, k139), (114, k114), (193, k193), (129, k129)] Tryz.f197 (.n (.n .z .z) (.n (.d [] [0, 1, 2, 3, 4, 5, 6, 7, 8, 9, 10, 11] [0, 1, 3, 7, 0, 16, 48, 112, 240, 0, 527, 2047]) (.n (.lp false 0 [(5, .one .b)] [] (.n (.n .z .z) (.n (.n (.n .z (.n (.lp false 2 [(24, .one (.i .i64))] [] (.n .z (.n .z (.n (.n (.n .z (.n .z (.n (.d [] [0, 1, 2, 3, 4, 5, 6, 7, 8, 9, 10, 11, 12, 13, 14] [0, 1, 3, 7, 0, 16, 48, 112, 0, 511, 1023, 2047, 2047, 4095, 16383]) (.n .z (.j false [] (.d [] [0, 1, 2, 3, 4, 5, 6, 7, 8, 9, 10, 11, 12] [0, 1, 3, 7, 0, 16, 48, 112, 0, 0, 0, 1536, 4095]) .z))))) .z) .z)))) .z)) .z) .z))) .z))) = frames_Frames__Turn_c k139 k114 k193 k129 := by kernel_rfl
theorem frames_Frames__Turn_sound : FSound RO Tryz.prog 197 frames_Frames__Turn := sdf (frames_Frames__Turn_run _ _ _ _) (gcons mem_Mem__Read_ent mem_Mem__Read_sound <| gcons mem_Mem__Write_ent mem_Mem__Write_sound <| gcons frames_Frames__under_ent frames_Frames__under_sound <| gcons law19_turn_1_ent law19_turn_1_sound <| gnil) Tryz.func197 (by kernel_rfl)
def chain_Table__After_c (k224 k225 : Sm O) : Sm O := fun xs h =>
 bif Nat.beq xs.length 2 then
 (AV.asAgg 5 (xs.getD 0 .u)).bind fun c0 =>
 (AV.asP (c0.getD 0 .u)).bind fun p1 =>
 gtI c0 1 fun n2 =>
 gtI c0 2 fun n3 =>
 gtI c0 3 fun n4 =>
 gtI c0 4 fun n5 =>
 gtI xs 1 fun n6 =>
 let h7 := h.bump 1
 let h8 := h7.put h.next (.cells true 241 [(.p p1), (.i .i64 n2), (.i .i64 n3), (.i .i64 n4), (.i .i64 n5)])
 ldP h8 (.n h.next) 0 fun p10 =>
 ldI h8 (.n h.next) 1 fun n12 =>
 ldI h8 (.n h.next) 2 fun n14 =>
 ldI h8 (.n h.next) 3 fun n16 =>
 ldI h8 (.n h.next) 4 fun n18 =>
 (k224 [(.agg [(.p p10), (.i .i64 n12), (.i .i64 n14), (.i .i64 n16), (.i .i64 n18)]), (.i .i64 n6)] h8).bind fun r19 =>
 (AV.asI .i64 r19.1).bind fun n20 =>
 (bif ((n20 : Int) != 0) then
 some ((.tup [(.i .i64 0), (.i .i64 n20)]), r19.2)
 else ldP r19.2 (.n h.next) 0 fun p22 =>
 ldI r19.2 (.n h.next) 1 fun n24 =>
 ldI r19.2 (.n h.next) 2 fun n26 =>
 ldI r19.2 (.n h.next) 3 fun n28 =>
 ldI r19.2 (.n h.next) 4 fun n30 =>
 ldI r19.2 (.n h.next) 3 fun n32 =>
 (k225 [(.agg [(.p p22), (.i .i64 n24), (.i .i64 n26), (.i .i64 n28), (.i .i64 n30)]), (.i .i64 n6), (.i .i64 n32)] r19.2).bind fun r33 =>
 (AV.asI .i64 r33.1).bind fun n34 =>
 some ((.tup [(.i .i64 n34), (.i .i64 0)]), r33.2))
 else none
def chain_Table__After : Sm O := chain_Table__After_c chain_Table__check chain_Table__get
theorem chain_Table__After_ent : Entered Tryz.prog 179 := Tryz.call179
theorem chain_Table__After_run (k224 k225 : Sm O) : run (O := O) Tryz.prog [(224, k224), (225, k225)] Tryz.f179 (.n .z (.n (.n .z (.n .z (.n .z .z))) .z)) = chain_Table__After_c k224 k225 := by kernel_rfl
theorem chain_Table__After_sound : FSound RO Tryz.prog 179 chain_Table__After := sdf (chain_Table__After_run _ _) (gcons chain_Table__check_ent chain_Table__check_sound <| gcons chain_Table__get_ent chain_Table__get_sound <| gnil) Tryz.func179 (by kernel_rfl)
def chain_Table__All_1_L1 (n6 : Int) (k179 : Sm O) (ky0 : Sm O) (f0 : Option (Fn × List AV × List AV)) (xs : List AV) : List AV × AH O -> Option ((List AV × AH O) ⊕ ((List AV × AH O) ⊕ (AV × AH O))) := (fun r7 =>
 (AV.asI .i64 (r7.1.getD 0 .u)).bind fun n8 =>
 (AV.asI .i64 (r7.1.getD 1 .u)).bind fun n9 =>
 (bif (decide (n9 < n6)) then
 (callV [(179, k179), (1000000, ky0)] f0 [(.i .i64 n8)] r7.2).bind fun r10 =>
 (AV.asB r10.1).bind fun b11 =>
 (bif (!b11) then
 ((some ((.tup []), r10.2) : Option (AV × AH O)).map fun r => Sum.inr (Sum.inr r))
 else (AV.asPS (xs.getD 2 .u)).bind fun q12 =>
 ldP r10.2 q12.1 q12.2 fun p14 =>
 ldI r10.2 q12.1 (q12.2 + 1) fun n16 =>
 ldI r10.2 q12.1 ((q12.2 + 1) + 1) fun n18 =>
 ldI r10.2 q12.1 (((q12.2 + 1) + 1) + 1) fun n20 =>
 ldI r10.2 q12.1 ((((q12.2 + 1) + 1) + 1) + 1) fun n22 =>
 (k179 [(.agg [(.p p14), (.i .i64 n16), (.i .i64 n18), (.i .i64 n20), (.i .i64 n22)]), (.i .i64 n8)] r10.2).bind fun r23 =>
 (AV.asTup 2 r23.1).bind fun c24 =>
 gtI c24 0 fun n25 =>
 gtI c24 1 fun n26 =>
 (bif ((n26 : Int) != 0) then
 ((some ((.tup []), r23.2) : Option (AV × AH O)).map fun r => Sum.inr (Sum.inr r))
 else some (Sum.inl ([(.i .i64 n25), (.i .i64 (IntKind.i64.wrap (n9 + 1)))], r23.2))))
 else some (Sum.inr (Sum.inl ([], r7.2)))))
def chain_Table__All_1_c (k179 ky0 : Sm O) : Sm O := fun xs h =>
 bif Nat.beq xs.length 3 then
 (AV.asF (xs.getD 0 .u)).bind fun f0 =>
 (AV.asPS (xs.getD 1 .u)).bind fun q1 =>
 ldI h q1.1 q1.2 fun n3 =>
 (AV.asPS (xs.getD 1 .u)).bind fun q4 =>
 ldI h q4.1 (q4.2 + 2) fun n6 =>
 bindS (S := List AV × AH O) (R := (AV × AH O)) (loopF (S := List AV × AH O) (T := (List AV × AH O) ⊕ (AV × AH O)) (chain_Table__All_1_L1 n6 k179 ky0 f0 xs) ([(.i .i64 n3), (.i .i64 0)], h)) fun r27 =>
 some ((.tup []), r27.2)
 else none
def chain_Table__All_1 (ky0 : Sm O) : Sm O := chain_Table__All_1_c chain_Table__After ky0
theorem chain_Table__All_1_ent : Entered Tryz.prog 240 := Tryz.call240
theorem chain_Table__All_1_run (k179 ky0 : Sm O) : run (O := O) Tryz.prog [(179, k179), (1000000, ky0)] Tryz.f240 (.n .z (.n .z (.n (.lp true 0 [(4, .one (.i .i64)), (11, .one (.i .i64))] [] (.n .z (.n .z (.n (.n (.n (.n .z .z) (.n .z (.n (.n .z .z) .z))) .z) .z)))) .z))) = chain_Table__All_1_c k179 ky0 := by kernel_rfl
theorem chain_Table__All_1_sound {ky0 : Sm O} (hy : YSound RO Tryz.prog ky0) : FSound RO Tryz.prog 240 (chain_Table__All_1 ky0) :=
   have h : FSound RO Tryz.prog 240 (chain_Table__All_1_c chain_Table__After ky0) := (chain_Table__All_1_run chain_Table__After ky0) ▸ run_sound (gcons chain_Table__After_ent (chain_Table__After_sound) <| gyld hy <| gnil) mixed Tryz.func240 (by kernel_rfl) _
   h
def chain_Table__All_c : Sm O := fun xs h =>
 bif Nat.beq xs.length 2 then
 (AV.asAgg 5 (xs.getD 0 .u)).bind fun c0 =>
 (AV.asP (c0.getD 0 .u)).bind fun p1 =>
 gtI c0 1 fun n2 =>
 gtI c0 2 fun n3 =>
 gtI c0 3 fun n4 =>
 gtI c0 4 fun n5 =>
 (AV.asAgg 3 (xs.getD 1 .u)).bind fun c6 =>
 gtI c6 0 fun n7 =>
 gtI c6 1 fun n8 =>
 gtI c6 2 fun n9 =>
 let h10 := h.bump 2
 let h11 := h10.put h.next (.cells true 241 [(.p p1), (.i .i64 n2), (.i .i64 n3), (.i .i64 n4), (.i .i64 n5)])
 let h12 := h11.put (h.next + 1) (.cells true 196 [(.i .i64 n7), (.i .i64 n8), (.i .i64 n9)])
 some ((.fn (some (.func 240, [], [(.p (some ((.n (h.next + 1)), 0))), (.p (some ((.n h.next), 0)))]))), h12)
 else none
def chain_Table__All : Sm O := chain_Table__All_c
theorem chain_Table__All_ent : Entered Tryz.prog 229 := Tryz.call229
theorem chain_Table__All_run : run (O := O) Tryz.prog [] Tryz.f229 (.n .z .z) = chain_Table__All_c  := by kernel_rfl
theorem chain_Table__All_sound : FSound RO Tryz.prog 229 chain_Table__All := sdf chain_Table__All_run (gnil) Tryz.func229 (by kernel_rfl)
def handles_Handles__Turn_R0_c (k137 k184 k129 : Sm O) : Sm O := roundW 189000 1 fun env0 ys0 blk0 h =>
 (AV.asP (env0 2)).bind fun p0 =>
 (AV.asP (env0 3)).bind fun p1 =>
 gtI ys0 0 fun n2 =>
 (busyL h blk0).bind fun h3 =>
 Option.bind p0 fun q4 =>
 ldP h3 q4.1 q4.2 fun p6 =>
 Option.bind p6 fun q7 =>
 ldP h3 q7.1 q7.2 fun p9 =>
 (k137 [(.p p9), (.i .i64 n2), (.i .i64 0)] h3).bind fun r10 =>
 (AV.asTup 2 r10.1).bind fun c11 =>
 gtU c11 0 fun n12 =>
 gtI c11 1 fun n13 =>
 ((bif ((n12 : Int) != 0) then
 Option.bind p0 fun q14 =>
 ldP r10.2 q14.1 q14.2 fun p16 =>
 Option.bind p0 fun q17 =>
 Option.bind p16 fun q18 =>
 ldP r10.2 q18.1 q18.2 fun p20 =>
 Option.bind p1 fun q21 =>
 (r10.2.ld q21.1 q21.2).bind fun w22 =>
 (AV.asF w22).bind fun f23 =>
 Option.bind p1 fun q24 =>
 (callV [(137, k137), (184, k184), (129, k129)] f23 [(.i .u64 n12)] r10.2).bind fun r25 =>
 (AV.asI .u64 r25.1).bind fun n26 =>
 (chkE (r25.2.ld q17.1 q17.2) (some (.p p16))).bind fun _ =>
 (chkE (r25.2.ld q18.1 q18.2) (some (.p p20))).bind fun _ =>
 (k184 [(.p p20), (.i .i64 n2), (.i .i64 0), (.i .u64 n26)] r25.2).bind fun r27 =>
 (AV.asI .i64 r27.1).bind fun n28 =>
 some ([], r27.2)
 else some ([], r10.2)) : Option (List AV × AH O)).bind fun r29 =>
 (markL r29.2 blk0 .ready).bind fun h => some (.b true, h)
def handles_Handles__Turn_R0 : Sm O := handles_Handles__Turn_R0_c pool_Pool__Get pool_Pool__Set law19_turn_1
theorem handles_Handles__Turn_R0_run (k137 k184 k129 : Sm O) : roundAt (O := O) Tryz.prog [(137, k137), (184, k184), (129, k129)] 189 Tryz.f189 0 [(2, .one .p), (3, .one .p)] [(16, .one (.i .i64))] (.n .z (.n (.n .z (.n .z (.j false [] (.d [] [0, 1, 2, 3, 4, 5, 6, 7, 8] [0, 1, 3, 7, 0, 0, 0, 96, 255]) .z))) .z)) = handles_Handles__Turn_R0_c k137 k184 k129 := by kernel_rfl
theorem handles_Handles__Turn_R0_sound : YSound RO Tryz.prog (handles_Handles__Turn_R0) :=
   have h : YSound RO Tryz.prog (handles_Handles__Turn_R0_c pool_Pool__Get pool_Pool__Set law19_turn_1) := (handles_Handles__Turn_R0_run pool_Pool__Get pool_Pool__Set law19_turn_1) ▸ roundAt_sound (gcons pool_Pool__Get_ent (pool_Pool__Get_sound) <| gcons pool_Pool__Set_ent (pool_Pool__Set_sound) <| gcons law19_turn_1_ent (law19_turn_1_sound) <| gnil) mixed Tryz.func189 _ _ _ _
   h
def handles_Handles__Turn_c (k185 k229 k137 k184 k129 kr240 : Sm O) : Sm O := fun xs h =>
 bif Nat.beq xs.length 2 then
 (AV.asP (xs.getD 0 .u)).bind fun p0 =>
 (AV.asF (xs.getD 1 .u)).bind fun f1 =>
 let h2 := h.bump 2
 let h3 := h2.put h.next (.cells true 46 [(.p p0)])
 let h4 := h3.put (h.next + 1) (.cells true 65 [(.fn f1)])
 (h4.ld (.n (h.next + 1)) 0).bind fun w5 =>
 (AV.asF w5).bind fun f6 =>
 (bif (Option.isNone f6) then
 some ((.tup []), h4)
 else ldP h4 (.n h.next) 0 fun p8 =>
 ldP h4 (.n h.next) 0 fun p10 =>
 Option.bind p10 fun q11 =>
 ldI h4 q11.1 (q11.2 + 1) fun n13 =>
 ldI h4 q11.1 ((q11.2 + 1) + 1) fun n15 =>
 ldI h4 q11.1 (((q11.2 + 1) + 1) + 1) fun n17 =>
 (k185 [(.p p8)] h4).bind fun r18 =>
 (AV.asAgg 5 r18.1).bind fun c19 =>
 (AV.asP (c19.getD 0 .u)).bind fun p20 =>
 gtI c19 1 fun n21 =>
 gtI c19 2 fun n22 =>
 gtI c19 3 fun n23 =>
 gtI c19 4 fun n24 =>
 (chkE (r18.2.ld (.n h.next) 0) (some (.p p10))).bind fun _ =>
 (chkE (r18.2.ld q11.1 (q11.2 + 1)) (some (.i .i64 n13))).bind fun _ =>
 (chkE (r18.2.ld q11.1 ((q11.2 + 1) + 1)) (some (.i .i64 n15))).bind fun _ =>
 (chkE (r18.2.ld q11.1 (((q11.2 + 1) + 1) + 1)) (some (.i .i64 n17))).bind fun _ =>
 (k229 [(.agg [(.p p20), (.i .i64 n21), (.i .i64 n22), (.i .i64 n23), (.i .i64 n24)]), (.agg [(.i .i64 n13), (.i .i64 n15), (.i .i64 n17)])] r18.2).bind fun r25 =>
 (AV.asF r25.1).bind fun f26 =>
 (rangeV [(185, k185), (229, k229), (137, k137), (184, k184), (129, k129), (2000240, kr240)] f26 189000 [(2, (.p (some ((.n h.next), 0)))), (3, (.p (some ((.n (h.next + 1)), 0))))] r25.2).bind fun r27 =>
 (lstN r27.2 r25.2.next).bind fun st28 =>
 let h29 := r27.2.kill r25.2.next
 (bif Nat.beq st28 0 then
 some ((.tup []), h29)
 else none))
 else none
def handles_Handles__Turn : Sm O := handles_Handles__Turn_c handles_Handles__table chain_Table__All pool_Pool__Get pool_Pool__Set law19_turn_1 (chain_Table__All_1 (handles_Handles__Turn_R0))
theorem handles_Handles__Turn_ent : Entered Tryz.prog 189 := Tryz.call189
theorem handles_Handles__Turn_run (k185 k229 k137 k184 k129 kr240 : Sm O) : run (O := O) Tryz.prog [(185, k185), (229, k229), (137, k137), (184, k184), (129, k129), (2000240, kr240)] Tryz.f189 (.n .z (.n (.n .z .z) (.n (.d [] [0, 2, 3, 4, 5, 1, 6] [0, 1, 0, 4, 12, 28, 63]) (.n (.rf 189000 [2, 3] []) .z)))) = handles_Handles__Turn_c k185 k229 k137 k184 k129 kr240 := by kernel_rfl
theorem handles_Handles__Turn_sound : FSound RO Tryz.prog 189 (handles_Handles__Turn) :=
   have h : FSound RO Tryz.prog 189 (handles_Handles__Turn_c handles_Handles__table chain_Table__All pool_Pool__Get pool_Pool__Set law19_turn_1 (chain_Table__All_1 (handles_Handles__Turn_R0))) := (handles_Handles__Turn_run handles_Handles__table chain_Table__All pool_Pool__Get pool_Pool__Set law19_turn_1 (chain_Table__All_1 (handles_Handles__Turn_R0))) ▸ run_soundR (gcons handles_Handles__table_ent (handles_Handles__table_sound) <| gcons chain_Table__All_ent (chain_Table__All_sound) <| gcons pool_Pool__Get_ent (pool_Pool__Get_sound) <| gcons pool_Pool__Set_ent (pool_Pool__Set_sound) <| gcons law19_turn_1_ent (law19_turn_1_sound) <| grf (c := 240) chain_Table__All_1_ent (chain_Table__All_1_sound (handles_Handles__Turn_R0_sound)) <| gnil) mixed Tryz.func189 (by kernel_rfl) _ (by kernel_rfl)
   h
def roots_Roots__Turn_c (k197 k189 : Sm O) : Sm O := fun xs h =>
 bif Nat.beq xs.length 2 then
 (AV.asP (xs.getD 0 .u)).bind fun p0 =>
 (AV.asF (xs.getD 1 .u)).bind fun f1 =>
 Option.bind p0 fun q2 =>
 ldP h q2.1 q2.2 fun p4 =>
 (k197 [(.p p4), (.fn f1)] h).bind fun r5 =>
 (AV.asTup 0 r5.1).bind fun c6 =>
 Option.bind p0 fun q7 =>
 ldP r5.2 q7.1 (q7.2 + 1) fun p9 =>
 (k189 [(.p p9), (.fn f1)] r5.2).bind fun r10 =>
 (AV.asTup 0 r10.1).bind fun c11 =>
 some ((.tup []), r10.2)
 else none
def roots_Roots__Turn : Sm O := roots_Roots__Turn_c frames_Frames__Turn handles_Handles__Turn
theorem roots_Roots__Turn_ent : Entered Tryz.prog 130 := Tryz.call130
theorem roots_Roots__Turn_run (k197 k189 : Sm O) : run (O := O) Tryz.prog [(197, k197), (189, k189)] Tryz.f130 .z = roots_Roots__Turn_c k197 k189 := by kernel_rfl
theorem roots_Roots__Turn_sound : FSound RO Tryz.prog 130 roots_Roots__Turn := sdf (roots_Roots__Turn_run _ _) (gcons frames_Frames__Turn_ent frames_Frames__Turn_sound <| gcons handles_Handles__Turn_ent handles_Handles__Turn_sound <| gnil) Tryz.func130 (by kernel_rfl)
end
end Go.Abs.Tryz
