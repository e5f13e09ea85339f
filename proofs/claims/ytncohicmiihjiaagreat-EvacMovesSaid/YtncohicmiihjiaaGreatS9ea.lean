/-
  What functions of the program do. No conditions.
-/
import Derived.Test.YtncohicmiihjiaaGreatAbsExtern
import Derived.Test.YtncohicmiihjiaaGreatAbsWord
import Derived.Test.YtncohicmiihjiaaGreatProg
import Derived.KernelRfl
set_option linter.unusedVariables false
set_option linter.unusedSimpArgs false
set_option linter.constructorNameAsVariable false
set_option maxRecDepth 100000
namespace Go.Abs.Tryz
open Go Go.Abs Go.Proofs
noncomputable section
variable {O : Type} {RO : O -> Loc -> (Nat -> Option Obj) -> Prop}
theorem mixed : Tryz.prog.follows .mixedOrders = true := by kernel_rfl
theorem sdf {G : List (FuncId × Sm O)} {f : FuncId} {fn : Func} {an : Ann} {s : Sm O} (e : run Tryz.prog G fn an = s) (hG : GSound RO Tryz.prog G) (hf : Tryz.prog.funcs[f]? = some fn) (hk : fnOK fn = true) : FSound RO Tryz.prog f s := e ▸ run_sound hG mixed hf hk an
abbrev T_int : Nat := 3
abbrev T_uint64 : Nat := 33
abbrev T_api_Shape : Nat := 37
abbrev T_api_Header : Nat := 39
abbrev T_haymowref16_Object : Nat := 42
abbrev T_haymowref16_State : Nat := 105
abbrev T_evac_Mover : Nat := 113
abbrev T_mem_space : Nat := 211
abbrev T_pool_Pool : Nat := 239
theorem qbc : ExternOK Tryz.prog 112 (bits_Add64 (O := O)) := add64_ext Tryz.func112 (by kernel_rfl) (by kernel_rfl) (by kernel_rfl) rfl
theorem qbd : ExternOK Tryz.prog 115 (bits_Sub64 (O := O)) := sub64_ext Tryz.func115 (by kernel_rfl) (by kernel_rfl) (by kernel_rfl) rfl
def qbe : Sm O := fun xs h =>
 bif Nat.beq xs.length 0 then
 let h0 := h.bump 1
 let h1 := h0.put h.next (.cells true 152 [(.i .u64 0), (.i .u64 0), (.i .u64 0), (.i .u64 0), (.i .i64 0), (.i .i64 0)])
 some ((.p (some ((.n h.next), 0))), h1)
 else none
def qbf : Sm O := qbe
theorem qbg : Entered Tryz.prog 137 := Tryz.call137
theorem qbh : run (O := O) Tryz.prog [] Tryz.f137 (.n .z .z) = qbe  := by kernel_rfl
theorem qbi : FSound RO Tryz.prog 137 qbf := sdf qbh (gnil) Tryz.func137 (by kernel_rfl)
def qbj (k137 : Sm O) : Sm O := fun xs h =>
 bif Nat.beq xs.length 0 then
 let h0 := h.bump 1
 (k137 [] h0).bind fun r1 =>
 (AV.asP r1.1).bind fun p2 =>
 let h3 := r1.2.put h.next (.cells true 58 [(.p p2), (.sl .nil 0), (.i .i64 0), (.i .i64 0)])
 some ((.p (some ((.n h.next), 0))), h3)
 else none
def qbk : Sm O := qbj qbf
theorem qbl : Entered Tryz.prog 83 := Tryz.call83
theorem qbm (k137 : Sm O) : run (O := O) Tryz.prog [(137, k137)] Tryz.f83 (.n .z .z) = qbj k137 := by kernel_rfl
theorem qbn : FSound RO Tryz.prog 83 qbk := sdf (qbm _) (gcons qbg qbi <| gnil) Tryz.func83 (by kernel_rfl)
def qbo : Sm O := fun xs h =>
 bif Nat.beq xs.length 2 then
 (AV.asP (xs.getD 0 .u)).bind fun p0 =>
 gtI xs 1 fun n1 =>
 Option.bind p0 fun q2 =>
 ldI h q2.1 q2.2 fun n4 =>
 Option.bind p0 fun q5 =>
 (h.st q5.1 q5.2 [(.i .i64 (IntKind.i64.wrap (n4 + n1)))]).bind fun h6 =>
 Option.bind p0 fun q7 =>
 ldI h6 q7.1 (q7.2 + 1) fun n9 =>
 Option.bind p0 fun q10 =>
 ldI h6 q10.1 q10.2 fun n12 =>
 Option.bind p0 fun q13 =>
 (h6.st q13.1 (q13.2 + 1) [(.i .i64 (if n12 > n9 then n12 else n9))]).bind fun h14 =>
 some ((.tup []), h14)
 else none
def qbp : Sm O := qbo
theorem qbq : Entered Tryz.prog 175 := Tryz.call175
theorem qbr : run (O := O) Tryz.prog [] Tryz.f175 (.n .z (.d [] [0, 1, 2, 3, 4, 5, 6, 7, 8, 9, 10, 11, 12] [0, 0, 2, 6, 14, 0, 32, 96, 224, 510, 1023, 2047, 4095])) = qbo  := by kernel_rfl
theorem qbs : FSound RO Tryz.prog 175 qbp := sdf qbr (gnil) Tryz.func175 (by kernel_rfl)
def qbt (k175 : Sm O) : Sm O := fun xs h =>
 bif Nat.beq xs.length 2 then
 (AV.asP (xs.getD 0 .u)).bind fun p0 =>
 gtI xs 1 fun n1 =>
 ((bif ((Option.isNone p0) == false) then
 some ([(.b (decide (n1 < 0)))], h)
 else some ([(.b true)], h)) : Option (List AV × AH O)).bind fun r2 =>
 (AV.asB (r2.1.getD 0 .u)).bind fun b3 =>
 (bif b3 then
 some ((.i .i64 1), r2.2)
 else Option.bind p0 fun q4 =>
 ldI r2.2 q4.1 (q4.2 + 4) fun n6 =>
 let c7 : Bool := (decide (n1 > (IntKind.i64.wrap (281474976710656 - n6))))
 (bif c7 then
 some ((.i .i64 3), r2.2)
 else Option.bind p0 fun q8 =>
 (k175 [(.p (some (q8.1, (q8.2 + 4)))), (.i .i64 n1)] r2.2).bind fun r9 =>
 (AV.asTup 0 r9.1).bind fun c10 =>
 some ((.i .i64 0), r9.2)))
 else none
def qbu : Sm O := qbt qbp
theorem qbv : Entered Tryz.prog 146 := Tryz.call146
theorem qbw (k175 : Sm O) : run (O := O) Tryz.prog [(175, k175)] Tryz.f146 (.n .z (.n (.n (.n (.g [(2, 2, [(11, .one .b)])]) (.n .z (.n .z (.n .z .z)))) .z) (.n .z .z))) = qbt k175 := by kernel_rfl
theorem qbx : FSound RO Tryz.prog 146 qbu := sdf (qbw _) (gcons qbq qbs <| gnil) Tryz.func146 (by kernel_rfl)
def qby (p0 : Option (Bid × Nat)) : List AV × AH O -> Option ((List AV × AH O) ⊕ (List AV × AH O)) := (fun r8 =>
 (AV.asI .i64 (r8.1.getD 0 .u)).bind fun n9 =>
 Option.bind p0 fun q10 =>
 ldS r8.2 q10.1 (q10.2 + 1) fun l12 =>
 ((bif ((decide (n9 < (l12.2 : Int))) == true) then
 Option.bind p0 fun q13 =>
 ldS r8.2 q13.1 (q13.2 + 1) fun l15 =>
 (bif ((decide ((0 : Int) <= n9)) && (decide (n9 < (l15.2 : Int)))) then
 (SA.ref l15.1).bind fun q16 =>
 (r8.2.ld q16.1 ((q16.2 + (n9.toNat * 2)) + 1)).bind fun w17 =>
 (AV.asB w17).bind fun b18 =>
 some ([(.b b18)], r8.2)
 else none)
 else some ([(.b false)], r8.2)) : Option (List AV × AH O)).bind fun r19 =>
 (AV.asB (r19.1.getD 0 .u)).bind fun b20 =>
 (bif b20 then
 some (Sum.inl ([(.i .i64 (IntKind.i64.wrap (n9 + 1)))], r19.2))
 else some (Sum.inr ([(.i .i64 n9)], r19.2))))
def qbz (k146 : Sm O) : Sm O := fun xs h =>
 bif Nat.beq xs.length 2 then
 (AV.asP (xs.getD 0 .u)).bind fun p0 =>
 gtI xs 1 fun n1 =>
 (bif (decide (n1 < 0)) then
 some ((.tup [(.i .i64 0), (.i .i64 1)]), h)
 else (bif (decide (n1 > 4194304)) then
 some ((.tup [(.i .i64 0), (.i .i64 7)]), h)
 else Option.bind p0 fun q2 =>
 ldI h q2.1 (q2.2 + 3) fun n4 =>
 (bif (decide (n4 >= 262144)) then
 some ((.tup [(.i .i64 0), (.i .i64 3)]), h)
 else Option.bind p0 fun q5 =>
 ldI h q5.1 (q5.2 + 2) fun n7 =>
 (loopF (S := List AV × AH O) (T := List AV × AH O) (qby p0) ([(.i .i64 n7)], h)).bind fun r21 =>
 (AV.asI .i64 (r21.1.getD 0 .u)).bind fun n22 =>
 Option.bind p0 fun q23 =>
 ldS r21.2 q23.1 (q23.2 + 1) fun l25 =>
 ((bif ((n22 : Int) == (l25.2 : Int)) then
 let h26 := r21.2.bump 2
 Option.bind p0 fun q27 =>
 ldS h26 q27.1 (q27.2 + 1) fun l29 =>
 let h30 := h26.put r21.2.next (.cells true 211 [(.sl .nil 0), (.b false)])
 (h30.rdSl (.loc (.n r21.2.next) 0 2) 1 2).bind fun new31 =>
 (bif (Nat.ble ((l29.2 + 1) * 33) 35184372088832) then
 (h30.appSl (r21.2.next + 1) 211 2 l29.1 l29.2 1 new31).bind fun r32 =>
 (AV.asSl r32.1).bind fun l33 =>
 Option.bind p0 fun q34 =>
 (r32.2.st q34.1 (q34.2 + 1) [(.sl l33.1 l33.2)]).bind fun h35 =>
 some ([], h35)
 else none)
 else some ([], r21.2)) : Option (List AV × AH O)).bind fun r36 =>
 let h37 := r36.2.bump 1
 Option.bind p0 fun q38 =>
 ldS h37 q38.1 (q38.2 + 1) fun l40 =>
 (bif ((((decide ((0 : Int) <= n1)) && (decide (n1 <= n1))) && (decide ((n1 * 8) <= 140737488355328))) && (decide (n1 <= 140737488355328))) then
 let h41 := h37.put r36.2.next (.cells true 33 ((List.replicate n1.toNat [(.i .u64 0)]).flatten))
 (bif ((decide ((0 : Int) <= n22)) && (decide (n22 < (l40.2 : Int)))) then
 (SA.ref l40.1).bind fun q42 =>
 (h41.st q42.1 (q42.2 + (n22.toNat * 2)) [(.sl (.loc (.n r36.2.next) 0 1) n1.toNat), (.b true)]).bind fun h43 =>
 Option.bind p0 fun q44 =>
 ldI h43 q44.1 (q44.2 + 3) fun n46 =>
 Option.bind p0 fun q47 =>
 (h43.st q47.1 (q47.2 + 2) [(.i .i64 (IntKind.i64.wrap (n22 + 1)))]).bind fun h48 =>
 Option.bind p0 fun q49 =>
 (h48.st q49.1 (q49.2 + 3) [(.i .i64 (IntKind.i64.wrap (n46 + 1)))]).bind fun h50 =>
 Option.bind p0 fun q51 =>
 ldP h50 q51.1 q51.2 fun p53 =>
 (k146 [(.p p53), (.i .i64 n1)] h50).bind fun r54 =>
 (AV.asI .i64 r54.1).bind fun n55 =>
 some ((.tup [(.i .i64 n22), (.i .i64 0)]), r54.2)
 else none)
 else none))))
 else none
def qb0 : Sm O := qbz qbu
theorem qb1 : Entered Tryz.prog 99 := Tryz.call99
theorem qb2 (k146 : Sm O) : run (O := O) Tryz.prog [(146, k146)] Tryz.f99 (.n .z (.n (.n (.n .z (.n .z (.n .z (.n .z (.n .z (.n .z .z)))))) .z) (.n .z (.n (.n (.lp false 1 [(6, .one (.i .i64))] [(6, .one (.i .i64))] (.n (.n (.g [(7, 8, [(39, .one .b)])]) .z) .z)) .z) (.n (.n .z (.j false [] .z .z)) (.n (.d [] [0, 1, 2, 3, 4, 5, 6, 7, 8, 9] [0, 1, 3, 7, 0, 0, 32, 96, 255, 511]) (.n .z (.n .z .z)))))))) = qbz k146 := by kernel_rfl
theorem qb3 : FSound RO Tryz.prog 99 qb0 := sdf (qb2 _) (gcons qbv qbx <| gnil) Tryz.func99 (by kernel_rfl)
def qb4 (k99 : Sm O) : Sm O := fun xs h =>
 bif Nat.beq xs.length 2 then
 (AV.asP (xs.getD 0 .u)).bind fun p0 =>
 gtI xs 1 fun n1 =>
 (bif (Option.isNone p0) then
 some ((.tup [(.p none), (.i .i64 1)]), h)
 else (k99 [(.p p0), (.i .i64 n1)] h).bind fun r2 =>
 (AV.asTup 2 r2.1).bind fun c3 =>
 gtI c3 0 fun n4 =>
 gtI c3 1 fun n5 =>
 (bif ((n5 : Int) != 0) then
 some ((.tup [(.p none), (.i .i64 n5)]), r2.2)
 else let h6 := r2.2.bump 1
 let h7 := h6.put r2.2.next (.cells true 135 [(.p p0), (.i .i64 n4), (.i .i64 0), (.i .i64 0), (.i .i64 0), (.b false)])
 some ((.tup [(.p (some ((.n r2.2.next), 0))), (.i .i64 0)]), h7)))
 else none
def qb5 : Sm O := qb4 qb0
theorem qb6 : Entered Tryz.prog 84 := Tryz.call84
theorem qb7 (k99 : Sm O) : run (O := O) Tryz.prog [(99, k99)] Tryz.f84 (.n .z (.n (.n .z (.n .z .z)) (.n .z (.n (.n .z (.n .z .z)) .z)))) = qb4 k99 := by kernel_rfl
theorem qb8 : FSound RO Tryz.prog 84 qb5 := sdf (qb7 _) (gcons qb1 qb3 <| gnil) Tryz.func84 (by kernel_rfl)
def qb9 (k99 : Sm O) : Sm O := fun xs h =>
 bif Nat.beq xs.length 2 then
 (AV.asP (xs.getD 0 .u)).bind fun p0 =>
 gtI xs 1 fun n1 =>
 ((bif ((Option.isNone p0) == false) then
 some ([(.b (decide (n1 < 1)))], h)
 else some ([(.b true)], h)) : Option (List AV × AH O)).bind fun r2 =>
 (AV.asB (r2.1.getD 0 .u)).bind fun b3 =>
 ((bif (b3 == false) then
 some ([(.b (decide (n1 > 60)))], r2.2)
 else some ([(.b true)], r2.2)) : Option (List AV × AH O)).bind fun r4 =>
 (AV.asB (r4.1.getD 0 .u)).bind fun b5 =>
 (bif b5 then
 some ((.tup [(.p none), (.i .i64 1)]), r4.2)
 else (k99 [(.p p0), (.i .i64 0)] r4.2).bind fun r6 =>
 (AV.asTup 2 r6.1).bind fun c7 =>
 gtI c7 0 fun n8 =>
 gtI c7 1 fun n9 =>
 (bif ((n9 : Int) != 0) then
 some ((.tup [(.p none), (.i .i64 n9)]), r6.2)
 else let h10 := r6.2.bump 1
 let h11 := h10.put r6.2.next (.cells true 239 [(.p p0), (.i .i64 n8), (.i .i64 n1), (.i .i64 0), (.i .i64 0), (.i .i64 0), (.i .i64 0)])
 some ((.tup [(.p (some ((.n r6.2.next), 0))), (.i .i64 0)]), h11)))
 else none
def qca : Sm O := qb9 qb0
theorem qcb : Entered Tryz.prog 128 := Tryz.call128
theorem qcc (k99 : Sm O) : run (O := O) Tryz.prog [(99, k99)] Tryz.f128 (.n .z (.n (.n (.g [(2, 2, [(13, .one .b)]), (6, 2, [(17, .one .b)])]) (.n .z .z)) (.n .z (.n (.n .z (.n .z .z)) .z)))) = qb9 k99 := by kernel_rfl
theorem qcd : FSound RO Tryz.prog 128 qca := sdf (qcc _) (gcons qb1 qb3 <| gnil) Tryz.func128 (by kernel_rfl)
def qce (k128 : Sm O) : Sm O := fun xs h =>
 bif Nat.beq xs.length 1 then
 (AV.asP (xs.getD 0 .u)).bind fun p0 =>
 (k128 [(.p p0), (.i .i64 5)] h).bind fun r1 =>
 (AV.asTup 2 r1.1).bind fun c2 =>
 (AV.asP (c2.getD 0 .u)).bind fun p3 =>
 gtI c2 1 fun n4 =>
 (bif ((n4 : Int) != 0) then
 some ((.tup [(.p none), (.i .i64 n4)]), r1.2)
 else let h5 := r1.2.bump 1
 let h6 := h5.put r1.2.next (.cells true 157 [(.p p0), (.p p3), (.i .i64 0), (.i .i64 0), (.i .i64 0), (.i .i64 0), (.i .i64 0), (.i .i64 0), (.i .u64 0), (.i .i64 0), (.i .i64 0)])
 some ((.tup [(.p (some ((.n r1.2.next), 0))), (.i .i64 0)]), h6))
 else none
def qcf : Sm O := qce qca
theorem qcg : Entered Tryz.prog 85 := Tryz.call85
theorem qch (k128 : Sm O) : run (O := O) Tryz.prog [(128, k128)] Tryz.f85 (.n .z (.n .z (.n (.n .z (.n .z .z)) .z))) = qce k128 := by kernel_rfl
theorem qci : FSound RO Tryz.prog 85 qcf := sdf (qch _) (gcons qcb qcd <| gnil) Tryz.func85 (by kernel_rfl)
def qcj (k83 k84 k85 : Sm O) : Sm O := fun xs h =>
 bif Nat.beq xs.length 2 then
 gtI xs 0 fun n0 =>
 gtI xs 1 fun n1 =>
 ((bif ((decide (n0 < 2)) == false) then
 some ([(.b (decide (n0 > 64)))], h)
 else some ([(.b true)], h)) : Option (List AV × AH O)).bind fun r2 =>
 (AV.asB (r2.1.getD 0 .u)).bind fun b3 =>
 (bif b3 then
 some ((.tup [(.p none), (.i .i64 1)]), r2.2)
 else (k83 [] r2.2).bind fun r4 =>
 (AV.asP r4.1).bind fun p5 =>
 (k84 [(.p p5), (.i .i64 n1)] r4.2).bind fun r6 =>
 (AV.asTup 2 r6.1).bind fun c7 =>
 (AV.asP (c7.getD 0 .u)).bind fun p8 =>
 gtI c7 1 fun n9 =>
 (bif ((n9 : Int) != 0) then
 some ((.tup [(.p none), (.i .i64 n9)]), r6.2)
 else (k85 [(.p p5)] r6.2).bind fun r10 =>
 (AV.asTup 2 r10.1).bind fun c11 =>
 (AV.asP (c11.getD 0 .u)).bind fun p12 =>
 gtI c11 1 fun n13 =>
 (bif ((n13 : Int) != 0) then
 some ((.tup [(.p none), (.i .i64 n13)]), r10.2)
 else let h14 := r10.2.bump 1
 let h15 := h14.put r10.2.next (.cells true 124 [(.p p5), (.p p8), (.p p12), (.i .i64 n0)])
 some ((.tup [(.p (some ((.n r10.2.next), 0))), (.i .i64 0)]), h15))))
 else none
def qck : Sm O := qcj qbk qb5 qcf
theorem qcl : Entered Tryz.prog 45 := Tryz.call45
theorem qcm (k83 k84 k85 : Sm O) : run (O := O) Tryz.prog [(83, k83), (84, k84), (85, k85)] Tryz.f45 (.n .z (.n (.n (.g [(2, 2, [(15, .one .b)])]) (.n .z .z)) (.n .z (.n .z (.n (.n .z (.n .z .z)) (.n .z (.n (.n .z (.n .z .z)) .z))))))) = qcj k83 k84 k85 := by kernel_rfl
theorem qcn : FSound RO Tryz.prog 45 qck := sdf (qcm _ _ _) (gcons qbl qbn <| gcons qb6 qb8 <| gcons qcg qci <| gnil) Tryz.func45 (by kernel_rfl)
def qco : Sm O := fun xs h =>
 bif Nat.beq xs.length 1 then
 (AV.asP (xs.getD 0 .u)).bind fun p0 =>
 Option.bind p0 fun q1 =>
 ldP h q1.1 (q1.2 + 1) fun p3 =>
 some ((.p p3), h)
 else none
def qcp : Sm O := qco
theorem qcq : Entered Tryz.prog 23 := Tryz.call23
theorem qcr : run (O := O) Tryz.prog [] Tryz.f23 (.n .z .z) = qco  := by kernel_rfl
theorem qcs : FSound RO Tryz.prog 23 qcp := sdf qcr (gnil) Tryz.func23 (by kernel_rfl)
def qct : Sm O := fun xs h =>
 bif Nat.beq xs.length 1 then
 (AV.asP (xs.getD 0 .u)).bind fun p0 =>
 Option.bind p0 fun q1 =>
 ldP h q1.1 ((q1.2 + 1) + 1) fun p3 =>
 some ((.p p3), h)
 else none
def qcu : Sm O := qct
theorem qcv : Entered Tryz.prog 32 := Tryz.call32
theorem qcw : run (O := O) Tryz.prog [] Tryz.f32 (.n .z .z) = qct  := by kernel_rfl
theorem qcx : FSound RO Tryz.prog 32 qcu := sdf qcw (gnil) Tryz.func32 (by kernel_rfl)
def qcy : Sm O := fun xs h =>
 bif Nat.beq xs.length 1 then
 (AV.asP (xs.getD 0 .u)).bind fun p0 =>
 Option.bind p0 fun q1 =>
 ldP h q1.1 q1.2 fun p3 =>
 some ((.p p3), h)
 else none
def qcz : Sm O := qcy
theorem qc0 : Entered Tryz.prog 16 := Tryz.call16
theorem qc1 : run (O := O) Tryz.prog [] Tryz.f16 (.n .z .z) = qcy  := by kernel_rfl
theorem qc2 : FSound RO Tryz.prog 16 qcz := sdf qc1 (gnil) Tryz.func16 (by kernel_rfl)
def qc3 : Sm O := fun xs h =>
 bif Nat.beq xs.length 2 then
 gtI xs 0 fun n0 =>
 gtI xs 1 fun n1 =>
 ((bif ((decide (n0 >= 0)) == true) then
 some ([(.b (decide (n0 <= n1)))], h)
 else some ([(.b false)], h)) : Option (List AV × AH O)).bind fun r2 =>
 (AV.asB (r2.1.getD 0 .u)).bind fun b3 =>
 some ((.b b3), r2.2)
 else none
def qc4 : Sm O := qc3
theorem qc5 : Entered Tryz.prog 151 := Tryz.call151
theorem qc6 : run (O := O) Tryz.prog [] Tryz.f151 (.n .z (.n (.g [(2, 3, [(11, .one .b)])]) .z)) = qc3  := by kernel_rfl
theorem qc7 : FSound RO Tryz.prog 151 qc4 := sdf qc6 (gnil) Tryz.func151 (by kernel_rfl)
def qc8 (k151 : Sm O) : Sm O := fun xs h =>
 bif Nat.beq xs.length 1 then
 (AV.asAgg 5 (xs.getD 0 .u)).bind fun c0 =>
 gtI c0 0 fun n1 =>
 gtI c0 1 fun n2 =>
 gtI c0 2 fun n3 =>
 gtI c0 3 fun n4 =>
 (AV.asB (c0.getD 4 .u)).bind fun b5 =>
 let h6 := h.bump 1
 let h7 := h6.put h.next (.cells true 39 [(.i .i64 n1), (.i .i64 n2), (.i .i64 n3), (.i .i64 n4), (.b b5)])
 ldI h7 (.n h.next) 0 fun n9 =>
 (k151 [(.i .i64 n9), (.i .i64 4095)] h7).bind fun r10 =>
 (AV.asB r10.1).bind fun b11 =>
 ((bif ((!b11) == false) then
 ldI r10.2 (.n h.next) 1 fun n13 =>
 (k151 [(.i .i64 n13), (.i .i64 4095)] r10.2).bind fun r14 =>
 (AV.asB r14.1).bind fun b15 =>
 some ([(.b (!b15))], r14.2)
 else some ([(.b true)], r10.2)) : Option (List AV × AH O)).bind fun r16 =>
 (AV.asB (r16.1.getD 0 .u)).bind fun b17 =>
 (bif b17 then
 some ((.i .i64 20), r16.2)
 else ldI r16.2 (.n h.next) 2 fun n19 =>
 (k151 [(.i .i64 n19), (.i .i64 31)] r16.2).bind fun r20 =>
 (AV.asB r20.1).bind fun b21 =>
 (bif (!b21) then
 some ((.i .i64 21), r20.2)
 else ldI r20.2 (.n h.next) 3 fun n23 =>
 (k151 [(.i .i64 n23), (.i .i64 7)] r20.2).bind fun r24 =>
 (AV.asB r24.1).bind fun b25 =>
 (bif (!b25) then
 some ((.i .i64 2), r24.2)
 else some ((.i .i64 0), r24.2))))
 else none
def qc9 : Sm O := qc8 qc4
theorem qda : Entered Tryz.prog 139 := Tryz.call139
theorem qdb (k151 : Sm O) : run (O := O) Tryz.prog [(151, k151)] Tryz.f139 (.n .z (.n (.n (.n (.g [(5, 5, [(15, .one .b)])]) (.n .z (.n .z (.n .z (.n .z (.n .z .z)))))) .z) .z)) = qc8 k151 := by kernel_rfl
theorem qdc : FSound RO Tryz.prog 139 qc9 := sdf (qdb _) (gcons qc5 qc7 <| gnil) Tryz.func139 (by kernel_rfl)
def qdd (k139 : Sm O) : Sm O := fun xs h =>
 bif Nat.beq xs.length 1 then
 (AV.asAgg 2 (xs.getD 0 .u)).bind fun c0 =>
 gtI c0 0 fun n1 =>
 gtI c0 1 fun n2 =>
 let h3 := h.bump 1
 let h4 := h3.put h.next (.cells true 37 [(.i .i64 n1), (.i .i64 n2)])
 ldI h4 (.n h.next) 0 fun n6 =>
 ldI h4 (.n h.next) 1 fun n8 =>
 (k139 [(.agg [(.i .i64 n6), (.i .i64 n8), (.i .i64 0), (.i .i64 0), (.b false)])] h4).bind fun r9 =>
 (AV.asI .i64 r9.1).bind fun n10 =>
 some ((.b ((n10 : Int) == 0)), r9.2)
 else none
def qde : Sm O := qdd qc9
theorem qdf : Entered Tryz.prog 145 := Tryz.call145
theorem qdg (k139 : Sm O) : run (O := O) Tryz.prog [(139, k139)] Tryz.f145 (.n .z .z) = qdd k139 := by kernel_rfl
theorem qdh : FSound RO Tryz.prog 145 qde := sdf (qdg _) (gcons qda qdc <| gnil) Tryz.func145 (by kernel_rfl)
def qdi : Sm O := fun xs h =>
 bif Nat.beq xs.length 1 then
 (AV.asAgg 5 (xs.getD 0 .u)).bind fun c0 =>
 gtI c0 0 fun n1 =>
 gtI c0 1 fun n2 =>
 gtI c0 2 fun n3 =>
 gtI c0 3 fun n4 =>
 (AV.asB (c0.getD 4 .u)).bind fun b5 =>
 let h6 := h.bump 1
 let h7 := h6.put h.next (.cells true 39 [(.i .i64 n1), (.i .i64 n2), (.i .i64 n3), (.i .i64 n4), (.b b5)])
 ldI h7 (.n h.next) 0 fun n9 =>
 ldI h7 (.n h.next) 1 fun n11 =>
 let v12 : Int := (IntKind.i64.wrap ((IntKind.i64.wrap (1 + n9)) + n11))
 some ((.i .i64 v12), h7)
 else none
def qdj : Sm O := qdi
theorem qdk : Entered Tryz.prog 89 := Tryz.call89
theorem qdl : run (O := O) Tryz.prog [] Tryz.f89 (.n .z .z) = qdi  := by kernel_rfl
theorem qdm : FSound RO Tryz.prog 89 qdj := sdf qdl (gnil) Tryz.func89 (by kernel_rfl)
def qdn (k145 k89 : Sm O) : Sm O := fun xs h =>
 bif Nat.beq xs.length 1 then
 (AV.asAgg 2 (xs.getD 0 .u)).bind fun c0 =>
 gtI c0 0 fun n1 =>
 gtI c0 1 fun n2 =>
 let h3 := h.bump 1
 let h4 := h3.put h.next (.cells true 37 [(.i .i64 n1), (.i .i64 n2)])
 ldI h4 (.n h.next) 0 fun n6 =>
 ldI h4 (.n h.next) 1 fun n8 =>
 (k145 [(.agg [(.i .i64 n6), (.i .i64 n8)])] h4).bind fun r9 =>
 (AV.asB r9.1).bind fun b10 =>
 (bif (!b10) then
 some ((.i .i64 0), r9.2)
 else ldI r9.2 (.n h.next) 0 fun n12 =>
 ldI r9.2 (.n h.next) 1 fun n14 =>
 (k89 [(.agg [(.i .i64 n12), (.i .i64 n14), (.i .i64 0), (.i .i64 0), (.b false)])] r9.2).bind fun r15 =>
 (AV.asI .i64 r15.1).bind fun n16 =>
 some ((.i .i64 n16), r15.2))
 else none
def qdo : Sm O := qdn qde qdj
theorem qdp : Entered Tryz.prog 138 := Tryz.call138
theorem qdq (k145 k89 : Sm O) : run (O := O) Tryz.prog [(145, k145), (89, k89)] Tryz.f138 (.n .z (.n (.n .z (.n .z .z)) .z)) = qdn k145 k89 := by kernel_rfl
theorem qdr : FSound RO Tryz.prog 138 qdo := sdf (qdq _ _) (gcons qdf qdh <| gcons qdk qdm <| gnil) Tryz.func138 (by kernel_rfl)
def qds (k138 : Sm O) : Sm O := fun xs h =>
 bif Nat.beq xs.length 2 then
 (AV.asAgg 2 (xs.getD 0 .u)).bind fun c0 =>
 gtI c0 0 fun n1 =>
 gtI c0 1 fun n2 =>
 gtI xs 1 fun n3 =>
 let h4 := h.bump 1
 let h5 := h4.put h.next (.cells true 37 [(.i .i64 n1), (.i .i64 n2)])
 ldI h5 (.n h.next) 0 fun n7 =>
 ldI h5 (.n h.next) 1 fun n9 =>
 (k138 [(.agg [(.i .i64 n7), (.i .i64 n9)])] h5).bind fun r10 =>
 (AV.asI .i64 r10.1).bind fun n11 =>
 some ((.b (decide (n11 > n3))), r10.2)
 else none
def qdt : Sm O := qds qdo
theorem qdu : Entered Tryz.prog 86 := Tryz.call86
theorem qdv (k138 : Sm O) : run (O := O) Tryz.prog [(138, k138)] Tryz.f86 (.n .z .z) = qds k138 := by kernel_rfl
theorem qdw : FSound RO Tryz.prog 86 qdt := sdf (qdv _) (gcons qdp qdr <| gnil) Tryz.func86 (by kernel_rfl)
def qdx (n4 : Int) (n6 : Int) (n8 : Int) (n10 : Int) (n12 : Int) : List AV × AH O -> Option ((List AV × AH O) ⊕ (List AV × AH O)) := (fun r13 =>
 (AV.asSl (r13.1.getD 0 .u)).bind fun l14 =>
 (AV.asI .i64 (r13.1.getD 1 .u)).bind fun n15 =>
 (AV.asI .i64 (r13.1.getD 2 .u)).bind fun n16 =>
 (bif (decide (n16 < 5)) then
 (bif ((decide ((0 : Int) <= n16)) && (decide (n16 < 5))) then
 (([(.i .i64 n4), (.i .i64 n6), (.i .i64 n8), (.i .i64 n10), (.i .i64 n12)] : List AV)[(n16.toNat * 1)]?).bind fun w17 =>
 (AV.asI .i64 w17).bind fun n18 =>
 let h19 := r13.2.bump 2
 let h20 := h19.put r13.2.next (.cells true 195 [(.i .i64 n15), (.i .i64 n18)])
 (h20.rdSl (.loc (.n r13.2.next) 0 2) 1 2).bind fun new21 =>
 (bif (Nat.ble ((l14.2 + 1) * 17) 35184372088832) then
 (h20.appSl (r13.2.next + 1) 195 2 l14.1 l14.2 1 new21).bind fun r22 =>
 (AV.asSl r22.1).bind fun l23 =>
 some (Sum.inl ([(.sl l23.1 l23.2), (.i .i64 (IntKind.i64.wrap (n15 + n18))), (.i .i64 (IntKind.i64.wrap (n16 + 1)))], r22.2))
 else none)
 else none)
 else some (Sum.inr ([(.sl l14.1 l14.2)], r13.2))))
def qdy : Sm O := fun xs h =>
 bif Nat.beq xs.length 0 then
 let h0 := h.bump 1
 let h1 := h0.put h.next (.cells true 232 [(.i .i64 0), (.i .i64 0), (.i .i64 0), (.i .i64 0), (.i .i64 0)])
 (h1.st (.n h.next) 0 [(.i .i64 12), (.i .i64 12), (.i .i64 5), (.i .i64 3), (.i .i64 1)]).bind fun h2 =>
 ldI h2 (.n h.next) 0 fun n4 =>
 ldI h2 (.n h.next) 1 fun n6 =>
 ldI h2 (.n h.next) 2 fun n8 =>
 ldI h2 (.n h.next) 3 fun n10 =>
 ldI h2 (.n h.next) 4 fun n12 =>
 (loopF (S := List AV × AH O) (T := List AV × AH O) (qdx n4 n6 n8 n10 n12) ([(.sl .nil 0), (.i .i64 0), (.i .i64 0)], h2)).bind fun r24 =>
 (AV.asSl (r24.1.getD 0 .u)).bind fun l25 =>
 let h26 := r24.2.bump 2
 let h27 := h26.put r24.2.next (.cells true 195 [(.i .i64 62), (.i .i64 1)])
 (h27.rdSl (.loc (.n r24.2.next) 0 2) 1 2).bind fun new28 =>
 (bif (Nat.ble ((l25.2 + 1) * 17) 35184372088832) then
 (h27.appSl (r24.2.next + 1) 195 2 l25.1 l25.2 1 new28).bind fun r29 =>
 (AV.asSl r29.1).bind fun l30 =>
 some ((.sl l30.1 l30.2), r29.2)
 else none)
 else none
def qdz : Sm O := qdy
theorem qd0 : Entered Tryz.prog 110 := Tryz.call110
theorem qd1 : run (O := O) Tryz.prog [] Tryz.f110 (.n .z (.n .z (.n .z (.n .z (.n (.n .z (.n (.lp false 0 [(2, .one .sl), (3, .one (.i .i64)), (8, .one (.i .i64))] [(2, .one .sl)] (.n .z (.n .z (.n (.n (.n .z .z) .z) .z)))) .z)) .z))))) = qdy  := by kernel_rfl
theorem qd2 : FSound RO Tryz.prog 110 qdz := sdf qd1 (gnil) Tryz.func110 (by kernel_rfl)
def qd3 : Sm O := fun xs h =>
 bif Nat.beq xs.length 1 then
 (AV.asAgg 2 (xs.getD 0 .u)).bind fun c0 =>
 gtI c0 0 fun n1 =>
 gtI c0 1 fun n2 =>
 let h3 := h.bump 1
 let h4 := h3.put h.next (.cells true 195 [(.i .i64 n1), (.i .i64 n2)])
 ldI h4 (.n h.next) 1 fun n6 =>
 ((bif ((decide (n6 >= 1)) == true) then
 ldI h4 (.n h.next) 1 fun n8 =>
 some ([(.b (decide (n8 <= 64)))], h4)
 else some ([(.b false)], h4)) : Option (List AV × AH O)).bind fun r9 =>
 (AV.asB (r9.1.getD 0 .u)).bind fun b10 =>
 ((bif (b10 == true) then
 ldI r9.2 (.n h.next) 0 fun n12 =>
 some ([(.b (decide (n12 >= 0)))], r9.2)
 else some ([(.b false)], r9.2)) : Option (List AV × AH O)).bind fun r13 =>
 (AV.asB (r13.1.getD 0 .u)).bind fun b14 =>
 ((bif (b14 == true) then
 ldI r13.2 (.n h.next) 0 fun n16 =>
 ldI r13.2 (.n h.next) 1 fun n18 =>
 some ([(.b (decide (n16 <= (IntKind.i64.wrap (64 - n18)))))], r13.2)
 else some ([(.b false)], r13.2)) : Option (List AV × AH O)).bind fun r19 =>
 (AV.asB (r19.1.getD 0 .u)).bind fun b20 =>
 some ((.b b20), r19.2)
 else none
def qd4 : Sm O := qd3
theorem qd5 : Entered Tryz.prog 153 := Tryz.call153
theorem qd6 : run (O := O) Tryz.prog [] Tryz.f153 (.n .z (.n (.g [(3, 3, [(10, .one .b)]), (8, 3, [(15, .one .b)]), (13, 6, [(23, .one .b)])]) .z)) = qd3  := by kernel_rfl
theorem qd7 : FSound RO Tryz.prog 153 qd4 := sdf qd6 (gnil) Tryz.func153 (by kernel_rfl)
def qd8 (k153 : Sm O) : Sm O := fun xs h =>
 bif Nat.beq xs.length 1 then
 (AV.asAgg 2 (xs.getD 0 .u)).bind fun c0 =>
 gtI c0 0 fun n1 =>
 gtI c0 1 fun n2 =>
 let h3 := h.bump 1
 let h4 := h3.put h.next (.cells true 195 [(.i .i64 n1), (.i .i64 n2)])
 ldI h4 (.n h.next) 0 fun n6 =>
 ldI h4 (.n h.next) 1 fun n8 =>
 (k153 [(.agg [(.i .i64 n6), (.i .i64 n8)])] h4).bind fun r9 =>
 (AV.asB r9.1).bind fun b10 =>
 (bif (!b10) then
 some ((.i .u64 0), r9.2)
 else ldI r9.2 (.n h.next) 1 fun n12 =>
 (bif (decide ((IntKind.i64.wrap (64 - n12)) < 0)) then
 none
 else let v13 : Int := (Int.fdiv 18446744073709551615 (2 ^ min (IntKind.i64.wrap (64 - n12)).toNat 64))
 ldI r9.2 (.n h.next) 0 fun n15 =>
 (bif (decide (n15 < 0)) then
 none
 else some ((.i .u64 (IntKind.u64.wrap (v13 * 2 ^ min n15.toNat 64))), r9.2))))
 else none
def qd9 : Sm O := qd8 qd4
theorem qea : Entered Tryz.prog 154 := Tryz.call154
theorem qeb (k153 : Sm O) : run (O := O) Tryz.prog [(153, k153)] Tryz.f154 (.n .z (.n (.n .z (.n .z .z)) (.n (.d [] [0, 1, 2, 3, 4, 5, 6, 7] [0, 1, 3, 7, 0, 16, 63, 127]) .z))) = qd8 k153 := by kernel_rfl
theorem qec : FSound RO Tryz.prog 154 qd9 := sdf (qeb _) (gcons qd5 qd7 <| gnil) Tryz.func154 (by kernel_rfl)
def qed (l0 : SA × Nat) (k154 : Sm O) : List AV × AH O -> Option ((List AV × AH O) ⊕ ((List AV × AH O) ⊕ (AV × AH O))) := (fun r1 =>
 (AV.asI .u64 (r1.1.getD 0 .u)).bind fun n2 =>
 (AV.asI .i64 (r1.1.getD 1 .u)).bind fun n3 =>
 (bif (decide (n3 < (l0.2 : Int))) then
 let h4 := r1.2.bump 1
 (bif ((decide ((0 : Int) <= n3)) && (decide (n3 < (l0.2 : Int)))) then
 (SA.ref l0.1).bind fun q5 =>
 ldI h4 q5.1 (q5.2 + (n3.toNat * 2)) fun n7 =>
 ldI h4 q5.1 ((q5.2 + (n3.toNat * 2)) + 1) fun n9 =>
 let h10 := h4.put r1.2.next (.cells true 195 [(.i .i64 0), (.i .i64 0)])
 (h10.st (.n r1.2.next) 0 [(.i .i64 n7), (.i .i64 n9)]).bind fun h11 =>
 ldI h11 (.n r1.2.next) 0 fun n13 =>
 ldI h11 (.n r1.2.next) 1 fun n15 =>
 (k154 [(.agg [(.i .i64 n13), (.i .i64 n15)])] h11).bind fun r16 =>
 (AV.asI .u64 r16.1).bind fun n17 =>
 ((bif (((n17 : Int) == 0) == false) then
 some ([(.b (((ibits .and .u64 n2 n17) : Int) != 0))], r16.2)
 else some ([(.b true)], r16.2)) : Option (List AV × AH O)).bind fun r18 =>
 (AV.asB (r18.1.getD 0 .u)).bind fun b19 =>
 (bif b19 then
 ((some ((.b false), r18.2) : Option (AV × AH O)).map fun r => Sum.inr (Sum.inr r))
 else some (Sum.inl ([(.i .u64 (ibits .or .u64 n2 n17)), (.i .i64 (IntKind.i64.wrap (n3 + 1)))], r18.2)))
 else none)
 else some (Sum.inr (Sum.inl ([], r1.2)))))
def qee (k154 : Sm O) : Sm O := fun xs h =>
 bif Nat.beq xs.length 1 then
 gtS xs 0 fun l0 =>
 bindS (S := List AV × AH O) (R := (AV × AH O)) (loopF (S := List AV × AH O) (T := (List AV × AH O) ⊕ (AV × AH O)) (qed l0 k154) ([(.i .u64 0), (.i .i64 0)], h)) fun r20 =>
 some ((.b true), r20.2)
 else none
def qef : Sm O := qee qd9
theorem qeg : Entered Tryz.prog 173 := Tryz.call173
theorem qeh (k154 : Sm O) : run (O := O) Tryz.prog [(154, k154)] Tryz.f173 (.n .z (.n .z (.n (.n .z (.n (.lp true 0 [(3, .one (.i .u64)), (9, .one (.i .i64))] [] (.n .z (.n .z (.n (.n (.n .z (.n .z (.n (.n (.g [(2, 4, [(22, .one .b)])]) (.n .z .z)) .z))) .z) .z)))) .z)) .z))) = qee k154 := by kernel_rfl
theorem qei : FSound RO Tryz.prog 173 qef := sdf (qeh _) (gcons qea qec <| gnil) Tryz.func173 (by kernel_rfl)
def qej : Sm O := fun xs h =>
 bif Nat.beq xs.length 1 then
 gtU xs 0 fun n0 =>
 ((bif (decide (n0 >= 4294967296)) then
 some ([(.i .u64 (Int.fdiv n0 (2 ^ 32))), (.i .i64 32)], h)
 else some ([(.i .u64 n0), (.i .i64 0)], h)) : Option (List AV × AH O)).bind fun r1 =>
 (AV.asI .u64 (r1.1.getD 0 .u)).bind fun n2 =>
 (AV.asI .i64 (r1.1.getD 1 .u)).bind fun n3 =>
 ((bif (decide (n2 >= 65536)) then
 some ([(.i .u64 (Int.fdiv n2 (2 ^ 16))), (.i .i64 (IntKind.i64.wrap (n3 + 16)))], r1.2)
 else some ([(.i .u64 n2), (.i .i64 n3)], r1.2)) : Option (List AV × AH O)).bind fun r4 =>
 (AV.asI .u64 (r4.1.getD 0 .u)).bind fun n5 =>
 (AV.asI .i64 (r4.1.getD 1 .u)).bind fun n6 =>
 ((bif (decide (n5 >= 256)) then
 some ([(.i .u64 (Int.fdiv n5 (2 ^ 8))), (.i .i64 (IntKind.i64.wrap (n6 + 8)))], r4.2)
 else some ([(.i .u64 n5), (.i .i64 n6)], r4.2)) : Option (List AV × AH O)).bind fun r7 =>
 (AV.asI .u64 (r7.1.getD 0 .u)).bind fun n8 =>
 (AV.asI .i64 (r7.1.getD 1 .u)).bind fun n9 =>
 (bif (decide ((0 : Int) <= (IntKind.u8.wrap n8))) then
 (([0, 1, 2, 2, 3, 3, 3, 3, 4, 4, 4, 4, 4, 4, 4, 4, 5, 5, 5, 5, 5, 5, 5, 5, 5, 5, 5, 5, 5, 5, 5, 5, 6, 6, 6, 6, 6, 6, 6, 6, 6, 6, 6, 6, 6, 6, 6, 6, 6, 6, 6, 6, 6, 6, 6, 6, 6, 6, 6, 6, 6, 6, 6, 6, 7, 7, 7, 7, 7, 7, 7, 7, 7, 7, 7, 7, 7, 7, 7, 7, 7, 7, 7, 7, 7, 7, 7, 7, 7, 7, 7, 7, 7, 7, 7, 7, 7, 7, 7, 7, 7, 7, 7, 7, 7, 7, 7, 7, 7, 7, 7, 7, 7, 7, 7, 7, 7, 7, 7, 7, 7, 7, 7, 7, 7, 7, 7, 7, 8, 8, 8, 8, 8, 8, 8, 8, 8, 8, 8, 8, 8, 8, 8, 8, 8, 8, 8, 8, 8, 8, 8, 8, 8, 8, 8, 8, 8, 8, 8, 8, 8, 8, 8, 8, 8, 8, 8, 8, 8, 8, 8, 8, 8, 8, 8, 8, 8, 8, 8, 8, 8, 8, 8, 8, 8, 8, 8, 8, 8, 8, 8, 8, 8, 8, 8, 8, 8, 8, 8, 8, 8, 8, 8, 8, 8, 8, 8, 8, 8, 8, 8, 8, 8, 8, 8, 8, 8, 8, 8, 8, 8, 8, 8, 8, 8, 8, 8, 8, 8, 8, 8, 8, 8, 8, 8, 8, 8, 8, 8, 8, 8, 8, 8, 8, 8, 8, 8, 8, 8, 8, 8, 8, 8, 8, 8, 8] : List UInt8)[(IntKind.u8.wrap n8).toNat]?).bind fun y10 =>
 let v11 : Int := (IntKind.i64.wrap (n9 + (IntKind.i64.wrap (y10.toNat : Int))))
 some ((.i .i64 v11), r7.2)
 else none)
 else none
def qek : Sm O := qej
theorem qel : Entered Tryz.prog 185 := Tryz.call185
theorem qem : run (O := O) Tryz.prog [] Tryz.f185 (.n .z (.n (.n .z (.j false [(0, .one (.i .u64)), (2, .one (.i .i64))] .z .z)) (.n (.n .z (.j false [(0, .one (.i .u64)), (2, .one (.i .i64))] .z .z)) (.n (.n .z (.j false [(0, .one (.i .u64)), (2, .one (.i .i64))] .z .z)) .z)))) = qej  := by kernel_rfl
theorem qen : FSound RO Tryz.prog 185 qek := sdf qem (gnil) Tryz.func185 (by kernel_rfl)
def qeo (k153 k185 k154 : Sm O) : Sm O := fun xs h =>
 bif Nat.beq xs.length 3 then
 gtU xs 0 fun n0 =>
 (AV.asAgg 2 (xs.getD 1 .u)).bind fun c1 =>
 gtI c1 0 fun n2 =>
 gtI c1 1 fun n3 =>
 gtU xs 2 fun n4 =>
 let h5 := h.bump 1
 let h6 := h5.put h.next (.cells true 195 [(.i .i64 n2), (.i .i64 n3)])
 ldI h6 (.n h.next) 0 fun n8 =>
 ldI h6 (.n h.next) 1 fun n10 =>
 (k153 [(.agg [(.i .i64 n8), (.i .i64 n10)])] h6).bind fun r11 =>
 (AV.asB r11.1).bind fun b12 =>
 (bif (!b12) then
 some ((.tup [(.i .u64 0), (.i .i64 1)]), r11.2)
 else ldI r11.2 (.n h.next) 1 fun n14 =>
 (k185 [(.i .u64 n4)] r11.2).bind fun r15 =>
 (AV.asI .i64 r15.1).bind fun n16 =>
 (chkE (r15.2.ld (.n h.next) 1) (some (.i .i64 n14))).bind fun _ =>
 (bif (decide (n16 > n14)) then
 some ((.tup [(.i .u64 0), (.i .i64 2)]), r15.2)
 else ldI r15.2 (.n h.next) 0 fun n18 =>
 ldI r15.2 (.n h.next) 1 fun n20 =>
 ldI r15.2 (.n h.next) 0 fun n22 =>
 (bif (decide (n22 < 0)) then
 none
 else (k154 [(.agg [(.i .i64 n18), (.i .i64 n20)])] r15.2).bind fun r23 =>
 (AV.asI .u64 r23.1).bind fun n24 =>
 (chkE (r23.2.ld (.n h.next) 0) (some (.i .i64 n22))).bind fun _ =>
 let v25 : Int := (ibits .or .u64 (ibits .andNot .u64 n0 n24) (IntKind.u64.wrap (n4 * 2 ^ min n22.toNat 64)))
 some ((.tup [(.i .u64 v25), (.i .i64 0)]), r23.2))))
 else none
def qep : Sm O := qeo qd4 qek qd9
theorem qeq : Entered Tryz.prog 174 := Tryz.call174
theorem qer (k153 k185 k154 : Sm O) : run (O := O) Tryz.prog [(153, k153), (185, k185), (154, k154)] Tryz.f174 (.n .z (.n (.n (.n .z (.n .z (.n (.d [] [0, 2, 3, 1, 4, 5] [0, 1, 0, 4, 15, 31]) (.n .z .z)))) .z) (.n (.d [] [0, 1, 4, 5, 6, 7, 2, 3, 8, 9, 10] [0, 0, 2, 7, 0, 0, 32, 112, 255, 511, 1023]) .z))) = qeo k153 k185 k154 := by kernel_rfl
theorem qes : FSound RO Tryz.prog 174 qep := sdf (qer _ _ _) (gcons qd5 qd7 <| gcons qel qen <| gcons qea qec <| gnil) Tryz.func174 (by kernel_rfl)
def qet (l0 : SA × Nat) (l1 : SA × Nat) (k174 : Sm O) : List AV × AH O -> Option ((List AV × AH O) ⊕ ((List AV × AH O) ⊕ (AV × AH O))) := (fun r6 =>
 (AV.asI .u64 (r6.1.getD 0 .u)).bind fun n7 =>
 (AV.asI .i64 (r6.1.getD 1 .u)).bind fun n8 =>
 (bif (decide (n8 < (l0.2 : Int))) then
 let h9 := r6.2.bump 1
 (bif ((decide ((0 : Int) <= n8)) && (decide (n8 < (l0.2 : Int)))) then
 (SA.ref l0.1).bind fun q10 =>
 ldI h9 q10.1 (q10.2 + (n8.toNat * 2)) fun n12 =>
 ldI h9 q10.1 ((q10.2 + (n8.toNat * 2)) + 1) fun n14 =>
 let h15 := h9.put r6.2.next (.cells true 195 [(.i .i64 0), (.i .i64 0)])
 (h15.st (.n r6.2.next) 0 [(.i .i64 n12), (.i .i64 n14)]).bind fun h16 =>
 ldI h16 (.n r6.2.next) 0 fun n18 =>
 ldI h16 (.n r6.2.next) 1 fun n20 =>
 (bif ((decide ((0 : Int) <= n8)) && (decide (n8 < (l1.2 : Int)))) then
 (SA.ref l1.1).bind fun q21 =>
 ldU h16 q21.1 (q21.2 + (n8.toNat * 1)) fun n23 =>
 (k174 [(.i .u64 n7), (.agg [(.i .i64 n18), (.i .i64 n20)]), (.i .u64 n23)] h16).bind fun r24 =>
 (AV.asTup 2 r24.1).bind fun c25 =>
 gtU c25 0 fun n26 =>
 gtI c25 1 fun n27 =>
 (bif ((n27 : Int) != 0) then
 ((some ((.tup [(.i .u64 0), (.i .i64 n27)]), r24.2) : Option (AV × AH O)).map fun r => Sum.inr (Sum.inr r))
 else some (Sum.inl ([(.i .u64 n26), (.i .i64 (IntKind.i64.wrap (n8 + 1)))], r24.2)))
 else none)
 else none)
 else some (Sum.inr (Sum.inl ([(.i .u64 n7)], r6.2)))))
def qeu (k173 k174 : Sm O) : Sm O := fun xs h =>
 bif Nat.beq xs.length 2 then
 gtS xs 0 fun l0 =>
 gtS xs 1 fun l1 =>
 (k173 [(.sl l0.1 l0.2)] h).bind fun r2 =>
 (AV.asB r2.1).bind fun b3 =>
 ((bif ((!b3) == false) then
 some ([(.b (((l0.2 : Int) : Int) != (l1.2 : Int)))], r2.2)
 else some ([(.b true)], r2.2)) : Option (List AV × AH O)).bind fun r4 =>
 (AV.asB (r4.1.getD 0 .u)).bind fun b5 =>
 (bif b5 then
 some ((.tup [(.i .u64 0), (.i .i64 1)]), r4.2)
 else bindS (S := List AV × AH O) (R := (AV × AH O)) (loopF (S := List AV × AH O) (T := (List AV × AH O) ⊕ (AV × AH O)) (qet l0 l1 k174) ([(.i .u64 0), (.i .i64 0)], r4.2)) fun r28 =>
 (AV.asI .u64 (r28.1.getD 0 .u)).bind fun n29 =>
 some ((.tup [(.i .u64 n29), (.i .i64 0)]), r28.2))
 else none
def qev : Sm O := qeu qef qep
theorem qew : Entered Tryz.prog 140 := Tryz.call140
theorem qex (k173 k174 : Sm O) : run (O := O) Tryz.prog [(173, k173), (174, k174)] Tryz.f140 (.n .z (.n (.n (.g [(3, 5, [(20, .one .b)])]) (.n .z .z)) (.n .z (.n (.n .z (.n (.lp true 0 [(6, .one (.i .u64)), (23, .one (.i .i64))] [(6, .one (.i .u64))] (.n .z (.n .z (.n (.n (.n .z (.n (.d [] [0, 1, 2, 3, 4, 5, 6, 7, 8, 9, 10, 11] [0, 0, 0, 0, 12, 28, 63, 127, 255, 255, 511, 2047]) (.n (.n .z (.n .z .z)) .z))) .z) .z)))) .z)) .z)))) = qeu k173 k174 := by kernel_rfl
theorem qey : FSound RO Tryz.prog 140 qev := sdf (qex _ _) (gcons qeg qei <| gcons qeq qes <| gnil) Tryz.func140 (by kernel_rfl)
def qez (k139 k110 k140 : Sm O) : Sm O := fun xs h =>
 bif Nat.beq xs.length 1 then
 (AV.asAgg 5 (xs.getD 0 .u)).bind fun c0 =>
 gtI c0 0 fun n1 =>
 gtI c0 1 fun n2 =>
 gtI c0 2 fun n3 =>
 gtI c0 3 fun n4 =>
 (AV.asB (c0.getD 4 .u)).bind fun b5 =>
 let h6 := h.bump 1
 let h7 := h6.put h.next (.cells true 39 [(.i .i64 n1), (.i .i64 n2), (.i .i64 n3), (.i .i64 n4), (.b b5)])
 ldI h7 (.n h.next) 0 fun n9 =>
 ldI h7 (.n h.next) 1 fun n11 =>
 ldI h7 (.n h.next) 2 fun n13 =>
 ldI h7 (.n h.next) 3 fun n15 =>
 (h7.ld (.n h.next) 4).bind fun w16 =>
 (AV.asB w16).bind fun b17 =>
 (k139 [(.agg [(.i .i64 n9), (.i .i64 n11), (.i .i64 n13), (.i .i64 n15), (.b b17)])] h7).bind fun r18 =>
 (AV.asI .i64 r18.1).bind fun n19 =>
 (bif ((n19 : Int) != 0) then
 some ((.tup [(.i .u64 0), (.i .i64 n19)]), r18.2)
 else (r18.2.ld (.n h.next) 4).bind fun w20 =>
 (AV.asB w20).bind fun b21 =>
 ((bif b21 then
 some ([(.i .u64 1)], r18.2)
 else some ([(.i .u64 0)], r18.2)) : Option (List AV × AH O)).bind fun r22 =>
 (AV.asI .u64 (r22.1.getD 0 .u)).bind fun n23 =>
 let h24 := r22.2.bump 1
 ldI h24 (.n h.next) 0 fun n26 =>
 ldI h24 (.n h.next) 1 fun n28 =>
 ldI h24 (.n h.next) 2 fun n30 =>
 ldI h24 (.n h.next) 3 fun n32 =>
 (k110 [] h24).bind fun r33 =>
 (AV.asSl r33.1).bind fun l34 =>
 (chkE (r33.2.ld (.n h.next) 0) (some (.i .i64 n26))).bind fun _ =>
 (chkE (r33.2.ld (.n h.next) 1) (some (.i .i64 n28))).bind fun _ =>
 (chkE (r33.2.ld (.n h.next) 2) (some (.i .i64 n30))).bind fun _ =>
 (chkE (r33.2.ld (.n h.next) 3) (some (.i .i64 n32))).bind fun _ =>
 let h35 := r33.2.put r22.2.next (.cells true 33 [(.i .u64 (IntKind.u64.wrap n26)), (.i .u64 (IntKind.u64.wrap n28)), (.i .u64 (IntKind.u64.wrap n30)), (.i .u64 (IntKind.u64.wrap n32)), (.i .u64 n23), (.i .u64 1)])
 (k140 [(.sl l34.1 l34.2), (.sl (.loc (.n r22.2.next) 0 1) 6)] h35).bind fun r36 =>
 (AV.asTup 2 r36.1).bind fun c37 =>
 gtU c37 0 fun n38 =>
 gtI c37 1 fun n39 =>
 some ((.tup [(.i .u64 n38), (.i .i64 n39)]), r36.2))
 else none
def qe0 : Sm O := qez qc9 qdz qev
theorem qe1 : Entered Tryz.prog 87 := Tryz.call87
theorem qe2 (k139 k110 k140 : Sm O) : run (O := O) Tryz.prog [(139, k139), (110, k110), (140, k140)] Tryz.f87 (.n .z (.n (.n .z (.n .z (.n .z .z))) (.n .z (.n (.n .z (.j false [(5, .one (.i .u64))] .z .z)) (.n (.d [] [1, 2, 3, 4, 5, 6, 7, 8, 9, 10, 11, 12, 13, 14, 15, 0, 16, 17, 18, 19, 20, 21] [0, 0, 2, 6, 14, 0, 32, 96, 224, 0, 512, 1536, 0, 4096, 12288, 0, 65534, 131071, 262143, 262143, 1048575, 2097151]) .z))))) = qez k139 k110 k140 := by kernel_rfl
theorem qe3 : FSound RO Tryz.prog 87 qe0 := sdf (qe2 _ _ _) (gcons qda qdc <| gcons qd0 qd2 <| gcons qew qey <| gnil) Tryz.func87 (by kernel_rfl)
def qe4 : Sm O := fun xs h =>
 bif Nat.beq xs.length 1 then
 (AV.asP (xs.getD 0 .u)).bind fun p0 =>
 Option.bind p0 fun q1 =>
 ldI h q1.1 (q1.2 + 2) fun n3 =>
 some ((.i .i64 (IntKind.i64.wrap (n3 + 1))), h)
 else none
def qe5 : Sm O := qe4
theorem qe6 : Entered Tryz.prog 176 := Tryz.call176
theorem qe7 : run (O := O) Tryz.prog [] Tryz.f176 (.n .z .z) = qe4  := by kernel_rfl
theorem qe8 : FSound RO Tryz.prog 176 qe5 := sdf qe7 (gnil) Tryz.func176 (by kernel_rfl)
def qe9 : Sm O := fun xs h =>
 bif Nat.beq xs.length 2 then
 (AV.asP (xs.getD 0 .u)).bind fun p0 =>
 gtI xs 1 fun n1 =>
 ((bif ((decide (n1 < 0)) == false) then
 Option.bind p0 fun q2 =>
 ldS h q2.1 (q2.2 + 1) fun l4 =>
 some ([(.b (decide (n1 >= (l4.2 : Int))))], h)
 else some ([(.b true)], h)) : Option (List AV × AH O)).bind fun r5 =>
 (AV.asB (r5.1.getD 0 .u)).bind fun b6 =>
 ((bif (b6 == false) then
 Option.bind p0 fun q7 =>
 ldS r5.2 q7.1 (q7.2 + 1) fun l9 =>
 (bif ((decide ((0 : Int) <= n1)) && (decide (n1 < (l9.2 : Int)))) then
 (SA.ref l9.1).bind fun q10 =>
 (r5.2.ld q10.1 ((q10.2 + (n1.toNat * 2)) + 1)).bind fun w11 =>
 (AV.asB w11).bind fun b12 =>
 some ([(.b (!b12))], r5.2)
 else none)
 else some ([(.b true)], r5.2)) : Option (List AV × AH O)).bind fun r13 =>
 (AV.asB (r13.1.getD 0 .u)).bind fun b14 =>
 (bif b14 then
 some ((.p none), r13.2)
 else Option.bind p0 fun q15 =>
 ldS r13.2 q15.1 (q15.2 + 1) fun l17 =>
 (bif ((decide ((0 : Int) <= n1)) && (decide (n1 < (l17.2 : Int)))) then
 (SA.ref l17.1).bind fun q18 =>
 some ((.p (some (q18.1, (q18.2 + (n1.toNat * 2))))), r13.2)
 else none))
 else none
def qfa : Sm O := qe9
theorem qfb : Entered Tryz.prog 124 := Tryz.call124
theorem qfc : run (O := O) Tryz.prog [] Tryz.f124 (.n .z (.n (.n (.g [(2, 7, [(15, .one .b)]), (11, 9, [(26, .one .b)])]) (.n .z .z)) .z)) = qe9  := by kernel_rfl
theorem qfd : FSound RO Tryz.prog 124 qfa := sdf qfc (gnil) Tryz.func124 (by kernel_rfl)
def qfe (k124 k146 : Sm O) : Sm O := fun xs h =>
 bif Nat.beq xs.length 3 then
 (AV.asP (xs.getD 0 .u)).bind fun p0 =>
 gtI xs 1 fun n1 =>
 gtI xs 2 fun n2 =>
 (k124 [(.p p0), (.i .i64 n1)] h).bind fun r3 =>
 (AV.asP r3.1).bind fun p4 =>
 (bif (Option.isNone p4) then
 some ((.i .i64 10), r3.2)
 else Option.bind p4 fun q5 =>
 ldS r3.2 q5.1 q5.2 fun l7 =>
 (bif (decide (n2 < (l7.2 : Int))) then
 some ((.i .i64 1), r3.2)
 else (bif (decide (n2 > 4194304)) then
 some ((.i .i64 7), r3.2)
 else Option.bind p0 fun q8 =>
 ldP r3.2 q8.1 q8.2 fun p10 =>
 Option.bind p4 fun q11 =>
 ldS r3.2 q11.1 q11.2 fun l13 =>
 (k146 [(.p p10), (.i .i64 (IntKind.i64.wrap (n2 - (l13.2 : Int))))] r3.2).bind fun r14 =>
 (AV.asI .i64 r14.1).bind fun n15 =>
 let h16 := r14.2.bump 1
 (bif ((((decide ((0 : Int) <= n2)) && (decide (n2 <= n2))) && (decide ((n2 * 8) <= 140737488355328))) && (decide (n2 <= 140737488355328))) then
 let h17 := h16.put r14.2.next (.cells true 33 ((List.replicate n2.toNat [(.i .u64 0)]).flatten))
 Option.bind p4 fun q18 =>
 ldS h17 q18.1 q18.2 fun l20 =>
 (bif Nat.beq (min l20.2 n2.toNat) 0 then
 Option.bind p4 fun q24 =>
 (h17.st q24.1 q24.2 [(.sl (.loc (.n r14.2.next) 0 1) n2.toNat)]).bind fun h25 =>
 some ((.i .i64 0), h25)
 else
 (h17.rdSl l20.1 (min l20.2 n2.toNat) 1).bind fun c22 =>
 (h17.wrSl (.loc (.n r14.2.next) 0 1) c22).bind fun h23 =>
 Option.bind p4 fun q26 =>
 (h23.st q26.1 q26.2 [(.sl (.loc (.n r14.2.next) 0 1) n2.toNat)]).bind fun h27 =>
 some ((.i .i64 0), h27))
 else none))))
 else none
def qff : Sm O := qfe qfa qbu
theorem qfg : Entered Tryz.prog 183 := Tryz.call183
theorem qfh (k124 k146 : Sm O) : run (O := O) Tryz.prog [(124, k124), (146, k146)] Tryz.f183 (.n .z (.n .z (.n (.n (.n .z (.n .z (.n .z (.n .z (.n .z (.n .z .z)))))) .z) (.n (.d [] [0, 1, 2, 3, 4, 5, 6, 7, 8, 9, 10, 11] [0, 1, 3, 7, 0, 0, 32, 96, 224, 480, 1008, 2047]) (.n .z (.n .z (.n .z .z))))))) = qfe k124 k146 := by kernel_rfl
theorem qfi : FSound RO Tryz.prog 183 qff := sdf (qfh _ _) (gcons qfb qfd <| gcons qbv qbx <| gnil) Tryz.func183 (by kernel_rfl)
def qfj (k176 k183 : Sm O) : Sm O := fun xs h =>
 bif Nat.beq xs.length 1 then
 (AV.asP (xs.getD 0 .u)).bind fun p0 =>
 Option.bind p0 fun q1 =>
 ldI h q1.1 (q1.2 + 3) fun n3 =>
 (bif (decide (n3 >= 1048576)) then
 some ((.i .i64 3), h)
 else Option.bind p0 fun q4 =>
 ldI h q4.1 (q4.2 + 3) fun n6 =>
 Option.bind p0 fun q7 =>
 ldI h q7.1 (q7.2 + 4) fun n9 =>
 (bif (decide (n6 < n9)) then
 some ((.i .i64 0), h)
 else Option.bind p0 fun q10 =>
 ldI h q10.1 (q10.2 + 4) fun n12 =>
 let v13 : Int := (if (IntKind.i64.wrap (2 * n12)) > 8 then (IntKind.i64.wrap (2 * n12)) else 8)
 Option.bind p0 fun q14 =>
 ldP h q14.1 q14.2 fun p16 =>
 Option.bind p0 fun q17 =>
 ldI h q17.1 (q17.2 + 1) fun n19 =>
 (k176 [(.p p0)] h).bind fun r20 =>
 (AV.asI .i64 r20.1).bind fun n21 =>
 (chkE (r20.2.ld q14.1 q14.2) (some (.p p16))).bind fun _ =>
 (chkE (r20.2.ld q17.1 (q17.2 + 1)) (some (.i .i64 n19))).bind fun _ =>
 (k183 [(.p p16), (.i .i64 n19), (.i .i64 (IntKind.i64.wrap (v13 * n21)))] r20.2).bind fun r22 =>
 (AV.asI .i64 r22.1).bind fun n23 =>
 (bif ((n23 : Int) != 0) then
 some ((.i .i64 3), r22.2)
 else Option.bind p0 fun q24 =>
 (r22.2.st q24.1 (q24.2 + 4) [(.i .i64 v13)]).bind fun h25 =>
 some ((.i .i64 0), h25))))
 else none
def qfk : Sm O := qfj qe5 qff
theorem qfl : Entered Tryz.prog 169 := Tryz.call169
theorem qfm (k176 k183 : Sm O) : run (O := O) Tryz.prog [(176, k176), (183, k183)] Tryz.f169 (.n .z (.n (.n (.n .z (.n .z (.n (.d [] [0, 1, 2, 3, 4, 5, 6, 7, 8, 9] [0, 1, 3, 7, 0, 16, 48, 112, 255, 511]) (.n .z .z)))) .z) (.n .z (.n (.n (.d [] [0, 1, 2, 3, 4, 5, 6, 7, 8, 9, 10, 11, 12, 13] [0, 1, 3, 7, 0, 16, 48, 112, 0, 0, 512, 1792, 4095, 8191]) (.n .z (.n .z .z))) (.n .z .z))))) = qfj k176 k183 := by kernel_rfl
theorem qfn : FSound RO Tryz.prog 169 qfk := sdf (qfm _ _) (gcons qe6 qe8 <| gcons qfg qfi <| gnil) Tryz.func169 (by kernel_rfl)
def qfo (k176 : Sm O) : Sm O := fun xs h =>
 bif Nat.beq xs.length 3 then
 (AV.asP (xs.getD 0 .u)).bind fun p0 =>
 gtI xs 1 fun n1 =>
 gtI xs 2 fun n2 =>
 (k176 [(.p p0)] h).bind fun r3 =>
 (AV.asI .i64 r3.1).bind fun n4 =>
 let v5 : Int := (IntKind.i64.wrap ((IntKind.i64.wrap (n1 - 1)) * n4))
 let v6 : Int := (IntKind.i64.wrap ((IntKind.i64.wrap (v5 + 1)) + n2))
 some ((.i .i64 v6), r3.2)
 else none
def qfp : Sm O := qfo qe5
theorem qfq : Entered Tryz.prog 159 := Tryz.call159
theorem qfr (k176 : Sm O) : run (O := O) Tryz.prog [(176, k176)] Tryz.f159 (.n .z .z) = qfo k176 := by kernel_rfl
theorem qfs : FSound RO Tryz.prog 159 qfp := sdf (qfr _) (gcons qe6 qe8 <| gnil) Tryz.func159 (by kernel_rfl)
def qft (k124 : Sm O) : Sm O := fun xs h =>
 bif Nat.beq xs.length 4 then
 (AV.asP (xs.getD 0 .u)).bind fun p0 =>
 gtI xs 1 fun n1 =>
 gtI xs 2 fun n2 =>
 gtI xs 3 fun n3 =>
 (k124 [(.p p0), (.i .i64 n1)] h).bind fun r4 =>
 (AV.asP r4.1).bind fun p5 =>
 (bif (Option.isNone p5) then
 some ((.tup [(.sl .nil 0), (.i .i64 10)]), r4.2)
 else ((bif ((decide (n3 < 0)) == false) then
 some ([(.b (decide (n2 < 0)))], r4.2)
 else some ([(.b true)], r4.2)) : Option (List AV × AH O)).bind fun r6 =>
 (AV.asB (r6.1.getD 0 .u)).bind fun b7 =>
 ((bif (b7 == false) then
 Option.bind p5 fun q8 =>
 ldS r6.2 q8.1 q8.2 fun l10 =>
 some ([(.b (decide (n2 > (l10.2 : Int))))], r6.2)
 else some ([(.b true)], r6.2)) : Option (List AV × AH O)).bind fun r11 =>
 (AV.asB (r11.1.getD 0 .u)).bind fun b12 =>
 ((bif (b12 == false) then
 Option.bind p5 fun q13 =>
 ldS r11.2 q13.1 q13.2 fun l15 =>
 let c16 : Bool := (decide (n3 > (IntKind.i64.wrap ((l15.2 : Int) - n2))))
 some ([(.b c16)], r11.2)
 else some ([(.b true)], r11.2)) : Option (List AV × AH O)).bind fun r17 =>
 (AV.asB (r17.1.getD 0 .u)).bind fun b18 =>
 (bif b18 then
 some ((.tup [(.sl .nil 0), (.i .i64 11)]), r17.2)
 else Option.bind p5 fun q19 =>
 ldS r17.2 q19.1 q19.2 fun l21 =>
 (bif (((decide ((0 : Int) <= n2)) && (decide (n2 <= (IntKind.i64.wrap (n2 + n3))))) && (decide ((IntKind.i64.wrap (n2 + n3)) <= (l21.2 : Int)))) then
 (SA.adv l21.1 n2.toNat 1).bind fun a22 =>
 some ((.tup [(.sl a22 ((IntKind.i64.wrap (n2 + n3)).toNat - n2.toNat)), (.i .i64 0)]), r17.2)
 else none)))
 else none
def qfu : Sm O := qft qfa
theorem qfv : Entered Tryz.prog 156 := Tryz.call156
theorem qfw (k124 : Sm O) : run (O := O) Tryz.prog [(124, k124)] Tryz.f156 (.n .z (.n .z (.n (.n (.n .z (.n .z (.n (.g [(2, 2, [(23, .one .b)]), (6, 7, [(32, .one .b)]), (15, 9, [(43, .one .b)])]) (.n .z .z)))) .z) .z))) = qft k124 := by kernel_rfl
theorem qfx : FSound RO Tryz.prog 156 qfu := sdf (qfw _) (gcons qfb qfd <| gnil) Tryz.func156 (by kernel_rfl)
def qfy : Sm O := fun xs h =>
 bif Nat.beq xs.length 1 then
 gtU xs 0 fun n0 =>
 let h1 := h.bump 1
 let h2 := h1.put h.next (.cells true 51 [(.i .u64 0), (.i .u64 0)])
 (h2.st (.n h.next) 0 [(.i .u64 0), (.i .u64 n0)]).bind fun h3 =>
 ldU h3 (.n h.next) 0 fun n5 =>
 ldU h3 (.n h.next) 1 fun n7 =>
 some ((.agg [(.i .u64 n5), (.i .u64 n7)]), h3)
 else none
def qfz : Sm O := qfy
theorem qf0 : Entered Tryz.prog 179 := Tryz.call179
theorem qf1 : run (O := O) Tryz.prog [] Tryz.f179 (.n .z .z) = qfy  := by kernel_rfl
theorem qf2 : FSound RO Tryz.prog 179 qfz := sdf qf1 (gnil) Tryz.func179 (by kernel_rfl)
def qf3 : Sm O := fun xs h =>
 bif Nat.beq xs.length 0 then
 let h0 := h.bump 1
 let h1 := h0.put h.next (.cells true 51 [(.i .u64 0), (.i .u64 0)])
 (h1.st (.n h.next) 0 [(.i .u64 18446744073709551615), (.i .u64 18446744073709551615)]).bind fun h2 =>
 ldU h2 (.n h.next) 0 fun n4 =>
 ldU h2 (.n h.next) 1 fun n6 =>
 some ((.agg [(.i .u64 n4), (.i .u64 n6)]), h2)
 else none
def qf4 : Sm O := qf3
theorem qf5 : Entered Tryz.prog 113 := Tryz.call113
theorem qf6 : run (O := O) Tryz.prog [] Tryz.f113 (.n .z .z) = qf3  := by kernel_rfl
theorem qf7 : FSound RO Tryz.prog 113 qf4 := sdf qf6 (gnil) Tryz.func113 (by kernel_rfl)
def qf8 (k112 k113 : Sm O) : Sm O := fun xs h =>
 bif Nat.beq xs.length 2 then
 (AV.asAgg 2 (xs.getD 0 .u)).bind fun c0 =>
 gtU c0 0 fun n1 =>
 gtU c0 1 fun n2 =>
 (AV.asAgg 2 (xs.getD 1 .u)).bind fun c3 =>
 gtU c3 0 fun n4 =>
 gtU c3 1 fun n5 =>
 let h6 := h.bump 3
 let h7 := h6.put h.next (.cells true 51 [(.i .u64 n1), (.i .u64 n2)])
 let h8 := h7.put (h.next + 1) (.cells true 51 [(.i .u64 n4), (.i .u64 n5)])
 let h9 := h8.put ((h.next + 1) + 1) (.cells true 51 [(.i .u64 0), (.i .u64 0)])
 ldU h9 (.n h.next) 1 fun n11 =>
 ldU h9 (.n (h.next + 1)) 1 fun n13 =>
 (k112 [(.i .u64 n11), (.i .u64 n13), (.i .u64 0)] h9).bind fun r14 =>
 (AV.asTup 2 r14.1).bind fun c15 =>
 gtU c15 0 fun n16 =>
 gtU c15 1 fun n17 =>
 ldU r14.2 (.n h.next) 0 fun n19 =>
 ldU r14.2 (.n (h.next + 1)) 0 fun n21 =>
 (k112 [(.i .u64 n19), (.i .u64 n21), (.i .u64 n17)] r14.2).bind fun r22 =>
 (AV.asTup 2 r22.1).bind fun c23 =>
 gtU c23 0 fun n24 =>
 gtU c23 1 fun n25 =>
 (bif ((n25 : Int) != 0) then
 (k113 [] r22.2).bind fun r26 =>
 (AV.asAgg 2 r26.1).bind fun c27 =>
 gtU c27 0 fun n28 =>
 gtU c27 1 fun n29 =>
 (r26.2.st (.n ((h.next + 1) + 1)) 0 [(.i .u64 n28), (.i .u64 n29)]).bind fun h30 =>
 ldU h30 (.n ((h.next + 1) + 1)) 0 fun n32 =>
 ldU h30 (.n ((h.next + 1) + 1)) 1 fun n34 =>
 some ((.tup [(.agg [(.i .u64 n32), (.i .u64 n34)]), (.b false)]), h30)
 else (r22.2.st (.n ((h.next + 1) + 1)) 0 [(.i .u64 n24), (.i .u64 n16)]).bind fun h35 =>
 ldU h35 (.n ((h.next + 1) + 1)) 0 fun n37 =>
 ldU h35 (.n ((h.next + 1) + 1)) 1 fun n39 =>
 some ((.tup [(.agg [(.i .u64 n37), (.i .u64 n39)]), (.b true)]), h35))
 else none
def qf9 : Sm O := qf8 bits_Add64 qf4
theorem qga : Entered Tryz.prog 58 := Tryz.call58
theorem qgb (k112 k113 : Sm O) : run (O := O) Tryz.prog [(112, k112), (113, k113)] Tryz.f58 (.n .z (.n .z (.n .z (.n (.n .z (.n .z .z)) .z)))) = qf8 k112 k113 := by kernel_rfl
theorem qgc : FSound RO Tryz.prog 58 qf9 := sdf (qgb _ _) (gext qbc <| gcons qf5 qf7 <| gnil) Tryz.func58 (by kernel_rfl)
def qgd (k179 k58 : Sm O) : Sm O := fun xs h =>
 bif Nat.beq xs.length 3 then
 (AV.asP (xs.getD 0 .u)).bind fun p0 =>
 gtI xs 1 fun n1 =>
 gtI xs 2 fun n2 =>
 ((bif ((Option.isNone p0) == false) then
 some ([(.b (decide (n1 < 0)))], h)
 else some ([(.b true)], h)) : Option (List AV × AH O)).bind fun r3 =>
 (AV.asB (r3.1.getD 0 .u)).bind fun b4 =>
 ((bif (b4 == false) then
 some ([(.b (decide (n1 >= 2)))], r3.2)
 else some ([(.b true)], r3.2)) : Option (List AV × AH O)).bind fun r5 =>
 (AV.asB (r5.1.getD 0 .u)).bind fun b6 =>
 ((bif (b6 == false) then
 some ([(.b (decide (n2 < 1)))], r5.2)
 else some ([(.b true)], r5.2)) : Option (List AV × AH O)).bind fun r7 =>
 (AV.asB (r7.1.getD 0 .u)).bind fun b8 =>
 (bif b8 then
 some ((.tup []), r7.2)
 else Option.bind p0 fun q9 =>
 (bif ((decide ((0 : Int) <= n1)) && (decide (n1 < 2))) then
 ldU r7.2 q9.1 (q9.2 + (n1.toNat * 2)) fun n11 =>
 ldU r7.2 q9.1 ((q9.2 + (n1.toNat * 2)) + 1) fun n13 =>
 Option.bind p0 fun q14 =>
 (k179 [(.i .u64 (IntKind.u64.wrap n2))] r7.2).bind fun r15 =>
 (AV.asAgg 2 r15.1).bind fun c16 =>
 gtU c16 0 fun n17 =>
 gtU c16 1 fun n18 =>
 (chkE (r15.2.ld q9.1 (q9.2 + (n1.toNat * 2))) (some (.i .u64 n11))).bind fun _ =>
 (chkE (r15.2.ld q9.1 ((q9.2 + (n1.toNat * 2)) + 1)) (some (.i .u64 n13))).bind fun _ =>
 (k58 [(.agg [(.i .u64 n11), (.i .u64 n13)]), (.agg [(.i .u64 n17), (.i .u64 n18)])] r15.2).bind fun r19 =>
 (AV.asTup 2 r19.1).bind fun c20 =>
 (AV.asAgg 2 (c20.getD 0 .u)).bind fun c21 =>
 gtU c21 0 fun n22 =>
 gtU c21 1 fun n23 =>
 (AV.asB (c20.getD 1 .u)).bind fun b24 =>
 (bif ((decide ((0 : Int) <= n1)) && (decide (n1 < 2))) then
 (r19.2.st q14.1 (q14.2 + (n1.toNat * 2)) [(.i .u64 n22), (.i .u64 n23)]).bind fun h25 =>
 some ((.tup []), h25)
 else none)
 else none))
 else none
def qge : Sm O := qgd qfz qf9
theorem qgf : Entered Tryz.prog 157 := Tryz.call157
theorem qgg (k179 k58 : Sm O) : run (O := O) Tryz.prog [(179, k179), (58, k58)] Tryz.f157 (.n (.n (.g [(2, 2, [(11, .one .b)]), (6, 2, [(15, .one .b)]), (10, 2, [(19, .one .b)])]) .z) (.d [] [0, 1, 2, 3, 4, 5, 6, 7, 8, 9, 15, 16, 10, 11, 12, 13, 14, 17, 18] [0, 0, 0, 0, 4, 20, 60, 124, 0, 256, 768, 2044, 4092, 8188, 8188, 1, 32769, 114687, 245759])) = qgd k179 k58 := by kernel_rfl
theorem qgh : FSound RO Tryz.prog 157 qge := sdf (qgg _ _) (gcons qf0 qf2 <| gcons qga qgc <| gnil) Tryz.func157 (by kernel_rfl)
def qgi (k156 k157 : Sm O) : Sm O := fun xs h =>
 bif Nat.beq xs.length 4 then
 (AV.asP (xs.getD 0 .u)).bind fun p0 =>
 gtI xs 1 fun n1 =>
 gtI xs 2 fun n2 =>
 gtU xs 3 fun n3 =>
 (k156 [(.p p0), (.i .i64 n1), (.i .i64 n2), (.i .i64 1)] h).bind fun r4 =>
 (AV.asTup 2 r4.1).bind fun c5 =>
 gtS c5 0 fun l6 =>
 gtI c5 1 fun n7 =>
 (bif ((n7 : Int) != 0) then
 some ((.i .i64 n7), r4.2)
 else Option.bind p0 fun q8 =>
 ldP r4.2 q8.1 q8.2 fun p10 =>
 (k157 [(.p p10), (.i .i64 1), (.i .i64 1)] r4.2).bind fun r11 =>
 (AV.asTup 0 r11.1).bind fun c12 =>
 (bif (decide ((0 : Int) < (l6.2 : Int))) then
 (SA.ref l6.1).bind fun q13 =>
 (r11.2.st q13.1 q13.2 [(.i .u64 n3)]).bind fun h14 =>
 some ((.i .i64 0), h14)
 else none))
 else none
def qgj : Sm O := qgi qfu qge
theorem qgk : Entered Tryz.prog 141 := Tryz.call141
theorem qgl (k156 k157 : Sm O) : run (O := O) Tryz.prog [(156, k156), (157, k157)] Tryz.f141 (.n .z (.n .z (.n (.n .z (.n .z .z)) (.n .z (.n .z .z))))) = qgi k156 k157 := by kernel_rfl
theorem qgm : FSound RO Tryz.prog 141 qgj := sdf (qgl _ _) (gcons qfv qfx <| gcons qgf qgh <| gnil) Tryz.func141 (by kernel_rfl)
def qgn (k156 k157 : Sm O) : Sm O := fun xs h =>
 bif Nat.beq xs.length 3 then
 (AV.asP (xs.getD 0 .u)).bind fun p0 =>
 gtI xs 1 fun n1 =>
 gtI xs 2 fun n2 =>
 (k156 [(.p p0), (.i .i64 n1), (.i .i64 n2), (.i .i64 1)] h).bind fun r3 =>
 (AV.asTup 2 r3.1).bind fun c4 =>
 gtS c4 0 fun l5 =>
 gtI c4 1 fun n6 =>
 (bif ((n6 : Int) != 0) then
 some ((.tup [(.i .u64 0), (.i .i64 n6)]), r3.2)
 else Option.bind p0 fun q7 =>
 ldP r3.2 q7.1 q7.2 fun p9 =>
 (k157 [(.p p9), (.i .i64 0), (.i .i64 1)] r3.2).bind fun r10 =>
 (AV.asTup 0 r10.1).bind fun c11 =>
 (bif (decide ((0 : Int) < (l5.2 : Int))) then
 (SA.ref l5.1).bind fun q12 =>
 ldU r10.2 q12.1 q12.2 fun n14 =>
 some ((.tup [(.i .u64 n14), (.i .i64 0)]), r10.2)
 else none))
 else none
def qgo : Sm O := qgn qfu qge
theorem qgp : Entered Tryz.prog 117 := Tryz.call117
theorem qgq (k156 k157 : Sm O) : run (O := O) Tryz.prog [(156, k156), (157, k157)] Tryz.f117 (.n .z (.n .z (.n (.n .z (.n .z .z)) (.n .z .z)))) = qgn k156 k157 := by kernel_rfl
theorem qgr : FSound RO Tryz.prog 117 qgo := sdf (qgq _ _) (gcons qfv qfx <| gcons qgf qgh <| gnil) Tryz.func117 (by kernel_rfl)
def qgs (k156 k157 : Sm O) : Sm O := fun xs h =>
 bif Nat.beq xs.length 4 then
 (AV.asP (xs.getD 0 .u)).bind fun p0 =>
 gtI xs 1 fun n1 =>
 gtI xs 2 fun n2 =>
 gtI xs 3 fun n3 =>
 (k156 [(.p p0), (.i .i64 n1), (.i .i64 n2), (.i .i64 n3)] h).bind fun r4 =>
 (AV.asTup 2 r4.1).bind fun c5 =>
 gtS c5 0 fun l6 =>
 gtI c5 1 fun n7 =>
 (bif ((n7 : Int) != 0) then
 some ((.i .i64 n7), r4.2)
 else Option.bind p0 fun q8 =>
 ldP r4.2 q8.1 q8.2 fun p10 =>
 (k157 [(.p p10), (.i .i64 1), (.i .i64 n3)] r4.2).bind fun r11 =>
 (AV.asTup 0 r11.1).bind fun c12 =>
 (bif Nat.beq l6.2 0 then
 some ((.i .i64 0), r11.2)
 else
 (r11.2.wrSl l6.1 ((List.replicate l6.2 [(.i .u64 0)]).flatten)).bind fun h13 =>
 some ((.i .i64 0), h13)))
 else none
def qgt : Sm O := qgs qfu qge
theorem qgu : Entered Tryz.prog 170 := Tryz.call170
theorem qgv (k156 k157 : Sm O) : run (O := O) Tryz.prog [(156, k156), (157, k157)] Tryz.f170 (.n .z (.n .z (.n (.n .z (.n .z .z)) (.n .z (.n .z .z))))) = qgs k156 k157 := by kernel_rfl
theorem qgw : FSound RO Tryz.prog 170 qgt := sdf (qgv _ _) (gcons qfv qfx <| gcons qgf qgh <| gnil) Tryz.func170 (by kernel_rfl)
def qgx (k169 k159 k141 k117 k170 : Sm O) : Sm O := fun xs h =>
 bif Nat.beq xs.length 1 then
 (AV.asP (xs.getD 0 .u)).bind fun p0 =>
 Option.bind p0 fun q1 =>
 ldI h q1.1 (q1.2 + 5) fun n3 =>
 (bif ((n3 : Int) == 0) then
 (k169 [(.p p0)] h).bind fun r4 =>
 (AV.asI .i64 r4.1).bind fun n5 =>
 (bif ((n5 : Int) != 0) then
 some ((.tup [(.i .i64 0), (.i .i64 n5)]), r4.2)
 else Option.bind p0 fun q6 =>
 ldI r4.2 q6.1 (q6.2 + 3) fun n8 =>
 Option.bind p0 fun q9 =>
 (r4.2.st q9.1 (q9.2 + 3) [(.i .i64 (IntKind.i64.wrap (n8 + 1)))]).bind fun h10 =>
 Option.bind p0 fun q11 =>
 ldI h10 q11.1 (q11.2 + 3) fun n13 =>
 Option.bind p0 fun q14 =>
 ldP h10 q14.1 q14.2 fun p16 =>
 Option.bind p0 fun q17 =>
 ldI h10 q17.1 (q17.2 + 1) fun n19 =>
 (k159 [(.p p0), (.i .i64 n13), (.i .i64 (-1))] h10).bind fun r20 =>
 (AV.asI .i64 r20.1).bind fun n21 =>
 (chkE (r20.2.ld q14.1 q14.2) (some (.p p16))).bind fun _ =>
 (chkE (r20.2.ld q17.1 (q17.2 + 1)) (some (.i .i64 n19))).bind fun _ =>
 (k141 [(.p p16), (.i .i64 n19), (.i .i64 n21), (.i .u64 1)] r20.2).bind fun r22 =>
 (AV.asI .i64 r22.1).bind fun n23 =>
 Option.bind p0 fun q24 =>
 ldI r22.2 q24.1 (q24.2 + 6) fun n26 =>
 Option.bind p0 fun q27 =>
 (r22.2.st q27.1 (q27.2 + 6) [(.i .i64 (IntKind.i64.wrap (n26 + 1)))]).bind fun h28 =>
 some ((.tup [(.i .i64 n13), (.i .i64 0)]), h28))
 else Option.bind p0 fun q29 =>
 ldP h q29.1 q29.2 fun p31 =>
 Option.bind p0 fun q32 =>
 ldI h q32.1 (q32.2 + 1) fun n34 =>
 (k159 [(.p p0), (.i .i64 n3), (.i .i64 0)] h).bind fun r35 =>
 (AV.asI .i64 r35.1).bind fun n36 =>
 (chkE (r35.2.ld q29.1 q29.2) (some (.p p31))).bind fun _ =>
 (chkE (r35.2.ld q32.1 (q32.2 + 1)) (some (.i .i64 n34))).bind fun _ =>
 (k117 [(.p p31), (.i .i64 n34), (.i .i64 n36)] r35.2).bind fun r37 =>
 (AV.asTup 2 r37.1).bind fun c38 =>
 gtU c38 0 fun n39 =>
 gtI c38 1 fun n40 =>
 Option.bind p0 fun q41 =>
 ldP r37.2 q41.1 q41.2 fun p43 =>
 Option.bind p0 fun q44 =>
 ldI r37.2 q44.1 (q44.2 + 1) fun n46 =>
 (k159 [(.p p0), (.i .i64 n3), (.i .i64 (-1))] r37.2).bind fun r47 =>
 (AV.asI .i64 r47.1).bind fun n48 =>
 (chkE (r47.2.ld q41.1 q41.2) (some (.p p43))).bind fun _ =>
 (chkE (r47.2.ld q44.1 (q44.2 + 1)) (some (.i .i64 n46))).bind fun _ =>
 (k117 [(.p p43), (.i .i64 n46), (.i .i64 n48)] r47.2).bind fun r49 =>
 (AV.asTup 2 r49.1).bind fun c50 =>
 gtU c50 0 fun n51 =>
 gtI c50 1 fun n52 =>
 Option.bind p0 fun q53 =>
 ldP r49.2 q53.1 q53.2 fun p55 =>
 Option.bind p0 fun q56 =>
 ldI r49.2 q56.1 (q56.2 + 1) fun n58 =>
 (k159 [(.p p0), (.i .i64 n3), (.i .i64 (-1))] r49.2).bind fun r59 =>
 (AV.asI .i64 r59.1).bind fun n60 =>
 (chkE (r59.2.ld q53.1 q53.2) (some (.p p55))).bind fun _ =>
 (chkE (r59.2.ld q56.1 (q56.2 + 1)) (some (.i .i64 n58))).bind fun _ =>
 (k141 [(.p p55), (.i .i64 n58), (.i .i64 n60), (.i .u64 (ibits .or .u64 n51 1))] r59.2).bind fun r61 =>
 (AV.asI .i64 r61.1).bind fun n62 =>
 Option.bind p0 fun q63 =>
 ldP r61.2 q63.1 q63.2 fun p65 =>
 Option.bind p0 fun q66 =>
 ldI r61.2 q66.1 (q66.2 + 1) fun n68 =>
 Option.bind p0 fun q69 =>
 ldI r61.2 q69.1 (q69.2 + 2) fun n71 =>
 (k159 [(.p p0), (.i .i64 n3), (.i .i64 0)] r61.2).bind fun r72 =>
 (AV.asI .i64 r72.1).bind fun n73 =>
 (chkE (r72.2.ld q63.1 q63.2) (some (.p p65))).bind fun _ =>
 (chkE (r72.2.ld q66.1 (q66.2 + 1)) (some (.i .i64 n68))).bind fun _ =>
 (chkE (r72.2.ld q69.1 (q69.2 + 2)) (some (.i .i64 n71))).bind fun _ =>
 (k170 [(.p p65), (.i .i64 n68), (.i .i64 n73), (.i .i64 n71)] r72.2).bind fun r74 =>
 (AV.asI .i64 r74.1).bind fun n75 =>
 Option.bind p0 fun q76 =>
 (r74.2.st q76.1 (q76.2 + 5) [(.i .i64 (IntKind.i64.wrap n39))]).bind fun h77 =>
 Option.bind p0 fun q78 =>
 ldI h77 q78.1 (q78.2 + 6) fun n80 =>
 Option.bind p0 fun q81 =>
 (h77.st q81.1 (q81.2 + 6) [(.i .i64 (IntKind.i64.wrap (n80 + 1)))]).bind fun h82 =>
 some ((.tup [(.i .i64 n3), (.i .i64 0)]), h82))
 else none
def qgy : Sm O := qgx qfk qfp qgj qgo qgt
theorem qgz : Entered Tryz.prog 129 := Tryz.call129
theorem qg0 (k169 k159 k141 k117 k170 : Sm O) : run (O := O) Tryz.prog [(169, k169), (159, k159), (141, k141), (117, k117), (170, k170)] Tryz.f129 (.n .z (.n .z (.n (.n .z (.n (.n (.n .z (.n .z (.n .z .z))) (.n .z (.n .z (.n (.d [] [0, 1, 2, 3, 4, 5, 6, 7, 8, 9, 10, 11] [0, 1, 3, 7, 0, 16, 48, 112, 0, 0, 768, 2047]) (.n .z .z))))) .z)) (.n (.d [] [0, 1, 2, 3, 4, 5, 6, 7, 8, 9, 10, 11, 12, 13, 14, 15, 16] [0, 1, 3, 7, 0, 16, 48, 112, 0, 0, 768, 2047, 4095, 8191, 8191, 16383, 65535]) (.n (.d [] [0, 1, 2, 3, 4, 5, 6, 7, 8, 9, 10, 11, 12, 13, 14, 15, 16] [0, 1, 3, 7, 0, 16, 48, 112, 0, 0, 768, 2047, 4095, 8191, 8191, 16383, 65535]) (.n (.d [] [0, 1, 2, 3, 4, 5, 6, 7, 8, 9, 11, 12, 10, 13] [0, 1, 3, 7, 0, 16, 48, 112, 0, 0, 768, 0, 2048, 8191]) (.n (.d [] [0, 1, 2, 3, 4, 5, 6, 7, 8, 9, 11, 12, 13, 14, 10, 15] [0, 1, 3, 7, 0, 16, 48, 112, 0, 0, 768, 0, 2048, 6144, 14336, 32767]) (.n .z (.n .z .z))))))))) = qgx k169 k159 k141 k117 k170 := by kernel_rfl
theorem qg1 : FSound RO Tryz.prog 129 qgy := sdf (qg0 _ _ _ _ _) (gcons qfl qfn <| gcons qfq qfs <| gcons qgk qgm <| gcons qgp qgr <| gcons qgu qgw <| gnil) Tryz.func129 (by kernel_rfl)
def qg2 : Sm O := fun xs h =>
 bif Nat.beq xs.length 2 then
 (AV.asP (xs.getD 0 .u)).bind fun p0 =>
 gtI xs 1 fun n1 =>
 ((bif ((Option.isNone p0) == false) then
 some ([(.b (decide (n1 < 0)))], h)
 else some ([(.b true)], h)) : Option (List AV × AH O)).bind fun r2 =>
 (AV.asB (r2.1.getD 0 .u)).bind fun b3 =>
 (bif b3 then
 some ((.i .i64 1), r2.2)
 else Option.bind p0 fun q4 =>
 ldI r2.2 q4.1 (q4.2 + 4) fun n6 =>
 (bif (decide (n1 > n6)) then
 some ((.i .i64 4), r2.2)
 else Option.bind p0 fun q7 =>
 ldI r2.2 q7.1 (q7.2 + 4) fun n9 =>
 Option.bind p0 fun q10 =>
 (r2.2.st q10.1 (q10.2 + 4) [(.i .i64 (IntKind.i64.wrap (n9 - n1)))]).bind fun h11 =>
 some ((.i .i64 0), h11)))
 else none
def qg3 : Sm O := qg2
theorem qg4 : Entered Tryz.prog 167 := Tryz.call167
theorem qg5 : run (O := O) Tryz.prog [] Tryz.f167 (.n .z (.n (.n (.n (.g [(2, 2, [(11, .one .b)])]) (.n .z (.n .z (.n .z .z)))) .z) (.n .z .z))) = qg2  := by kernel_rfl
theorem qg6 : FSound RO Tryz.prog 167 qg3 := sdf qg5 (gnil) Tryz.func167 (by kernel_rfl)
def qg7 (k124 k167 : Sm O) : Sm O := fun xs h =>
 bif Nat.beq xs.length 2 then
 (AV.asP (xs.getD 0 .u)).bind fun p0 =>
 gtI xs 1 fun n1 =>
 (k124 [(.p p0), (.i .i64 n1)] h).bind fun r2 =>
 (AV.asP r2.1).bind fun p3 =>
 (bif (Option.isNone p3) then
 some ((.i .i64 10), r2.2)
 else Option.bind p0 fun q4 =>
 ldP r2.2 q4.1 q4.2 fun p6 =>
 Option.bind p3 fun q7 =>
 ldS r2.2 q7.1 q7.2 fun l9 =>
 (k167 [(.p p6), (.i .i64 (l9.2 : Int))] r2.2).bind fun r10 =>
 (AV.asI .i64 r10.1).bind fun n11 =>
 Option.bind p3 fun q12 =>
 (r10.2.st q12.1 q12.2 [(.sl .nil 0), (.b false)]).bind fun h13 =>
 Option.bind p0 fun q14 =>
 ldI h13 q14.1 (q14.2 + 2) fun n16 =>
 Option.bind p0 fun q17 =>
 ldI h13 q17.1 (q17.2 + 3) fun n19 =>
 Option.bind p0 fun q20 =>
 (h13.st q20.1 (q20.2 + 2) [(.i .i64 (if n1 < n16 then n1 else n16))]).bind fun h21 =>
 Option.bind p0 fun q22 =>
 (h21.st q22.1 (q22.2 + 3) [(.i .i64 (IntKind.i64.wrap (n19 - 1)))]).bind fun h23 =>
 some ((.i .i64 0), h23))
 else none
def qg8 : Sm O := qg7 qfa qg3
theorem qg9 : Entered Tryz.prog 126 := Tryz.call126
theorem qha (k124 k167 : Sm O) : run (O := O) Tryz.prog [(124, k124), (167, k167)] Tryz.f126 (.n .z (.n .z (.n (.n .z (.n .z .z)) (.n (.d [] [0, 1, 2, 3, 4, 5, 6, 7, 8, 9] [0, 1, 3, 7, 0, 16, 48, 112, 240, 511]) (.n .z (.n (.d [] [0, 1, 2, 3, 4, 5, 6, 7, 8, 9, 10, 11, 12, 13, 14, 15, 16, 17, 18] [0, 0, 0, 4, 12, 28, 0, 124, 0, 256, 768, 1792, 3840, 4093, 12285, 28669, 65535, 131071, 262143]) .z)))))) = qg7 k124 k167 := by kernel_rfl
theorem qhb : FSound RO Tryz.prog 126 qg8 := sdf (qha _ _) (gcons qfb qfd <| gcons qg4 qg6 <| gnil) Tryz.func126 (by kernel_rfl)
def qhc (k159 k117 : Sm O) : Sm O := fun xs h =>
 bif Nat.beq xs.length 2 then
 (AV.asP (xs.getD 0 .u)).bind fun p0 =>
 gtI xs 1 fun n1 =>
 ((bif ((decide (n1 < 1)) == false) then
 Option.bind p0 fun q2 =>
 ldI h q2.1 (q2.2 + 3) fun n4 =>
 some ([(.b (decide (n1 > n4)))], h)
 else some ([(.b true)], h)) : Option (List AV × AH O)).bind fun r5 =>
 (AV.asB (r5.1.getD 0 .u)).bind fun b6 =>
 (bif b6 then
 some ((.tup [(.i .u64 0), (.b false)]), r5.2)
 else Option.bind p0 fun q7 =>
 ldP r5.2 q7.1 q7.2 fun p9 =>
 Option.bind p0 fun q10 =>
 ldI r5.2 q10.1 (q10.2 + 1) fun n12 =>
 (k159 [(.p p0), (.i .i64 n1), (.i .i64 (-1))] r5.2).bind fun r13 =>
 (AV.asI .i64 r13.1).bind fun n14 =>
 (chkE (r13.2.ld q7.1 q7.2) (some (.p p9))).bind fun _ =>
 (chkE (r13.2.ld q10.1 (q10.2 + 1)) (some (.i .i64 n12))).bind fun _ =>
 (k117 [(.p p9), (.i .i64 n12), (.i .i64 n14)] r13.2).bind fun r15 =>
 (AV.asTup 2 r15.1).bind fun c16 =>
 gtU c16 0 fun n17 =>
 gtI c16 1 fun n18 =>
 some ((.tup [(.i .u64 n17), (.b true)]), r15.2))
 else none
def qhd : Sm O := qhc qfp qgo
theorem qhe : Entered Tryz.prog 168 := Tryz.call168
theorem qhf (k159 k117 : Sm O) : run (O := O) Tryz.prog [(159, k159), (117, k117)] Tryz.f168 (.n .z (.n (.n (.g [(2, 6, [(17, .one .b)])]) (.n .z .z)) (.n (.d [] [0, 1, 2, 3, 4, 5, 6, 7, 8, 9, 10, 11, 12, 13, 14, 15, 16] [0, 1, 3, 7, 0, 16, 48, 112, 0, 0, 768, 2047, 4095, 8191, 8191, 16383, 65535]) .z))) = qhc k159 k117 := by kernel_rfl
theorem qhg : FSound RO Tryz.prog 168 qhd := sdf (qhf _ _) (gcons qfq qfs <| gcons qgp qgr <| gnil) Tryz.func168 (by kernel_rfl)
def qhh (k168 : Sm O) : Sm O := fun xs h =>
 bif Nat.beq xs.length 2 then
 (AV.asP (xs.getD 0 .u)).bind fun p0 =>
 gtI xs 1 fun n1 =>
 (k168 [(.p p0), (.i .i64 n1)] h).bind fun r2 =>
 (AV.asTup 2 r2.1).bind fun c3 =>
 gtU c3 0 fun n4 =>
 (AV.asB (c3.getD 1 .u)).bind fun b5 =>
 ((bif (b5 == true) then
 some ([(.b (((ibits .and .u64 n4 1) : Int) == 1))], r2.2)
 else some ([(.b false)], r2.2)) : Option (List AV × AH O)).bind fun r6 =>
 (AV.asB (r6.1.getD 0 .u)).bind fun b7 =>
 some ((.b b7), r6.2)
 else none
def qhi : Sm O := qhh qhd
theorem qhj : Entered Tryz.prog 172 := Tryz.call172
theorem qhk (k168 : Sm O) : run (O := O) Tryz.prog [(168, k168)] Tryz.f172 (.n .z (.n .z (.n (.g [(1, 3, [(18, .one .b)])]) .z))) = qhh k168 := by kernel_rfl
theorem qhl : FSound RO Tryz.prog 172 qhi := sdf (qhk _) (gcons qhe qhg <| gnil) Tryz.func172 (by kernel_rfl)
def qhm (k172 : Sm O) : Sm O := fun xs h =>
 bif Nat.beq xs.length 3 then
 (AV.asP (xs.getD 0 .u)).bind fun p0 =>
 gtI xs 1 fun n1 =>
 gtI xs 2 fun n2 =>
 (k172 [(.p p0), (.i .i64 n1)] h).bind fun r3 =>
 (AV.asB r3.1).bind fun b4 =>
 (bif (!b4) then
 some ((.i .i64 4), r3.2)
 else ((bif ((decide (n2 < 0)) == false) then
 Option.bind p0 fun q5 =>
 ldI r3.2 q5.1 (q5.2 + 2) fun n7 =>
 some ([(.b (decide (n2 >= n7)))], r3.2)
 else some ([(.b true)], r3.2)) : Option (List AV × AH O)).bind fun r8 =>
 (AV.asB (r8.1.getD 0 .u)).bind fun b9 =>
 (bif b9 then
 some ((.i .i64 32), r8.2)
 else some ((.i .i64 0), r8.2)))
 else none
def qhn : Sm O := qhm qhi
theorem qho : Entered Tryz.prog 158 := Tryz.call158
theorem qhp (k172 : Sm O) : run (O := O) Tryz.prog [(172, k172)] Tryz.f158 (.n .z (.n (.n (.n .z (.n .z (.n (.g [(2, 6, [(22, .one .b)])]) (.n .z .z)))) .z) .z)) = qhm k172 := by kernel_rfl
theorem qhq : FSound RO Tryz.prog 158 qhn := sdf (qhp _) (gcons qhj qhl <| gnil) Tryz.func158 (by kernel_rfl)
def qhr (k158 k159 k141 : Sm O) : Sm O := fun xs h =>
 bif Nat.beq xs.length 4 then
 (AV.asP (xs.getD 0 .u)).bind fun p0 =>
 gtI xs 1 fun n1 =>
 gtI xs 2 fun n2 =>
 gtU xs 3 fun n3 =>
 (k158 [(.p p0), (.i .i64 n1), (.i .i64 n2)] h).bind fun r4 =>
 (AV.asI .i64 r4.1).bind fun n5 =>
 (bif ((n5 : Int) != 0) then
 some ((.i .i64 n5), r4.2)
 else Option.bind p0 fun q6 =>
 ldP r4.2 q6.1 q6.2 fun p8 =>
 Option.bind p0 fun q9 =>
 ldI r4.2 q9.1 (q9.2 + 1) fun n11 =>
 (k159 [(.p p0), (.i .i64 n1), (.i .i64 n2)] r4.2).bind fun r12 =>
 (AV.asI .i64 r12.1).bind fun n13 =>
 (chkE (r12.2.ld q6.1 q6.2) (some (.p p8))).bind fun _ =>
 (chkE (r12.2.ld q9.1 (q9.2 + 1)) (some (.i .i64 n11))).bind fun _ =>
 (k141 [(.p p8), (.i .i64 n11), (.i .i64 n13), (.i .u64 n3)] r12.2).bind fun r14 =>
 (AV.asI .i64 r14.1).bind fun n15 =>
 some ((.i .i64 n15), r14.2))
 else none
def qhs : Sm O := qhr qhn qfp qgj
theorem qht : Entered Tryz.prog 130 := Tryz.call130
theorem qhu (k158 k159 k141 : Sm O) : run (O := O) Tryz.prog [(158, k158), (159, k159), (141, k141)] Tryz.f130 (.n .z (.n (.n .z (.n .z (.n .z .z))) (.n (.d [] [0, 1, 2, 3, 4, 5, 6, 7, 8, 9, 10, 12, 11, 13, 14] [0, 1, 3, 7, 0, 16, 48, 112, 0, 0, 0, 1792, 0, 8191, 16383]) .z))) = qhr k158 k159 k141 := by kernel_rfl
theorem qhv : FSound RO Tryz.prog 130 qhs := sdf (qhu _ _ _) (gcons qho qhq <| gcons qfq qfs <| gcons qgk qgm <| gnil) Tryz.func130 (by kernel_rfl)
def qhw (k176 : Sm O) : Sm O := fun xs h =>
 bif Nat.beq xs.length 3 then
 (AV.asP (xs.getD 0 .u)).bind fun p0 =>
 gtI xs 1 fun n1 =>
 gtI xs 2 fun n2 =>
 let h3 := h.bump 1
 let h4 := h3.put h.next (.cells true 184 [(.p none), (.i .i64 0), (.i .i64 0), (.i .i64 0), (.i .i64 0)])
 Option.bind p0 fun q5 =>
 ldP h4 q5.1 q5.2 fun p7 =>
 Option.bind p0 fun q8 =>
 ldI h4 q8.1 (q8.2 + 1) fun n10 =>
 (k176 [(.p p0)] h4).bind fun r11 =>
 (AV.asI .i64 r11.1).bind fun n12 =>
 (chkE (r11.2.ld q5.1 q5.2) (some (.p p7))).bind fun _ =>
 (chkE (r11.2.ld q8.1 (q8.2 + 1)) (some (.i .i64 n10))).bind fun _ =>
 (r11.2.st (.n h.next) 0 [(.p p7), (.i .i64 n10), (.i .i64 n12), (.i .i64 (IntKind.i64.wrap (n1 + 1))), (.i .i64 (IntKind.i64.wrap (n2 + 1)))]).bind fun h13 =>
 ldP h13 (.n h.next) 0 fun p15 =>
 ldI h13 (.n h.next) 1 fun n17 =>
 ldI h13 (.n h.next) 2 fun n19 =>
 ldI h13 (.n h.next) 3 fun n21 =>
 ldI h13 (.n h.next) 4 fun n23 =>
 some ((.agg [(.p p15), (.i .i64 n17), (.i .i64 n19), (.i .i64 n21), (.i .i64 n23)]), h13)
 else none
def qhx : Sm O := qhw qe5
theorem qhy : Entered Tryz.prog 147 := Tryz.call147
theorem qhz (k176 : Sm O) : run (O := O) Tryz.prog [(176, k176)] Tryz.f147 (.n .z (.n (.d [] [0, 1, 2, 3, 4, 5, 6, 7, 8, 10, 11, 12, 13, 9, 14, 15] [0, 1, 3, 7, 0, 16, 48, 112, 0, 256, 0, 1024, 0, 4096, 16383, 32767]) .z)) = qhw k176 := by kernel_rfl
theorem qh0 : FSound RO Tryz.prog 147 qhx := sdf (qhz _) (gcons qe6 qe8 <| gnil) Tryz.func147 (by kernel_rfl)
def qh1 (k147 : Sm O) : Sm O := fun xs h =>
 bif Nat.beq xs.length 1 then
 (AV.asP (xs.getD 0 .u)).bind fun p0 =>
 let h1 := h.bump 1
 let h2 := h1.put h.next (.cells true 184 [(.p none), (.i .i64 0), (.i .i64 0), (.i .i64 0), (.i .i64 0)])
 Option.bind p0 fun q3 =>
 ldP h2 q3.1 (q3.2 + 1) fun p5 =>
 (k147 [(.p p5), (.i .i64 2), (.i .i64 3)] h2).bind fun r6 =>
 (AV.asAgg 5 r6.1).bind fun c7 =>
 (AV.asP (c7.getD 0 .u)).bind fun p8 =>
 gtI c7 1 fun n9 =>
 gtI c7 2 fun n10 =>
 gtI c7 3 fun n11 =>
 gtI c7 4 fun n12 =>
 (r6.2.st (.n h.next) 0 [(.p p8), (.i .i64 n9), (.i .i64 n10), (.i .i64 n11), (.i .i64 n12)]).bind fun h13 =>
 ldP h13 (.n h.next) 0 fun p15 =>
 ldI h13 (.n h.next) 1 fun n17 =>
 ldI h13 (.n h.next) 2 fun n19 =>
 ldI h13 (.n h.next) 3 fun n21 =>
 ldI h13 (.n h.next) 4 fun n23 =>
 some ((.agg [(.p p15), (.i .i64 n17), (.i .i64 n19), (.i .i64 n21), (.i .i64 n23)]), h13)
 else none
def qh2 : Sm O := qh1 qhx
theorem qh3 : Entered Tryz.prog 100 := Tryz.call100
theorem qh4 (k147 : Sm O) : run (O := O) Tryz.prog [(147, k147)] Tryz.f100 (.n .z .z) = qh1 k147 := by kernel_rfl
theorem qh5 : FSound RO Tryz.prog 100 qh2 := sdf (qh4 _) (gcons qhy qh0 <| gnil) Tryz.func100 (by kernel_rfl)
def qh6 : Sm O := fun xs h =>
 bif Nat.beq xs.length 2 then
 gtI xs 0 fun n0 =>
 ((bif ((decide (n0 >= 0)) == true) then
 (AV.asPS (xs.getD 1 .u)).bind fun q1 =>
 ldI h q1.1 (q1.2 + 2) fun n3 =>
 some ([(.b (decide (n0 < n3)))], h)
 else some ([(.b false)], h)) : Option (List AV × AH O)).bind fun r4 =>
 (AV.asB (r4.1.getD 0 .u)).bind fun b5 =>
 some ((.b b5), r4.2)
 else none
def qh7 : Sm O := qh6
theorem qh8 : Entered Tryz.prog 177 := Tryz.call177
theorem qh9 : run (O := O) Tryz.prog [] Tryz.f177 (.n .z (.n (.g [(2, 4, [(11, .one .b)])]) .z)) = qh6  := by kernel_rfl
theorem qia : FSound RO Tryz.prog 177 qh7 := sdf qh9 (gnil) Tryz.func177 (by kernel_rfl)
def qib (k177 : Sm O) : Sm O := fun xs h =>
 bif Nat.beq xs.length 1 then
 (AV.asAgg 5 (xs.getD 0 .u)).bind fun c0 =>
 (AV.asP (c0.getD 0 .u)).bind fun p1 =>
 gtI c0 1 fun n2 =>
 gtI c0 2 fun n3 =>
 gtI c0 3 fun n4 =>
 gtI c0 4 fun n5 =>
 let h6 := h.bump 1
 let h7 := h6.put h.next (.cells true 184 [(.p p1), (.i .i64 n2), (.i .i64 n3), (.i .i64 n4), (.i .i64 n5)])
 ldP h7 (.n h.next) 0 fun p9 =>
 ((bif ((!(Option.isNone p9)) == true) then
 ldI h7 (.n h.next) 2 fun n11 =>
 some ([(.b (decide (n11 >= 2)))], h7)
 else some ([(.b false)], h7)) : Option (List AV × AH O)).bind fun r12 =>
 (AV.asB (r12.1.getD 0 .u)).bind fun b13 =>
 ((bif (b13 == true) then
 ldI r12.2 (.n h.next) 2 fun n15 =>
 some ([(.b (decide (n15 <= 64)))], r12.2)
 else some ([(.b false)], r12.2)) : Option (List AV × AH O)).bind fun r16 =>
 (AV.asB (r16.1.getD 0 .u)).bind fun b17 =>
 ((bif (b17 == true) then
 ldI r16.2 (.n h.next) 3 fun n19 =>
 (k177 [(.i .i64 n19), (.p (some ((.n h.next), 0)))] r16.2).bind fun r20 =>
 (AV.asB r20.1).bind fun b21 =>
 some ([(.b b21)], r20.2)
 else some ([(.b false)], r16.2)) : Option (List AV × AH O)).bind fun r22 =>
 (AV.asB (r22.1.getD 0 .u)).bind fun b23 =>
 ((bif (b23 == true) then
 ldI r22.2 (.n h.next) 4 fun n25 =>
 (k177 [(.i .i64 n25), (.p (some ((.n h.next), 0)))] r22.2).bind fun r26 =>
 (AV.asB r26.1).bind fun b27 =>
 some ([(.b b27)], r26.2)
 else some ([(.b false)], r22.2)) : Option (List AV × AH O)).bind fun r28 =>
 (AV.asB (r28.1.getD 0 .u)).bind fun b29 =>
 ((bif (b29 == true) then
 ldI r28.2 (.n h.next) 3 fun n31 =>
 ldI r28.2 (.n h.next) 4 fun n33 =>
 some ([(.b ((n31 : Int) != n33))], r28.2)
 else some ([(.b false)], r28.2)) : Option (List AV × AH O)).bind fun r34 =>
 (AV.asB (r34.1.getD 0 .u)).bind fun b35 =>
 some ((.b b35), r34.2)
 else none
def qic : Sm O := qib qh7
theorem qid : Entered Tryz.prog 148 := Tryz.call148
theorem qie (k177 : Sm O) : run (O := O) Tryz.prog [(177, k177)] Tryz.f148 (.n .z (.n .z (.n (.g [(3, 3, [(12, .one .b)]), (8, 3, [(17, .one .b)]), (13, 4, [(23, .one .b)]), (19, 4, [(29, .one .b)]), (25, 5, [(36, .one .b)])]) .z))) = qib k177 := by kernel_rfl
theorem qif : FSound RO Tryz.prog 148 qic := sdf (qie _) (gcons qh8 qia <| gnil) Tryz.func148 (by kernel_rfl)
def qig (k124 : Sm O) : Sm O := fun xs h =>
 bif Nat.beq xs.length 2 then
 (AV.asP (xs.getD 0 .u)).bind fun p0 =>
 gtI xs 1 fun n1 =>
 (k124 [(.p p0), (.i .i64 n1)] h).bind fun r2 =>
 (AV.asP r2.1).bind fun p3 =>
 (bif (Option.isNone p3) then
 some ((.tup [(.i .i64 0), (.i .i64 10)]), r2.2)
 else Option.bind p3 fun q4 =>
 ldS r2.2 q4.1 q4.2 fun l6 =>
 some ((.tup [(.i .i64 (l6.2 : Int)), (.i .i64 0)]), r2.2))
 else none
def qih : Sm O := qig qfa
theorem qii : Entered Tryz.prog 74 := Tryz.call74
theorem qij (k124 : Sm O) : run (O := O) Tryz.prog [(124, k124)] Tryz.f74 (.n .z (.n .z (.n (.n .z (.n .z .z)) .z))) = qig k124 := by kernel_rfl
theorem qik : FSound RO Tryz.prog 74 qih := sdf (qij _) (gcons qfb qfd <| gnil) Tryz.func74 (by kernel_rfl)
def qil (k148 k74 : Sm O) : Sm O := fun xs h =>
 bif Nat.beq xs.length 1 then
 (AV.asAgg 5 (xs.getD 0 .u)).bind fun c0 =>
 (AV.asP (c0.getD 0 .u)).bind fun p1 =>
 gtI c0 1 fun n2 =>
 gtI c0 2 fun n3 =>
 gtI c0 3 fun n4 =>
 gtI c0 4 fun n5 =>
 let h6 := h.bump 1
 let h7 := h6.put h.next (.cells true 184 [(.p p1), (.i .i64 n2), (.i .i64 n3), (.i .i64 n4), (.i .i64 n5)])
 ldP h7 (.n h.next) 0 fun p9 =>
 ldI h7 (.n h.next) 1 fun n11 =>
 ldI h7 (.n h.next) 2 fun n13 =>
 ldI h7 (.n h.next) 3 fun n15 =>
 ldI h7 (.n h.next) 4 fun n17 =>
 (k148 [(.agg [(.p p9), (.i .i64 n11), (.i .i64 n13), (.i .i64 n15), (.i .i64 n17)])] h7).bind fun r18 =>
 (AV.asB r18.1).bind fun b19 =>
 (bif (!b19) then
 some ((.i .i64 0), r18.2)
 else ldP r18.2 (.n h.next) 0 fun p21 =>
 ldI r18.2 (.n h.next) 1 fun n23 =>
 (k74 [(.p p21), (.i .i64 n23)] r18.2).bind fun r24 =>
 (AV.asTup 2 r24.1).bind fun c25 =>
 gtI c25 0 fun n26 =>
 gtI c25 1 fun n27 =>
 ldI r24.2 (.n h.next) 2 fun n29 =>
 (bif (n29 == 0) then
 none
 else some ((.i .i64 (IntKind.i64.wrap (Int.tdiv n26 n29))), r24.2)))
 else none
def qim : Sm O := qil qic qih
theorem qin : Entered Tryz.prog 182 := Tryz.call182
theorem qio (k148 k74 : Sm O) : run (O := O) Tryz.prog [(148, k148), (74, k74)] Tryz.f182 (.n .z (.n (.n .z (.n .z .z)) (.n .z .z))) = qil k148 k74 := by kernel_rfl
theorem qip : FSound RO Tryz.prog 182 qim := sdf (qio _ _) (gcons qid qif <| gcons qii qik <| gnil) Tryz.func182 (by kernel_rfl)
def qiq (k148 k182 : Sm O) : Sm O := fun xs h =>
 bif Nat.beq xs.length 2 then
 (AV.asAgg 5 (xs.getD 0 .u)).bind fun c0 =>
 (AV.asP (c0.getD 0 .u)).bind fun p1 =>
 gtI c0 1 fun n2 =>
 gtI c0 2 fun n3 =>
 gtI c0 3 fun n4 =>
 gtI c0 4 fun n5 =>
 gtI xs 1 fun n6 =>
 let h7 := h.bump 1
 let h8 := h7.put h.next (.cells true 184 [(.p p1), (.i .i64 n2), (.i .i64 n3), (.i .i64 n4), (.i .i64 n5)])
 ldP h8 (.n h.next) 0 fun p10 =>
 ldI h8 (.n h.next) 1 fun n12 =>
 ldI h8 (.n h.next) 2 fun n14 =>
 ldI h8 (.n h.next) 3 fun n16 =>
 ldI h8 (.n h.next) 4 fun n18 =>
 (k148 [(.agg [(.p p10), (.i .i64 n12), (.i .i64 n14), (.i .i64 n16), (.i .i64 n18)])] h8).bind fun r19 =>
 (AV.asB r19.1).bind fun b20 =>
 (bif (!b20) then
 some ((.i .i64 1), r19.2)
 else ((bif ((decide (n6 < 1)) == false) then
 ldP r19.2 (.n h.next) 0 fun p22 =>
 ldI r19.2 (.n h.next) 1 fun n24 =>
 ldI r19.2 (.n h.next) 2 fun n26 =>
 ldI r19.2 (.n h.next) 3 fun n28 =>
 ldI r19.2 (.n h.next) 4 fun n30 =>
 (k182 [(.agg [(.p p22), (.i .i64 n24), (.i .i64 n26), (.i .i64 n28), (.i .i64 n30)])] r19.2).bind fun r31 =>
 (AV.asI .i64 r31.1).bind fun n32 =>
 some ([(.b (decide (n6 > n32)))], r31.2)
 else some ([(.b true)], r19.2)) : Option (List AV × AH O)).bind fun r33 =>
 (AV.asB (r33.1.getD 0 .u)).bind fun b34 =>
 (bif b34 then
 some ((.i .i64 2), r33.2)
 else some ((.i .i64 0), r33.2)))
 else none
def qir : Sm O := qiq qic qim
theorem qis : Entered Tryz.prog 165 := Tryz.call165
theorem qit (k148 k182 : Sm O) : run (O := O) Tryz.prog [(148, k148), (182, k182)] Tryz.f165 (.n .z (.n (.n (.n .z (.n .z (.n (.g [(2, 4, [(17, .one .b)])]) (.n .z .z)))) .z) .z)) = qiq k148 k182 := by kernel_rfl
theorem qiu : FSound RO Tryz.prog 165 qir := sdf (qit _ _) (gcons qid qif <| gcons qin qip <| gnil) Tryz.func165 (by kernel_rfl)
def qiv : Sm O := fun xs h =>
 bif Nat.beq xs.length 3 then
 (AV.asAgg 5 (xs.getD 0 .u)).bind fun c0 =>
 (AV.asP (c0.getD 0 .u)).bind fun p1 =>
 gtI c0 1 fun n2 =>
 gtI c0 2 fun n3 =>
 gtI c0 3 fun n4 =>
 gtI c0 4 fun n5 =>
 gtI xs 1 fun n6 =>
 gtI xs 2 fun n7 =>
 let h8 := h.bump 1
 let h9 := h8.put h.next (.cells true 184 [(.p p1), (.i .i64 n2), (.i .i64 n3), (.i .i64 n4), (.i .i64 n5)])
 ldI h9 (.n h.next) 2 fun n11 =>
 let v12 : Int := (IntKind.i64.wrap ((IntKind.i64.wrap (n6 - 1)) * n11))
 some ((.i .i64 (IntKind.i64.wrap (v12 + n7))), h9)
 else none
def qiw : Sm O := qiv
theorem qix : Entered Tryz.prog 178 := Tryz.call178
theorem qiy : run (O := O) Tryz.prog [] Tryz.f178 (.n .z .z) = qiv  := by kernel_rfl
theorem qiz : FSound RO Tryz.prog 178 qiw := sdf qiy (gnil) Tryz.func178 (by kernel_rfl)
def qi0 (k178 k141 : Sm O) : Sm O := fun xs h =>
 bif Nat.beq xs.length 4 then
 (AV.asAgg 5 (xs.getD 0 .u)).bind fun c0 =>
 (AV.asP (c0.getD 0 .u)).bind fun p1 =>
 gtI c0 1 fun n2 =>
 gtI c0 2 fun n3 =>
 gtI c0 3 fun n4 =>
 gtI c0 4 fun n5 =>
 gtI xs 1 fun n6 =>
 gtI xs 2 fun n7 =>
 gtI xs 3 fun n8 =>
 let h9 := h.bump 1
 let h10 := h9.put h.next (.cells true 184 [(.p p1), (.i .i64 n2), (.i .i64 n3), (.i .i64 n4), (.i .i64 n5)])
 ldP h10 (.n h.next) 0 fun p12 =>
 ldI h10 (.n h.next) 1 fun n14 =>
 ldP h10 (.n h.next) 0 fun p16 =>
 ldI h10 (.n h.next) 1 fun n18 =>
 ldI h10 (.n h.next) 2 fun n20 =>
 ldI h10 (.n h.next) 3 fun n22 =>
 ldI h10 (.n h.next) 4 fun n24 =>
 (k178 [(.agg [(.p p16), (.i .i64 n18), (.i .i64 n20), (.i .i64 n22), (.i .i64 n24)]), (.i .i64 n6), (.i .i64 n7)] h10).bind fun r25 =>
 (AV.asI .i64 r25.1).bind fun n26 =>
 (chkE (r25.2.ld (.n h.next) 0) (some (.p p12))).bind fun _ =>
 (chkE (r25.2.ld (.n h.next) 1) (some (.i .i64 n14))).bind fun _ =>
 (k141 [(.p p12), (.i .i64 n14), (.i .i64 n26), (.i .u64 (IntKind.u64.wrap n8))] r25.2).bind fun r27 =>
 (AV.asI .i64 r27.1).bind fun n28 =>
 some ((.tup []), r27.2)
 else none
def qi1 : Sm O := qi0 qiw qgj
theorem qi2 : Entered Tryz.prog 149 := Tryz.call149
theorem qi3 (k178 k141 : Sm O) : run (O := O) Tryz.prog [(178, k178), (141, k141)] Tryz.f149 (.n .z (.d [] [0, 1, 2, 3, 4, 5, 6, 8, 9, 7, 10] [0, 1, 0, 4, 0, 0, 0, 112, 0, 256, 1023])) = qi0 k178 k141 := by kernel_rfl
theorem qi4 : FSound RO Tryz.prog 149 qi1 := sdf (qi3 _ _) (gcons qix qiz <| gcons qgk qgm <| gnil) Tryz.func149 (by kernel_rfl)
def qi5 (k165 k149 : Sm O) : Sm O := fun xs h =>
 bif Nat.beq xs.length 3 then
 (AV.asAgg 5 (xs.getD 0 .u)).bind fun c0 =>
 (AV.asP (c0.getD 0 .u)).bind fun p1 =>
 gtI c0 1 fun n2 =>
 gtI c0 2 fun n3 =>
 gtI c0 3 fun n4 =>
 gtI c0 4 fun n5 =>
 (AV.asAgg 3 (xs.getD 1 .u)).bind fun c6 =>
 gtI c6 0 fun n7 =>
 gtI c6 1 fun n8 =>
 gtI c6 2 fun n9 =>
 gtI xs 2 fun n10 =>
 let h11 := h.bump 3
 let h12 := h11.put h.next (.cells true 184 [(.p p1), (.i .i64 n2), (.i .i64 n3), (.i .i64 n4), (.i .i64 n5)])
 let h13 := h12.put (h.next + 1) (.cells true 155 [(.i .i64 n7), (.i .i64 n8), (.i .i64 n9)])
 let h14 := h13.put ((h.next + 1) + 1) (.cells true 155 [(.i .i64 0), (.i .i64 0), (.i .i64 0)])
 ldP h14 (.n h.next) 0 fun p16 =>
 ldI h14 (.n h.next) 1 fun n18 =>
 ldI h14 (.n h.next) 2 fun n20 =>
 ldI h14 (.n h.next) 3 fun n22 =>
 ldI h14 (.n h.next) 4 fun n24 =>
 (k165 [(.agg [(.p p16), (.i .i64 n18), (.i .i64 n20), (.i .i64 n22), (.i .i64 n24)]), (.i .i64 n10)] h14).bind fun r25 =>
 (AV.asI .i64 r25.1).bind fun n26 =>
 (bif ((n26 : Int) != 0) then
 ldI r25.2 (.n (h.next + 1)) 0 fun n28 =>
 ldI r25.2 (.n (h.next + 1)) 1 fun n30 =>
 ldI r25.2 (.n (h.next + 1)) 2 fun n32 =>
 (r25.2.st (.n ((h.next + 1) + 1)) 0 [(.i .i64 n28), (.i .i64 n30), (.i .i64 n32)]).bind fun h33 =>
 ldI h33 (.n ((h.next + 1) + 1)) 0 fun n35 =>
 ldI h33 (.n ((h.next + 1) + 1)) 1 fun n37 =>
 ldI h33 (.n ((h.next + 1) + 1)) 2 fun n39 =>
 some ((.tup [(.agg [(.i .i64 n35), (.i .i64 n37), (.i .i64 n39)]), (.i .i64 n26)]), h33)
 else ldP r25.2 (.n h.next) 0 fun p41 =>
 ldI r25.2 (.n h.next) 1 fun n43 =>
 ldI r25.2 (.n h.next) 2 fun n45 =>
 ldI r25.2 (.n h.next) 3 fun n47 =>
 ldI r25.2 (.n h.next) 4 fun n49 =>
 ldI r25.2 (.n h.next) 4 fun n51 =>
 ldI r25.2 (.n (h.next + 1)) 1 fun n53 =>
 (k149 [(.agg [(.p p41), (.i .i64 n43), (.i .i64 n45), (.i .i64 n47), (.i .i64 n49)]), (.i .i64 n10), (.i .i64 n51), (.i .i64 n53)] r25.2).bind fun r54 =>
 (AV.asTup 0 r54.1).bind fun c55 =>
 ldP r54.2 (.n h.next) 0 fun p57 =>
 ldI r54.2 (.n h.next) 1 fun n59 =>
 ldI r54.2 (.n h.next) 2 fun n61 =>
 ldI r54.2 (.n h.next) 3 fun n63 =>
 ldI r54.2 (.n h.next) 4 fun n65 =>
 ldI r54.2 (.n h.next) 3 fun n67 =>
 (k149 [(.agg [(.p p57), (.i .i64 n59), (.i .i64 n61), (.i .i64 n63), (.i .i64 n65)]), (.i .i64 n10), (.i .i64 n67), (.i .i64 0)] r54.2).bind fun r68 =>
 (AV.asTup 0 r68.1).bind fun c69 =>
 ldI r68.2 (.n (h.next + 1)) 2 fun n71 =>
 (bif ((n71 : Int) == 0) then
 (r68.2.st (.n ((h.next + 1) + 1)) 0 [(.i .i64 n10), (.i .i64 n10), (.i .i64 1)]).bind fun h72 =>
 ldI h72 (.n ((h.next + 1) + 1)) 0 fun n74 =>
 ldI h72 (.n ((h.next + 1) + 1)) 1 fun n76 =>
 ldI h72 (.n ((h.next + 1) + 1)) 2 fun n78 =>
 some ((.tup [(.agg [(.i .i64 n74), (.i .i64 n76), (.i .i64 n78)]), (.i .i64 0)]), h72)
 else ldP r68.2 (.n h.next) 0 fun p80 =>
 ldI r68.2 (.n h.next) 1 fun n82 =>
 ldI r68.2 (.n h.next) 2 fun n84 =>
 ldI r68.2 (.n h.next) 3 fun n86 =>
 ldI r68.2 (.n h.next) 4 fun n88 =>
 ldI r68.2 (.n (h.next + 1)) 1 fun n90 =>
 ldI r68.2 (.n h.next) 3 fun n92 =>
 (k149 [(.agg [(.p p80), (.i .i64 n82), (.i .i64 n84), (.i .i64 n86), (.i .i64 n88)]), (.i .i64 n90), (.i .i64 n92), (.i .i64 n10)] r68.2).bind fun r93 =>
 (AV.asTup 0 r93.1).bind fun c94 =>
 ldI r93.2 (.n (h.next + 1)) 0 fun n96 =>
 ldI r93.2 (.n (h.next + 1)) 2 fun n98 =>
 (r93.2.st (.n ((h.next + 1) + 1)) 0 [(.i .i64 n96), (.i .i64 n10), (.i .i64 (IntKind.i64.wrap (n98 + 1)))]).bind fun h99 =>
 ldI h99 (.n ((h.next + 1) + 1)) 0 fun n101 =>
 ldI h99 (.n ((h.next + 1) + 1)) 1 fun n103 =>
 ldI h99 (.n ((h.next + 1) + 1)) 2 fun n105 =>
 some ((.tup [(.agg [(.i .i64 n101), (.i .i64 n103), (.i .i64 n105)]), (.i .i64 0)]), h99)))
 else none
def qi6 : Sm O := qi5 qir qi1
theorem qi7 : Entered Tryz.prog 132 := Tryz.call132
theorem qi8 (k165 k149 : Sm O) : run (O := O) Tryz.prog [(165, k165), (149, k149)] Tryz.f132 (.n .z (.n (.n .z (.n .z (.n .z .z))) (.n .z (.n .z (.n (.n .z (.n .z .z)) (.n .z .z)))))) = qi5 k165 k149 := by kernel_rfl
theorem qi9 : FSound RO Tryz.prog 132 qi6 := sdf (qi8 _ _) (gcons qis qiu <| gcons qi2 qi4 <| gnil) Tryz.func132 (by kernel_rfl)
def qja (k99 k129 k126 k130 k100 k132 : Sm O) : Sm O := fun xs h =>
 bif Nat.beq xs.length 2 then
 (AV.asP (xs.getD 0 .u)).bind fun p0 =>
 gtI xs 1 fun n1 =>
 (bif (decide (n1 < 1)) then
 some ((.tup [(.i .i64 0), (.i .i64 1)]), h)
 else Option.bind p0 fun q2 =>
 ldP h q2.1 q2.2 fun p4 =>
 (k99 [(.p p4), (.i .i64 n1)] h).bind fun r5 =>
 (AV.asTup 2 r5.1).bind fun c6 =>
 gtI c6 0 fun n7 =>
 gtI c6 1 fun n8 =>
 (bif ((n8 : Int) != 0) then
 some ((.tup [(.i .i64 0), (.i .i64 n8)]), r5.2)
 else Option.bind p0 fun q9 =>
 ldP r5.2 q9.1 (q9.2 + 1) fun p11 =>
 (k129 [(.p p11)] r5.2).bind fun r12 =>
 (AV.asTup 2 r12.1).bind fun c13 =>
 gtI c13 0 fun n14 =>
 gtI c13 1 fun n15 =>
 (bif ((n15 : Int) != 0) then
 Option.bind p0 fun q16 =>
 ldP r12.2 q16.1 q16.2 fun p18 =>
 (k126 [(.p p18), (.i .i64 n7)] r12.2).bind fun r19 =>
 (AV.asI .i64 r19.1).bind fun n20 =>
 some ((.tup [(.i .i64 0), (.i .i64 n15)]), r19.2)
 else Option.bind p0 fun q21 =>
 ldP r12.2 q21.1 (q21.2 + 1) fun p23 =>
 (k130 [(.p p23), (.i .i64 n14), (.i .i64 0), (.i .u64 (IntKind.u64.wrap n7))] r12.2).bind fun r24 =>
 (AV.asI .i64 r24.1).bind fun n25 =>
 Option.bind p0 fun q26 =>
 ldP r24.2 q26.1 (q26.2 + 1) fun p28 =>
 (k130 [(.p p28), (.i .i64 n14), (.i .i64 1), (.i .u64 (IntKind.u64.wrap n1))] r24.2).bind fun r29 =>
 (AV.asI .i64 r29.1).bind fun n30 =>
 Option.bind p0 fun q31 =>
 ldP r29.2 q31.1 (q31.2 + 1) fun p33 =>
 Option.bind p0 fun q34 =>
 ldU r29.2 q34.1 (q34.2 + 8) fun n36 =>
 (k130 [(.p p33), (.i .i64 n14), (.i .i64 4), (.i .u64 n36)] r29.2).bind fun r37 =>
 (AV.asI .i64 r37.1).bind fun n38 =>
 Option.bind p0 fun q39 =>
 ldI r37.2 q39.1 (q39.2 + 2) fun n41 =>
 ldI r37.2 q39.1 ((q39.2 + 2) + 1) fun n43 =>
 ldI r37.2 q39.1 (((q39.2 + 2) + 1) + 1) fun n45 =>
 (k100 [(.p p0)] r37.2).bind fun r46 =>
 (AV.asAgg 5 r46.1).bind fun c47 =>
 (AV.asP (c47.getD 0 .u)).bind fun p48 =>
 gtI c47 1 fun n49 =>
 gtI c47 2 fun n50 =>
 gtI c47 3 fun n51 =>
 gtI c47 4 fun n52 =>
 (chkE (r46.2.ld q39.1 (q39.2 + 2)) (some (.i .i64 n41))).bind fun _ =>
 (chkE (r46.2.ld q39.1 ((q39.2 + 2) + 1)) (some (.i .i64 n43))).bind fun _ =>
 (chkE (r46.2.ld q39.1 (((q39.2 + 2) + 1) + 1)) (some (.i .i64 n45))).bind fun _ =>
 (k132 [(.agg [(.p p48), (.i .i64 n49), (.i .i64 n50), (.i .i64 n51), (.i .i64 n52)]), (.agg [(.i .i64 n41), (.i .i64 n43), (.i .i64 n45)]), (.i .i64 n14)] r46.2).bind fun r53 =>
 (AV.asTup 2 r53.1).bind fun c54 =>
 (AV.asAgg 3 (c54.getD 0 .u)).bind fun c55 =>
 gtI c55 0 fun n56 =>
 gtI c55 1 fun n57 =>
 gtI c55 2 fun n58 =>
 gtI c54 1 fun n59 =>
 Option.bind p0 fun q60 =>
 (r53.2.st q60.1 (q60.2 + 2) [(.i .i64 n56), (.i .i64 n57), (.i .i64 n58)]).bind fun h61 =>
 Option.bind p0 fun q62 =>
 ldI h61 q62.1 (q62.2 + 10) fun n64 =>
 Option.bind p0 fun q65 =>
 (h61.st q65.1 (q65.2 + 10) [(.i .i64 (IntKind.i64.wrap (n64 + n1)))]).bind fun h66 =>
 some ((.tup [(.i .i64 n14), (.i .i64 0)]), h66))))
 else none
def qjb : Sm O := qja qb0 qgy qg8 qhs qh2 qi6
theorem qjc : Entered Tryz.prog 88 := Tryz.call88
theorem qjd (k99 k129 k126 k130 k100 k132 : Sm O) : run (O := O) Tryz.prog [(99, k99), (129, k129), (126, k126), (130, k130), (100, k100), (132, k132)] Tryz.f88 (.n .z (.n (.n .z (.n .z .z)) (.n .z (.n (.n .z (.n .z .z)) (.n .z (.n (.n .z (.n (.n .z .z) .z)) (.n .z (.n .z (.n (.d [] [0, 1, 2, 3, 4, 5, 6, 7, 8, 9] [0, 1, 3, 7, 0, 0, 32, 96, 224, 511]) (.n (.d [] [0, 1, 3, 4, 5, 6, 7, 2, 8, 9, 10, 11, 12, 13, 14] [0, 0, 2, 0, 8, 24, 56, 0, 254, 510, 1022, 1022, 2047, 6143, 14335]) (.n .z .z))))))))))) = qja k99 k129 k126 k130 k100 k132 := by kernel_rfl
theorem qje : FSound RO Tryz.prog 88 qjb := sdf (qjd _ _ _ _ _ _) (gcons qb1 qb3 <| gcons qgz qg1 <| gcons qg9 qhb <| gcons qht qhv <| gcons qh3 qh5 <| gcons qi7 qi9 <| gnil) Tryz.func88 (by kernel_rfl)
def qjf (k158 k159 k117 : Sm O) : Sm O := fun xs h =>
 bif Nat.beq xs.length 3 then
 (AV.asP (xs.getD 0 .u)).bind fun p0 =>
 gtI xs 1 fun n1 =>
 gtI xs 2 fun n2 =>
 (k158 [(.p p0), (.i .i64 n1), (.i .i64 n2)] h).bind fun r3 =>
 (AV.asI .i64 r3.1).bind fun n4 =>
 (bif ((n4 : Int) != 0) then
 some ((.tup [(.i .u64 0), (.i .i64 n4)]), r3.2)
 else Option.bind p0 fun q5 =>
 ldP r3.2 q5.1 q5.2 fun p7 =>
 Option.bind p0 fun q8 =>
 ldI r3.2 q8.1 (q8.2 + 1) fun n10 =>
 (k159 [(.p p0), (.i .i64 n1), (.i .i64 n2)] r3.2).bind fun r11 =>
 (AV.asI .i64 r11.1).bind fun n12 =>
 (chkE (r11.2.ld q5.1 q5.2) (some (.p p7))).bind fun _ =>
 (chkE (r11.2.ld q8.1 (q8.2 + 1)) (some (.i .i64 n10))).bind fun _ =>
 (k117 [(.p p7), (.i .i64 n10), (.i .i64 n12)] r11.2).bind fun r13 =>
 (AV.asTup 2 r13.1).bind fun c14 =>
 gtU c14 0 fun n15 =>
 gtI c14 1 fun n16 =>
 some ((.tup [(.i .u64 n15), (.i .i64 n16)]), r13.2))
 else none
def qjg : Sm O := qjf qhn qfp qgo
theorem qjh : Entered Tryz.prog 119 := Tryz.call119
theorem qji (k158 k159 k117 : Sm O) : run (O := O) Tryz.prog [(158, k158), (159, k159), (117, k117)] Tryz.f119 (.n .z (.n (.n .z (.n .z (.n .z .z))) (.n (.d [] [0, 1, 2, 3, 4, 5, 6, 7, 8, 9, 10, 11, 12, 13, 14, 15, 16] [0, 1, 3, 7, 0, 16, 48, 112, 0, 0, 0, 1792, 4095, 8191, 8191, 32767, 65535]) .z))) = qjf k158 k159 k117 := by kernel_rfl
theorem qjj : FSound RO Tryz.prog 119 qjg := sdf (qji _ _ _) (gcons qho qhq <| gcons qfq qfs <| gcons qgp qgr <| gnil) Tryz.func119 (by kernel_rfl)
def qjk (k119 k141 : Sm O) : Sm O := fun xs h =>
 bif Nat.beq xs.length 4 then
 (AV.asP (xs.getD 0 .u)).bind fun p0 =>
 gtI xs 1 fun n1 =>
 gtI xs 2 fun n2 =>
 gtU xs 3 fun n3 =>
 Option.bind p0 fun q4 =>
 ldP h q4.1 (q4.2 + 1) fun p6 =>
 (k119 [(.p p6), (.i .i64 n1), (.i .i64 0)] h).bind fun r7 =>
 (AV.asTup 2 r7.1).bind fun c8 =>
 gtU c8 0 fun n9 =>
 gtI c8 1 fun n10 =>
 (bif ((n10 : Int) != 0) then
 some ((.i .i64 n10), r7.2)
 else Option.bind p0 fun q11 =>
 ldP r7.2 q11.1 q11.2 fun p13 =>
 (k141 [(.p p13), (.i .i64 (IntKind.i64.wrap n9)), (.i .i64 n2), (.i .u64 n3)] r7.2).bind fun r14 =>
 (AV.asI .i64 r14.1).bind fun n15 =>
 some ((.i .i64 n15), r14.2))
 else none
def qjl : Sm O := qjk qjg qgj
theorem qjm : Entered Tryz.prog 90 := Tryz.call90
theorem qjn (k119 k141 : Sm O) : run (O := O) Tryz.prog [(119, k119), (141, k141)] Tryz.f90 (.n .z (.n .z (.n (.n .z (.n .z .z)) .z))) = qjk k119 k141 := by kernel_rfl
theorem qjo : FSound RO Tryz.prog 90 qjl := sdf (qjn _ _) (gcons qjh qjj <| gcons qgk qgm <| gnil) Tryz.func90 (by kernel_rfl)
def qjp : Sm O := fun xs h =>
 bif Nat.beq xs.length 1 then
 gtI xs 0 fun n0 =>
 ((bif ((decide (n0 < 1)) == false) then
 some ([(.b (decide (n0 > 1048576)))], h)
 else some ([(.b true)], h)) : Option (List AV × AH O)).bind fun r1 =>
 (AV.asB (r1.1.getD 0 .u)).bind fun b2 =>
 (bif b2 then
 some ((.tup [(.i .u64 0), (.i .i64 2)]), r1.2)
 else let v3 : Int := (IntKind.u64.wrap ((IntKind.u64.wrap n0) * 2 ^ 1))
 some ((.tup [(.i .u64 v3), (.i .i64 0)]), r1.2))
 else none
def qjq : Sm O := qjp
theorem qjr : Entered Tryz.prog 91 := Tryz.call91
theorem qjs : run (O := O) Tryz.prog [] Tryz.f91 (.n .z (.n (.n (.g [(2, 2, [(9, .one .b)])]) (.n .z .z)) .z)) = qjp  := by kernel_rfl
theorem qjt : FSound RO Tryz.prog 91 qjq := sdf qjs (gnil) Tryz.func91 (by kernel_rfl)
def qju (k74 : Sm O) : Sm O := fun xs h =>
 bif Nat.beq xs.length 1 then
 (AV.asP (xs.getD 0 .u)).bind fun p0 =>
 Option.bind p0 fun q1 =>
 ldP h q1.1 q1.2 fun p3 =>
 Option.bind p0 fun q4 =>
 ldI h q4.1 (q4.2 + 1) fun n6 =>
 (k74 [(.p p3), (.i .i64 n6)] h).bind fun r7 =>
 (AV.asTup 2 r7.1).bind fun c8 =>
 gtI c8 0 fun n9 =>
 gtI c8 1 fun n10 =>
 some ((.i .i64 n9), r7.2)
 else none
def qjv : Sm O := qju qih
theorem qjw : Entered Tryz.prog 34 := Tryz.call34
theorem qjx (k74 : Sm O) : run (O := O) Tryz.prog [(74, k74)] Tryz.f34 (.n .z (.n (.d [] [0, 1, 2, 3, 4, 5, 6, 7, 8, 9, 10, 11, 12, 13, 14] [0, 1, 3, 7, 0, 16, 48, 112, 240, 511, 1023, 2047, 2047, 4095, 16383]) .z)) = qju k74 := by kernel_rfl
theorem qjy : FSound RO Tryz.prog 34 qjv := sdf (qjx _) (gcons qii qik <| gnil) Tryz.func34 (by kernel_rfl)
def qjz (k34 : Sm O) : Sm O := fun xs h =>
 bif Nat.beq xs.length 1 then
 (AV.asP (xs.getD 0 .u)).bind fun p0 =>
 Option.bind p0 fun q1 =>
 ldI h q1.1 ((q1.2 + 1) + 1) fun n3 =>
 (k34 [(.p p0)] h).bind fun r4 =>
 (AV.asI .i64 r4.1).bind fun n5 =>
 (chkE (r4.2.ld q1.1 ((q1.2 + 1) + 1)) (some (.i .i64 n3))).bind fun _ =>
 some ((.i .i64 (IntKind.i64.wrap (n5 - n3))), r4.2)
 else none
def qj0 : Sm O := qjz qjv
theorem qj1 : Entered Tryz.prog 142 := Tryz.call142
theorem qj2 (k34 : Sm O) : run (O := O) Tryz.prog [(34, k34)] Tryz.f142 (.n .z (.n (.d [] [0, 2, 3, 4, 5, 6, 1, 7, 8] [0, 1, 0, 4, 12, 28, 60, 127, 255]) .z)) = qjz k34 := by kernel_rfl
theorem qj3 : FSound RO Tryz.prog 142 qj0 := sdf (qj2 _) (gcons qjw qjy <| gnil) Tryz.func142 (by kernel_rfl)
def qj4 (k142 : Sm O) : Sm O := fun xs h =>
 bif Nat.beq xs.length 2 then
 (AV.asP (xs.getD 0 .u)).bind fun p0 =>
 gtI xs 1 fun n1 =>
 (bif (decide (n1 < 1)) then
 some ((.tup [(.i .i64 0), (.i .i64 1)]), h)
 else (k142 [(.p p0)] h).bind fun r2 =>
 (AV.asI .i64 r2.1).bind fun n3 =>
 (bif (decide (n1 > n3)) then
 some ((.tup [(.i .i64 0), (.i .i64 3)]), r2.2)
 else Option.bind p0 fun q4 =>
 ldI r2.2 q4.1 ((q4.2 + 1) + 1) fun n6 =>
 Option.bind p0 fun q7 =>
 ldI r2.2 q7.1 ((q7.2 + 1) + 1) fun n9 =>
 Option.bind p0 fun q10 =>
 (r2.2.st q10.1 ((q10.2 + 1) + 1) [(.i .i64 (IntKind.i64.wrap (n9 + n1)))]).bind fun h11 =>
 some ((.tup [(.i .i64 n6), (.i .i64 0)]), h11)))
 else none
def qj5 : Sm O := qj4 qj0
theorem qj6 : Entered Tryz.prog 92 := Tryz.call92
theorem qj7 (k142 : Sm O) : run (O := O) Tryz.prog [(142, k142)] Tryz.f92 (.n .z (.n (.n (.n .z (.n .z (.n .z (.n .z .z)))) .z) (.n .z (.n .z .z)))) = qj4 k142 := by kernel_rfl
theorem qj8 : FSound RO Tryz.prog 92 qj5 := sdf (qj7 _) (gcons qj1 qj3 <| gnil) Tryz.func92 (by kernel_rfl)
def qj9 : Sm O := fun xs h =>
 bif Nat.beq xs.length 3 then
 (AV.asAgg 2 (xs.getD 0 .u)).bind fun c0 =>
 gtI c0 0 fun n1 =>
 gtI c0 1 fun n2 =>
 gtI xs 1 fun n3 =>
 gtI xs 2 fun n4 =>
 let h5 := h.bump 1
 let h6 := h5.put h.next (.cells true 133 [(.i .i64 n1), (.i .i64 n2)])
 ((bif ((decide (n4 >= 0)) == true) then
 some ([(.b (decide (n3 >= 0)))], h6)
 else some ([(.b false)], h6)) : Option (List AV × AH O)).bind fun r7 =>
 (AV.asB (r7.1.getD 0 .u)).bind fun b8 =>
 ((bif (b8 == true) then
 ldI r7.2 (.n h.next) 1 fun n10 =>
 some ([(.b (decide (n3 <= n10)))], r7.2)
 else some ([(.b false)], r7.2)) : Option (List AV × AH O)).bind fun r11 =>
 (AV.asB (r11.1.getD 0 .u)).bind fun b12 =>
 ((bif (b12 == true) then
 ldI r11.2 (.n h.next) 1 fun n14 =>
 some ([(.b (decide (n4 <= (IntKind.i64.wrap (n14 - n3)))))], r11.2)
 else some ([(.b false)], r11.2)) : Option (List AV × AH O)).bind fun r15 =>
 (AV.asB (r15.1.getD 0 .u)).bind fun b16 =>
 some ((.b b16), r15.2)
 else none
def qka : Sm O := qj9
theorem qkb : Entered Tryz.prog 143 := Tryz.call143
theorem qkc : run (O := O) Tryz.prog [] Tryz.f143 (.n .z (.n (.g [(2, 2, [(12, .one .b)]), (6, 4, [(18, .one .b)]), (12, 6, [(26, .one .b)])]) .z)) = qj9  := by kernel_rfl
theorem qkd : FSound RO Tryz.prog 143 qka := sdf qkc (gnil) Tryz.func143 (by kernel_rfl)
def qke (k143 k141 : Sm O) : Sm O := fun xs h =>
 bif Nat.beq xs.length 3 then
 (AV.asP (xs.getD 0 .u)).bind fun p0 =>
 gtI xs 1 fun n1 =>
 gtU xs 2 fun n2 =>
 Option.bind p0 fun q3 =>
 ldI h q3.1 (q3.2 + 1) fun n5 =>
 ldI h q3.1 ((q3.2 + 1) + 1) fun n7 =>
 (k143 [(.agg [(.i .i64 n5), (.i .i64 n7)]), (.i .i64 n1), (.i .i64 1)] h).bind fun r8 =>
 (AV.asB r8.1).bind fun b9 =>
 (bif (!b9) then
 some ((.i .i64 11), r8.2)
 else Option.bind p0 fun q10 =>
 ldP r8.2 q10.1 q10.2 fun p12 =>
 Option.bind p0 fun q13 =>
 ldI r8.2 q13.1 (q13.2 + 1) fun n15 =>
 (k141 [(.p p12), (.i .i64 n15), (.i .i64 n1), (.i .u64 n2)] r8.2).bind fun r16 =>
 (AV.asI .i64 r16.1).bind fun n17 =>
 some ((.i .i64 n17), r16.2))
 else none
def qkf : Sm O := qke qka qgj
theorem qkg : Entered Tryz.prog 93 := Tryz.call93
theorem qkh (k143 k141 : Sm O) : run (O := O) Tryz.prog [(143, k143), (141, k141)] Tryz.f93 (.n .z (.n (.n .z (.n .z .z)) (.n (.d [] [0, 1, 2, 3, 4, 5, 6, 7, 8, 9, 10, 11, 12] [0, 1, 3, 7, 0, 16, 48, 112, 240, 0, 0, 2047, 4095]) .z))) = qke k143 k141 := by kernel_rfl
theorem qki : FSound RO Tryz.prog 93 qkf := sdf (qkh _ _) (gcons qkb qkd <| gcons qgk qgm <| gnil) Tryz.func93 (by kernel_rfl)
def qkj : Sm O := fun xs h =>
 bif Nat.beq xs.length 1 then
 gtI xs 0 fun n0 =>
 ((bif ((decide (n0 < 0)) == false) then
 some ([(.b (decide (n0 >= 4194304)))], h)
 else some ([(.b true)], h)) : Option (List AV × AH O)).bind fun r1 =>
 (AV.asB (r1.1.getD 0 .u)).bind fun b2 =>
 (bif b2 then
 some ((.tup [(.i .u64 0), (.i .i64 2)]), r1.2)
 else let v3 : Int := (IntKind.u64.wrap ((IntKind.u64.wrap n0) * 2 ^ 1))
 some ((.tup [(.i .u64 (ibits .or .u64 v3 1)), (.i .i64 0)]), r1.2))
 else none
def qkk : Sm O := qkj
theorem qkl : Entered Tryz.prog 65 := Tryz.call65
theorem qkm : run (O := O) Tryz.prog [] Tryz.f65 (.n .z (.n (.n (.g [(2, 2, [(9, .one .b)])]) (.n .z .z)) .z)) = qkj  := by kernel_rfl
theorem qkn : FSound RO Tryz.prog 65 qkk := sdf qkm (gnil) Tryz.func65 (by kernel_rfl)
def qko (k86 k87 k89 k88 k90 k91 k92 k93 k65 : Sm O) : Sm O := fun xs h =>
 bif Nat.beq xs.length 3 then
 (AV.asP (xs.getD 0 .u)).bind fun p0 =>
 (AV.asAgg 2 (xs.getD 1 .u)).bind fun c1 =>
 gtI c1 0 fun n2 =>
 gtI c1 1 fun n3 =>
 gtI xs 2 fun n4 =>
 let h5 := h.bump 1
 let h6 := h5.put h.next (.cells true 37 [(.i .i64 n2), (.i .i64 n3)])
 let h7 := h6.bump 1
 ldI h7 (.n h.next) 0 fun n9 =>
 ldI h7 (.n h.next) 1 fun n11 =>
 ldI h7 (.n h.next) 0 fun n13 =>
 ldI h7 (.n h.next) 1 fun n15 =>
 Option.bind p0 fun q16 =>
 ldI h7 q16.1 (q16.2 + 3) fun n18 =>
 (k86 [(.agg [(.i .i64 n13), (.i .i64 n15)]), (.i .i64 n18)] h7).bind fun r19 =>
 (AV.asB r19.1).bind fun b20 =>
 (chkE (r19.2.ld (.n h.next) 0) (some (.i .i64 n9))).bind fun _ =>
 (chkE (r19.2.ld (.n h.next) 1) (some (.i .i64 n11))).bind fun _ =>
 let h21 := r19.2.put h6.next (.cells true 39 [(.i .i64 0), (.i .i64 0), (.i .i64 0), (.i .i64 0), (.b false)])
 (h21.st (.n h6.next) 0 [(.i .i64 n9), (.i .i64 n11), (.i .i64 n4), (.i .i64 0), (.b b20)]).bind fun h22 =>
 ldI h22 (.n h6.next) 0 fun n24 =>
 ldI h22 (.n h6.next) 1 fun n26 =>
 ldI h22 (.n h6.next) 2 fun n28 =>
 ldI h22 (.n h6.next) 3 fun n30 =>
 (h22.ld (.n h6.next) 4).bind fun w31 =>
 (AV.asB w31).bind fun b32 =>
 (k87 [(.agg [(.i .i64 n24), (.i .i64 n26), (.i .i64 n28), (.i .i64 n30), (.b b32)])] h22).bind fun r33 =>
 (AV.asTup 2 r33.1).bind fun c34 =>
 gtU c34 0 fun n35 =>
 gtI c34 1 fun n36 =>
 (bif ((n36 : Int) != 0) then
 some ((.tup [(.i .u64 0), (.i .i64 n36)]), r33.2)
 else (r33.2.ld (.n h6.next) 4).bind fun w37 =>
 (AV.asB w37).bind fun b38 =>
 (bif b38 then
 Option.bind p0 fun q39 =>
 ldP r33.2 q39.1 ((q39.2 + 1) + 1) fun p41 =>
 ldI r33.2 (.n h6.next) 0 fun n43 =>
 ldI r33.2 (.n h6.next) 1 fun n45 =>
 ldI r33.2 (.n h6.next) 2 fun n47 =>
 ldI r33.2 (.n h6.next) 3 fun n49 =>
 (r33.2.ld (.n h6.next) 4).bind fun w50 =>
 (AV.asB w50).bind fun b51 =>
 (k89 [(.agg [(.i .i64 n43), (.i .i64 n45), (.i .i64 n47), (.i .i64 n49), (.b b51)])] r33.2).bind fun r52 =>
 (AV.asI .i64 r52.1).bind fun n53 =>
 (chkE (r52.2.ld q39.1 ((q39.2 + 1) + 1)) (some (.p p41))).bind fun _ =>
 (k88 [(.p p41), (.i .i64 n53)] r52.2).bind fun r54 =>
 (AV.asTup 2 r54.1).bind fun c55 =>
 gtI c55 0 fun n56 =>
 gtI c55 1 fun n57 =>
 (bif ((n57 : Int) != 0) then
 some ((.tup [(.i .u64 0), (.i .i64 n57)]), r54.2)
 else Option.bind p0 fun q58 =>
 ldP r54.2 q58.1 ((q58.2 + 1) + 1) fun p60 =>
 (k90 [(.p p60), (.i .i64 n56), (.i .i64 0), (.i .u64 n35)] r54.2).bind fun r61 =>
 (AV.asI .i64 r61.1).bind fun n62 =>
 (k91 [(.i .i64 n56)] r61.2).bind fun r63 =>
 (AV.asTup 2 r63.1).bind fun c64 =>
 gtU c64 0 fun n65 =>
 gtI c64 1 fun n66 =>
 some ((.tup [(.i .u64 n65), (.i .i64 n66)]), r63.2))
 else Option.bind p0 fun q67 =>
 ldP r33.2 q67.1 (q67.2 + 1) fun p69 =>
 ldI r33.2 (.n h6.next) 0 fun n71 =>
 ldI r33.2 (.n h6.next) 1 fun n73 =>
 ldI r33.2 (.n h6.next) 2 fun n75 =>
 ldI r33.2 (.n h6.next) 3 fun n77 =>
 (r33.2.ld (.n h6.next) 4).bind fun w78 =>
 (AV.asB w78).bind fun b79 =>
 (k89 [(.agg [(.i .i64 n71), (.i .i64 n73), (.i .i64 n75), (.i .i64 n77), (.b b79)])] r33.2).bind fun r80 =>
 (AV.asI .i64 r80.1).bind fun n81 =>
 (chkE (r80.2.ld q67.1 (q67.2 + 1)) (some (.p p69))).bind fun _ =>
 (k92 [(.p p69), (.i .i64 n81)] r80.2).bind fun r82 =>
 (AV.asTup 2 r82.1).bind fun c83 =>
 gtI c83 0 fun n84 =>
 gtI c83 1 fun n85 =>
 (bif ((n85 : Int) != 0) then
 some ((.tup [(.i .u64 0), (.i .i64 n85)]), r82.2)
 else Option.bind p0 fun q86 =>
 ldP r82.2 q86.1 (q86.2 + 1) fun p88 =>
 (k93 [(.p p88), (.i .i64 n84), (.i .u64 n35)] r82.2).bind fun r89 =>
 (AV.asI .i64 r89.1).bind fun n90 =>
 (k65 [(.i .i64 n84)] r89.2).bind fun r91 =>
 (AV.asTup 2 r91.1).bind fun c92 =>
 gtU c92 0 fun n93 =>
 gtI c92 1 fun n94 =>
 some ((.tup [(.i .u64 n93), (.i .i64 n94)]), r91.2))))
 else none
def qkp : Sm O := qko qdt qe0 qdj qjb qjl qjq qj5 qkf qkk
theorem qkq : Entered Tryz.prog 46 := Tryz.call46
theorem qkr (k86 k87 k89 k88 k90 k91 k92 k93 k65 : Sm O) : run (O := O) Tryz.prog [(86, k86), (87, k87), (89, k89), (88, k88), (90, k90), (91, k91), (92, k92), (93, k93), (65, k65)] Tryz.f46 (.n .z (.n (.d [] [0, 1, 2, 3, 4, 5, 6, 7, 8, 9, 10] [0, 0, 0, 0, 8, 24, 56, 124, 255, 0, 1023]) (.n .z (.n (.n .z (.n .z .z)) (.n (.n .z (.n (.n (.d [] [0, 1, 2, 3, 4, 5, 6, 7, 8, 9, 10, 11, 12] [0, 1, 3, 7, 15, 0, 32, 127, 255, 511, 511, 1023, 4095]) (.n (.n .z (.n .z .z)) (.n .z .z))) .z)) (.n (.d [] [0, 1, 2, 3, 4, 5, 6, 7, 8, 9, 10, 11, 12] [0, 1, 3, 7, 15, 0, 32, 127, 255, 511, 511, 1023, 4095]) (.n (.n .z (.n .z .z)) (.n .z .z)))))))) = qko k86 k87 k89 k88 k90 k91 k92 k93 k65 := by kernel_rfl
theorem qks : FSound RO Tryz.prog 46 qkp := sdf (qkr _ _ _ _ _ _ _ _ _) (gcons qdu qdw <| gcons qe1 qe3 <| gcons qdk qdm <| gcons qjc qje <| gcons qjm qjo <| gcons qjr qjt <| gcons qj6 qj8 <| gcons qkg qki <| gcons qkl qkn <| gnil) Tryz.func46 (by kernel_rfl)
def qkt : Sm O := fun xs h =>
 bif Nat.beq xs.length 1 then
 (AV.asAgg 2 (xs.getD 0 .u)).bind fun c0 =>
 gtI c0 0 fun n1 =>
 gtI c0 1 fun n2 =>
 let h3 := h.bump 1
 let h4 := h3.put h.next (.cells true 37 [(.i .i64 n1), (.i .i64 n2)])
 ldI h4 (.n h.next) 0 fun n6 =>
 ((bif ((decide (n6 >= 0)) == true) then
 ldI h4 (.n h.next) 0 fun n8 =>
 some ([(.b (decide (n8 < 4096)))], h4)
 else some ([(.b false)], h4)) : Option (List AV × AH O)).bind fun r9 =>
 (AV.asB (r9.1.getD 0 .u)).bind fun b10 =>
 ((bif (b10 == true) then
 ldI r9.2 (.n h.next) 1 fun n12 =>
 some ([(.b (decide (n12 >= 0)))], r9.2)
 else some ([(.b false)], r9.2)) : Option (List AV × AH O)).bind fun r13 =>
 (AV.asB (r13.1.getD 0 .u)).bind fun b14 =>
 ((bif (b14 == true) then
 ldI r13.2 (.n h.next) 1 fun n16 =>
 some ([(.b (decide (n16 < 4096)))], r13.2)
 else some ([(.b false)], r13.2)) : Option (List AV × AH O)).bind fun r17 =>
 (AV.asB (r17.1.getD 0 .u)).bind fun b18 =>
 some ((.b b18), r17.2)
 else none
def qku : Sm O := qkt
theorem qkv : Entered Tryz.prog 144 := Tryz.call144
theorem qkw : run (O := O) Tryz.prog [] Tryz.f144 (.n .z (.n (.g [(3, 3, [(10, .one .b)]), (8, 3, [(15, .one .b)]), (13, 3, [(20, .one .b)])]) .z)) = qkt  := by kernel_rfl
theorem qkx : FSound RO Tryz.prog 144 qku := sdf qkw (gnil) Tryz.func144 (by kernel_rfl)
def qky (k144 : Sm O) : Sm O := fun xs h =>
 bif Nat.beq xs.length 1 then
 (AV.asAgg 2 (xs.getD 0 .u)).bind fun c0 =>
 gtI c0 0 fun n1 =>
 gtI c0 1 fun n2 =>
 let h3 := h.bump 1
 let h4 := h3.put h.next (.cells true 37 [(.i .i64 n1), (.i .i64 n2)])
 ldI h4 (.n h.next) 0 fun n6 =>
 ldI h4 (.n h.next) 1 fun n8 =>
 (k144 [(.agg [(.i .i64 n6), (.i .i64 n8)])] h4).bind fun r9 =>
 (AV.asB r9.1).bind fun b10 =>
 (bif (!b10) then
 some ((.i .i64 0), r9.2)
 else ldI r9.2 (.n h.next) 0 fun n12 =>
 ldI r9.2 (.n h.next) 1 fun n14 =>
 let v15 : Int := (IntKind.i64.wrap ((IntKind.i64.wrap (1 + n12)) + n14))
 some ((.i .i64 v15), r9.2))
 else none
def qkz : Sm O := qky qku
theorem qk0 : Entered Tryz.prog 94 := Tryz.call94
theorem qk1 (k144 : Sm O) : run (O := O) Tryz.prog [(144, k144)] Tryz.f94 (.n .z (.n (.n .z (.n .z .z)) .z)) = qky k144 := by kernel_rfl
theorem qk2 : FSound RO Tryz.prog 94 qkz := sdf (qk1 _) (gcons qkv qkx <| gnil) Tryz.func94 (by kernel_rfl)
def qk3 : Sm O := fun xs h =>
 bif Nat.beq xs.length 1 then
 (AV.asAgg 5 (xs.getD 0 .u)).bind fun c0 =>
 gtI c0 0 fun n1 =>
 gtI c0 1 fun n2 =>
 gtI c0 2 fun n3 =>
 gtI c0 3 fun n4 =>
 (AV.asB (c0.getD 4 .u)).bind fun b5 =>
 let h6 := h.bump 1
 let h7 := h6.put h.next (.cells true 39 [(.i .i64 n1), (.i .i64 n2), (.i .i64 n3), (.i .i64 n4), (.b b5)])
 ldI h7 (.n h.next) 0 fun n9 =>
 ldI h7 (.n h.next) 1 fun n11 =>
 ((bif ((decide (n9 < 0)) == false) then
 some ([(.b (decide (n9 > 4095)))], h7)
 else some ([(.b true)], h7)) : Option (List AV × AH O)).bind fun r12 =>
 (AV.asB (r12.1.getD 0 .u)).bind fun b13 =>
 ((bif (b13 == false) then
 some ([(.b (decide (n11 < 0)))], r12.2)
 else some ([(.b true)], r12.2)) : Option (List AV × AH O)).bind fun r14 =>
 (AV.asB (r14.1.getD 0 .u)).bind fun b15 =>
 ((bif (b15 == false) then
 some ([(.b (decide (n11 > 4095)))], r14.2)
 else some ([(.b true)], r14.2)) : Option (List AV × AH O)).bind fun r16 =>
 (AV.asB (r16.1.getD 0 .u)).bind fun b17 =>
 (bif b17 then
 some ((.i .i64 20), r16.2)
 else ldI r16.2 (.n h.next) 2 fun n19 =>
 ((bif ((decide (n19 < 0)) == false) then
 ldI r16.2 (.n h.next) 2 fun n21 =>
 some ([(.b (decide (n21 > 31)))], r16.2)
 else some ([(.b true)], r16.2)) : Option (List AV × AH O)).bind fun r22 =>
 (AV.asB (r22.1.getD 0 .u)).bind fun b23 =>
 (bif b23 then
 some ((.i .i64 21), r22.2)
 else ldI r22.2 (.n h.next) 3 fun n25 =>
 ((bif ((decide (n25 < 0)) == false) then
 ldI r22.2 (.n h.next) 3 fun n27 =>
 some ([(.b (decide (n27 > 7)))], r22.2)
 else some ([(.b true)], r22.2)) : Option (List AV × AH O)).bind fun r28 =>
 (AV.asB (r28.1.getD 0 .u)).bind fun b29 =>
 (bif b29 then
 some ((.i .i64 2), r28.2)
 else some ((.i .i64 0), r28.2))))
 else none
def qk4 : Sm O := qk3
theorem qk5 : Entered Tryz.prog 95 := Tryz.call95
theorem qk6 : run (O := O) Tryz.prog [] Tryz.f95 (.n .z (.n (.d [] [0, 1, 2, 3, 4, 5, 6, 7] [0, 1, 3, 0, 8, 24, 7, 127]) (.n (.n (.g [(2, 2, [(16, .one .b)]), (6, 2, [(20, .one .b)]), (10, 2, [(24, .one .b)])]) (.n .z .z)) (.n (.n (.g [(3, 3, [(32, .one .b)])]) (.n .z .z)) (.n (.n (.g [(3, 3, [(40, .one .b)])]) (.n .z .z)) .z))))) = qk3  := by kernel_rfl
theorem qk7 : FSound RO Tryz.prog 95 qk4 := sdf qk6 (gnil) Tryz.func95 (by kernel_rfl)
def qk8 (k94 k95 : Sm O) : Sm O := fun xs h =>
 bif Nat.beq xs.length 3 then
 (AV.asAgg 5 (xs.getD 0 .u)).bind fun c0 =>
 gtI c0 0 fun n1 =>
 gtI c0 1 fun n2 =>
 gtI c0 2 fun n3 =>
 gtI c0 3 fun n4 =>
 gtS c0 4 fun l5 =>
 (AV.asAgg 2 (xs.getD 1 .u)).bind fun c6 =>
 gtI c6 0 fun n7 =>
 gtI c6 1 fun n8 =>
 gtI xs 2 fun n9 =>
 let h10 := h.bump 3
 let h11 := h10.put h.next (.cells true 105 [(.i .i64 n1), (.i .i64 n2), (.i .i64 n3), (.i .i64 n4), (.sl l5.1 l5.2)])
 let h12 := h11.put (h.next + 1) (.cells true 37 [(.i .i64 n7), (.i .i64 n8)])
 let h13 := h12.put ((h.next + 1) + 1) (.cells true 105 [(.i .i64 0), (.i .i64 0), (.i .i64 0), (.i .i64 0), (.sl .nil 0)])
 ldI h13 (.n (h.next + 1)) 0 fun n15 =>
 ldI h13 (.n (h.next + 1)) 1 fun n17 =>
 (k94 [(.agg [(.i .i64 n15), (.i .i64 n17)])] h13).bind fun r18 =>
 (AV.asI .i64 r18.1).bind fun n19 =>
 let h20 := r18.2.bump 1
 ldI h20 (.n (h.next + 1)) 0 fun n22 =>
 ldI h20 (.n (h.next + 1)) 1 fun n24 =>
 ldI h20 (.n h.next) 0 fun n26 =>
 let h27 := h20.put r18.2.next (.cells true 39 [(.i .i64 0), (.i .i64 0), (.i .i64 0), (.i .i64 0), (.b false)])
 (h27.st (.n r18.2.next) 0 [(.i .i64 n22), (.i .i64 n24), (.i .i64 n9), (.i .i64 0), (.b (decide (n19 > n26)))]).bind fun h28 =>
 ldI h28 (.n r18.2.next) 0 fun n30 =>
 ldI h28 (.n r18.2.next) 1 fun n32 =>
 ldI h28 (.n r18.2.next) 2 fun n34 =>
 ldI h28 (.n r18.2.next) 3 fun n36 =>
 (h28.ld (.n r18.2.next) 4).bind fun w37 =>
 (AV.asB w37).bind fun b38 =>
 (k95 [(.agg [(.i .i64 n30), (.i .i64 n32), (.i .i64 n34), (.i .i64 n36), (.b b38)])] h28).bind fun r39 =>
 (AV.asI .i64 r39.1).bind fun n40 =>
 (bif ((n40 : Int) != 0) then
 ldI r39.2 (.n h.next) 0 fun n42 =>
 ldI r39.2 (.n h.next) 1 fun n44 =>
 ldI r39.2 (.n h.next) 2 fun n46 =>
 ldI r39.2 (.n h.next) 3 fun n48 =>
 ldS r39.2 (.n h.next) 4 fun l50 =>
 (r39.2.st (.n ((h.next + 1) + 1)) 0 [(.i .i64 n42), (.i .i64 n44), (.i .i64 n46), (.i .i64 n48), (.sl l50.1 l50.2)]).bind fun h51 =>
 ldI h51 (.n ((h.next + 1) + 1)) 0 fun n53 =>
 ldI h51 (.n ((h.next + 1) + 1)) 1 fun n55 =>
 ldI h51 (.n ((h.next + 1) + 1)) 2 fun n57 =>
 ldI h51 (.n ((h.next + 1) + 1)) 3 fun n59 =>
 ldS h51 (.n ((h.next + 1) + 1)) 4 fun l61 =>
 some ((.tup [(.agg [(.i .i64 n53), (.i .i64 n55), (.i .i64 n57), (.i .i64 n59), (.sl l61.1 l61.2)]), (.i .u64 0), (.i .i64 n40)]), h51)
 else let h62 := r39.2.bump 3
 ldI h62 (.n r18.2.next) 0 fun n64 =>
 ldI h62 (.n r18.2.next) 1 fun n66 =>
 ldI h62 (.n r18.2.next) 2 fun n68 =>
 ldI h62 (.n r18.2.next) 3 fun n70 =>
 (h62.ld (.n r18.2.next) 4).bind fun w71 =>
 (AV.asB w71).bind fun b72 =>
 ldI h62 (.n (h.next + 1)) 0 fun n74 =>
 ldI h62 (.n (h.next + 1)) 1 fun n76 =>
 (bif ((((decide ((0 : Int) <= n74)) && (decide (n74 <= n74))) && (decide ((n74 * 8) <= 140737488355328))) && (decide (n74 <= 140737488355328))) then
 let h77 := h62.put r39.2.next (.cells true 33 ((List.replicate n74.toNat [(.i .u64 0)]).flatten))
 (bif ((((decide ((0 : Int) <= n76)) && (decide (n76 <= n76))) && (decide ((n76 * 8) <= 140737488355328))) && (decide (n76 <= 140737488355328))) then
 let h78 := h77.put (r39.2.next + 1) (.cells true 33 ((List.replicate n76.toNat [(.i .u64 0)]).flatten))
 let h79 := h78.put ((r39.2.next + 1) + 1) (.cells true 42 [(.i .i64 0), (.i .i64 0), (.i .i64 0), (.i .i64 0), (.b false), (.sl .nil 0), (.sl .nil 0), (.i .u64 0)])
 (h79.st (.n ((r39.2.next + 1) + 1)) 0 [(.i .i64 n64), (.i .i64 n66), (.i .i64 n68), (.i .i64 n70), (.b b72), (.sl (.loc (.n r39.2.next) 0 1) n74.toNat), (.sl (.loc (.n (r39.2.next + 1)) 0 1) n76.toNat), (.i .u64 0)]).bind fun h80 =>
 (h80.ld (.n r18.2.next) 4).bind fun w81 =>
 (AV.asB w81).bind fun b82 =>
 bindS (S := List AV × AH O) (R := (AV × AH O)) ((bif b82 then
 ldI h80 (.n h.next) 3 fun n84 =>
 (h80.st (.n h.next) 3 [(.i .i64 (IntKind.i64.wrap (n84 + 1)))]).bind fun h85 =>
 ldI h85 (.n h.next) 3 fun n87 =>
 (h85.st (.n ((r39.2.next + 1) + 1)) 7 [(.i .u64 (IntKind.u64.wrap (2 * (IntKind.u64.wrap n87))))]).bind fun h88 =>
 some (Sum.inl ([], h88))
 else ldI h80 (.n h.next) 1 fun n90 =>
 ldI h80 (.n h.next) 2 fun n92 =>
 (bif (decide (n19 > (IntKind.i64.wrap (n90 - n92)))) then
 ldI h80 (.n h.next) 0 fun n94 =>
 ldI h80 (.n h.next) 1 fun n96 =>
 ldI h80 (.n h.next) 2 fun n98 =>
 ldI h80 (.n h.next) 3 fun n100 =>
 ldS h80 (.n h.next) 4 fun l102 =>
 (h80.st (.n ((h.next + 1) + 1)) 0 [(.i .i64 n94), (.i .i64 n96), (.i .i64 n98), (.i .i64 n100), (.sl l102.1 l102.2)]).bind fun h103 =>
 (((h103.ld (.n ((h.next + 1) + 1)) 0).bind fun w104 =>
 (AV.asI .i64 w104).bind fun n105 =>
 ldI h103 (.n ((h.next + 1) + 1)) 1 fun n107 =>
 ldI h103 (.n ((h.next + 1) + 1)) 2 fun n109 =>
 ldI h103 (.n ((h.next + 1) + 1)) 3 fun n111 =>
 ldS h103 (.n ((h.next + 1) + 1)) 4 fun l113 =>
 some ((.tup [(.agg [(.i .i64 n105), (.i .i64 n107), (.i .i64 n109), (.i .i64 n111), (.sl l113.1 l113.2)]), (.i .u64 0), (.i .i64 3)]), h103) : Option (AV × AH O)).map Sum.inr)
 else ldI h80 (.n h.next) 2 fun n115 =>
 let v116 : Int := (IntKind.u64.wrap ((IntKind.u64.wrap (2 * (IntKind.u64.wrap n115))) + 1))
 (h80.st (.n ((r39.2.next + 1) + 1)) 7 [(.i .u64 v116)]).bind fun h117 =>
 ldI h117 (.n h.next) 2 fun n119 =>
 (h117.st (.n h.next) 2 [(.i .i64 (IntKind.i64.wrap (n119 + n19)))]).bind fun h120 =>
 some (Sum.inl ([], h120))))) fun r121 =>
 let h122 := r121.2.bump 4
 ldS h122 (.n h.next) 4 fun l124 =>
 ldI h122 (.n ((r39.2.next + 1) + 1)) 0 fun n126 =>
 ldI h122 (.n ((r39.2.next + 1) + 1)) 1 fun n128 =>
 ldI h122 (.n ((r39.2.next + 1) + 1)) 2 fun n130 =>
 ldI h122 (.n ((r39.2.next + 1) + 1)) 3 fun n132 =>
 (h122.ld (.n ((r39.2.next + 1) + 1)) 4).bind fun w133 =>
 (AV.asB w133).bind fun b134 =>
 ldS h122 (.n ((r39.2.next + 1) + 1)) 5 fun l136 =>
 ldS h122 (.n ((r39.2.next + 1) + 1)) 6 fun l138 =>
 ldU h122 (.n ((r39.2.next + 1) + 1)) 7 fun n140 =>
 let h141 := h122.put r121.2.next (.cells true 42 [])
 (h141.rdSl l124.1 l124.2 8).bind fun new142 =>
 (bif (Nat.ble ((0 + l124.2) * 97) 35184372088832) then
 (h141.appSl (r121.2.next + 1) 42 8 (.loc (.n r121.2.next) 0 8) 0 l124.2 new142).bind fun r143 =>
 (AV.asSl r143.1).bind fun l144 =>
 (chkE (r143.2.ld (.n ((r39.2.next + 1) + 1)) 0) (some (.i .i64 n126))).bind fun _ =>
 (chkE (r143.2.ld (.n ((r39.2.next + 1) + 1)) 1) (some (.i .i64 n128))).bind fun _ =>
 (chkE (r143.2.ld (.n ((r39.2.next + 1) + 1)) 2) (some (.i .i64 n130))).bind fun _ =>
 (chkE (r143.2.ld (.n ((r39.2.next + 1) + 1)) 3) (some (.i .i64 n132))).bind fun _ =>
 (chkE (r143.2.ld (.n ((r39.2.next + 1) + 1)) 4) (some (.b b134))).bind fun _ =>
 (chkE (r143.2.ld (.n ((r39.2.next + 1) + 1)) 5) (some (.sl l136.1 l136.2))).bind fun _ =>
 (chkE (r143.2.ld (.n ((r39.2.next + 1) + 1)) 6) (some (.sl l138.1 l138.2))).bind fun _ =>
 (chkE (r143.2.ld (.n ((r39.2.next + 1) + 1)) 7) (some (.i .u64 n140))).bind fun _ =>
 let h145 := r143.2.put ((r121.2.next + 1) + 1) (.cells true 42 [(.i .i64 n126), (.i .i64 n128), (.i .i64 n130), (.i .i64 n132), (.b b134), (.sl l136.1 l136.2), (.sl l138.1 l138.2), (.i .u64 n140)])
 (h145.rdSl (.loc (.n ((r121.2.next + 1) + 1)) 0 8) 1 8).bind fun new146 =>
 (bif (Nat.ble ((l144.2 + 1) * 97) 35184372088832) then
 (h145.appSl (((r121.2.next + 1) + 1) + 1) 42 8 l144.1 l144.2 1 new146).bind fun r147 =>
 (AV.asSl r147.1).bind fun l148 =>
 (r147.2.st (.n h.next) 4 [(.sl l148.1 l148.2)]).bind fun h149 =>
 ldI h149 (.n h.next) 0 fun n151 =>
 ldI h149 (.n h.next) 1 fun n153 =>
 ldI h149 (.n h.next) 2 fun n155 =>
 ldI h149 (.n h.next) 3 fun n157 =>
 ldS h149 (.n h.next) 4 fun l159 =>
 ldU h149 (.n ((r39.2.next + 1) + 1)) 7 fun n161 =>
 (h149.st (.n ((h.next + 1) + 1)) 0 [(.i .i64 n151), (.i .i64 n153), (.i .i64 n155), (.i .i64 n157), (.sl l159.1 l159.2)]).bind fun h162 =>
 (chkE (h162.ld (.n ((r39.2.next + 1) + 1)) 7) (some (.i .u64 n161))).bind fun _ =>
 ldI h162 (.n ((h.next + 1) + 1)) 0 fun n164 =>
 ldI h162 (.n ((h.next + 1) + 1)) 1 fun n166 =>
 ldI h162 (.n ((h.next + 1) + 1)) 2 fun n168 =>
 ldI h162 (.n ((h.next + 1) + 1)) 3 fun n170 =>
 ldS h162 (.n ((h.next + 1) + 1)) 4 fun l172 =>
 some ((.tup [(.agg [(.i .i64 n164), (.i .i64 n166), (.i .i64 n168), (.i .i64 n170), (.sl l172.1 l172.2)]), (.i .u64 n161), (.i .i64 0)]), h162)
 else none)
 else none)
 else none)
 else none))
 else none
def qk9 : Sm O := frz (qk8 qkz qk4)
theorem qla : Entered Tryz.prog 47 := Tryz.call47
theorem qlb (k94 k95 : Sm O) : run (O := O) Tryz.prog [(94, k94), (95, k95)] Tryz.f47 (.n .z (.n .z (.n .z (.n (.n .z (.n .z (.n .z .z))) (.n (.d [] [0, 1, 2, 4, 5, 3, 6, 7, 8, 9] [0, 0, 2, 6, 0, 16, 48, 127, 0, 511]) (.n (.n .z (.j true [] .z (.n (.n .z (.n .z .z)) .z))) (.n (.d [] [1, 2, 4, 0, 3, 5, 6, 7, 8] [0, 0, 2, 7, 0, 16, 63, 127, 255]) (.n (.d [] [0, 1, 2, 3, 4, 5] [0, 0, 2, 1, 15, 31]) .z)))))))) = qk8 k94 k95 := by kernel_rfl
theorem qlc : FSound RO Tryz.prog 47 (qk9) :=
   have h : FSound RO Tryz.prog 47 (qk8 qkz qk4) := (qlb qkz qk4) ▸ run_sound (gcons qk0 (qk2) <| gcons qk5 (qk7) <| gnil) mixed Tryz.func47 (by kernel_rfl) _
   h.frz
def qld : Sm O := fun xs h =>
 bif Nat.beq xs.length 1 then
 gtU xs 0 fun n0 =>
 (bif ((n0 : Int) == 0) then
 some ((.i .i64 0), h)
 else ((bif ((((ibits .and .u64 n0 1) : Int) == 1) == true) then
 some ([(.b (decide ((Int.fdiv n0 (2 ^ 1)) < 4194304)))], h)
 else some ([(.b false)], h)) : Option (List AV × AH O)).bind fun r1 =>
 (AV.asB (r1.1.getD 0 .u)).bind fun b2 =>
 (bif b2 then
 some ((.i .i64 1), r1.2)
 else ((bif ((((ibits .and .u64 n0 1) : Int) == 0) == true) then
 some ([(.b (decide ((Int.fdiv n0 (2 ^ 1)) <= 1048576)))], r1.2)
 else some ([(.b false)], r1.2)) : Option (List AV × AH O)).bind fun r3 =>
 (AV.asB (r3.1.getD 0 .u)).bind fun b4 =>
 (bif b4 then
 some ((.i .i64 2), r3.2)
 else some ((.i .i64 3), r3.2))))
 else none
def qle : Sm O := qld
theorem qlf : Entered Tryz.prog 53 := Tryz.call53
theorem qlg : run (O := O) Tryz.prog [] Tryz.f53 (.n .z (.n .z (.n (.n (.n .z (.n .z (.n (.g [(3, 2, [(16, .one .b)])]) (.n .z (.n (.g [(3, 2, [(24, .one .b)])]) (.n .z .z)))))) .z) .z))) = qld  := by kernel_rfl
theorem qlh : FSound RO Tryz.prog 53 qle := sdf qlg (gnil) Tryz.func53 (by kernel_rfl)
def qli (k53 : Sm O) : Sm O := fun xs h =>
 bif Nat.beq xs.length 1 then
 gtU xs 0 fun n0 =>
 (k53 [(.i .u64 n0)] h).bind fun r1 =>
 (AV.asI .i64 r1.1).bind fun n2 =>
 ((bif ((n2 : Int) == 1) then
 some ([(.b ((n2 : Int) == 1))], r1.2)
 else some ([(.b ((n2 : Int) == 2))], r1.2)) : Option (List AV × AH O)).bind fun r3 =>
 (AV.asB (r3.1.getD 0 .u)).bind fun b4 =>
 (bif b4 then
 some ((.i .i64 (IntKind.i64.wrap (Int.fdiv n0 (2 ^ 1)))), r3.2)
 else some ((.i .i64 0), r3.2))
 else none
def qlj : Sm O := qli qle
theorem qlk : Entered Tryz.prog 63 := Tryz.call63
theorem qll (k53 : Sm O) : run (O := O) Tryz.prog [(53, k53)] Tryz.f63 (.n .z (.n (.n .z (.n (.n (.n .z (.j false [(5, .one .b)] .z .z)) (.n .z .z)) .z)) .z)) = qli k53 := by kernel_rfl
theorem qlm : FSound RO Tryz.prog 63 qlj := sdf (qll _) (gcons qlf qlh <| gnil) Tryz.func63 (by kernel_rfl)
def qln (k143 k117 : Sm O) : Sm O := fun xs h =>
 bif Nat.beq xs.length 2 then
 (AV.asP (xs.getD 0 .u)).bind fun p0 =>
 gtI xs 1 fun n1 =>
 Option.bind p0 fun q2 =>
 ldI h q2.1 (q2.2 + 1) fun n4 =>
 ldI h q2.1 ((q2.2 + 1) + 1) fun n6 =>
 (k143 [(.agg [(.i .i64 n4), (.i .i64 n6)]), (.i .i64 n1), (.i .i64 1)] h).bind fun r7 =>
 (AV.asB r7.1).bind fun b8 =>
 (bif (!b8) then
 some ((.tup [(.i .u64 0), (.i .i64 11)]), r7.2)
 else Option.bind p0 fun q9 =>
 ldP r7.2 q9.1 q9.2 fun p11 =>
 Option.bind p0 fun q12 =>
 ldI r7.2 q12.1 (q12.2 + 1) fun n14 =>
 (k117 [(.p p11), (.i .i64 n14), (.i .i64 n1)] r7.2).bind fun r15 =>
 (AV.asTup 2 r15.1).bind fun c16 =>
 gtU c16 0 fun n17 =>
 gtI c16 1 fun n18 =>
 some ((.tup [(.i .u64 n17), (.i .i64 n18)]), r15.2))
 else none
def qlo : Sm O := qln qka qgo
theorem qlp : Entered Tryz.prog 109 := Tryz.call109
theorem qlq (k143 k117 : Sm O) : run (O := O) Tryz.prog [(143, k143), (117, k117)] Tryz.f109 (.n .z (.n (.n .z (.n .z .z)) (.n (.d [] [0, 1, 2, 3, 4, 5, 6, 7, 8, 9, 10, 11, 12, 13, 14] [0, 1, 3, 7, 0, 16, 48, 112, 240, 0, 1023, 2047, 2047, 8191, 16383]) .z))) = qln k143 k117 := by kernel_rfl
theorem qlr : FSound RO Tryz.prog 109 qlo := sdf (qlq _ _) (gcons qkb qkd <| gcons qgp qgr <| gnil) Tryz.func109 (by kernel_rfl)
def qls (k119 k117 : Sm O) : Sm O := fun xs h =>
 bif Nat.beq xs.length 3 then
 (AV.asP (xs.getD 0 .u)).bind fun p0 =>
 gtI xs 1 fun n1 =>
 gtI xs 2 fun n2 =>
 Option.bind p0 fun q3 =>
 ldP h q3.1 (q3.2 + 1) fun p5 =>
 (k119 [(.p p5), (.i .i64 n1), (.i .i64 0)] h).bind fun r6 =>
 (AV.asTup 2 r6.1).bind fun c7 =>
 gtU c7 0 fun n8 =>
 gtI c7 1 fun n9 =>
 (bif ((n9 : Int) != 0) then
 some ((.tup [(.i .u64 0), (.i .i64 n9)]), r6.2)
 else Option.bind p0 fun q10 =>
 ldP r6.2 q10.1 q10.2 fun p12 =>
 (k117 [(.p p12), (.i .i64 (IntKind.i64.wrap n8)), (.i .i64 n2)] r6.2).bind fun r13 =>
 (AV.asTup 2 r13.1).bind fun c14 =>
 gtU c14 0 fun n15 =>
 gtI c14 1 fun n16 =>
 some ((.tup [(.i .u64 n15), (.i .i64 n16)]), r13.2))
 else none
def qlt : Sm O := qls qjg qgo
theorem qlu : Entered Tryz.prog 108 := Tryz.call108
theorem qlv (k119 k117 : Sm O) : run (O := O) Tryz.prog [(119, k119), (117, k117)] Tryz.f108 (.n .z (.n .z (.n (.n .z (.n .z .z)) .z))) = qls k119 k117 := by kernel_rfl
theorem qlw : FSound RO Tryz.prog 108 qlt := sdf (qlv _ _) (gcons qjh qjj <| gcons qgp qgr <| gnil) Tryz.func108 (by kernel_rfl)
def qlx (k53 k63 k109 k108 : Sm O) : Sm O := fun xs h =>
 bif Nat.beq xs.length 3 then
 (AV.asP (xs.getD 0 .u)).bind fun p0 =>
 gtU xs 1 fun n1 =>
 gtI xs 2 fun n2 =>
 (k53 [(.i .u64 n1)] h).bind fun r3 =>
 (AV.asI .i64 r3.1).bind fun n4 =>
 (bif ((n4 : Int) == 0) then
 some ((.tup [(.i .u64 0), (.i .i64 31)]), r3.2)
 else (bif ((n4 : Int) == 1) then
 Option.bind p0 fun q5 =>
 ldP r3.2 q5.1 (q5.2 + 1) fun p7 =>
 (k63 [(.i .u64 n1)] r3.2).bind fun r8 =>
 (AV.asI .i64 r8.1).bind fun n9 =>
 (chkE (r8.2.ld q5.1 (q5.2 + 1)) (some (.p p7))).bind fun _ =>
 (k109 [(.p p7), (.i .i64 (IntKind.i64.wrap (n9 + n2)))] r8.2).bind fun r10 =>
 (AV.asTup 2 r10.1).bind fun c11 =>
 gtU c11 0 fun n12 =>
 gtI c11 1 fun n13 =>
 some ((.tup [(.i .u64 n12), (.i .i64 n13)]), r10.2)
 else (bif ((n4 : Int) == 2) then
 Option.bind p0 fun q14 =>
 ldP r3.2 q14.1 ((q14.2 + 1) + 1) fun p16 =>
 (k63 [(.i .u64 n1)] r3.2).bind fun r17 =>
 (AV.asI .i64 r17.1).bind fun n18 =>
 (chkE (r17.2.ld q14.1 ((q14.2 + 1) + 1)) (some (.p p16))).bind fun _ =>
 (k108 [(.p p16), (.i .i64 n18), (.i .i64 n2)] r17.2).bind fun r19 =>
 (AV.asTup 2 r19.1).bind fun c20 =>
 gtU c20 0 fun n21 =>
 gtI c20 1 fun n22 =>
 some ((.tup [(.i .u64 n21), (.i .i64 n22)]), r19.2)
 else some ((.tup [(.i .u64 0), (.i .i64 5)]), r3.2))))
 else none
def qly : Sm O := qlx qle qlj qlo qlt
theorem qlz : Entered Tryz.prog 56 := Tryz.call56
theorem ql0 (k53 k63 k109 k108 : Sm O) : run (O := O) Tryz.prog [(53, k53), (63, k63), (109, k109), (108, k108)] Tryz.f56 (.n .z (.n (.n .z (.n (.n .z (.n .z (.n .z (.n (.n (.d [] [0, 1, 2, 3, 4, 5, 7, 6, 8, 9, 10, 11, 12, 13] [0, 1, 3, 7, 15, 0, 32, 0, 224, 511, 1023, 1023, 4095, 8191]) .z) (.n .z (.n (.n (.d [] [0, 1, 2, 3, 4, 5, 7, 6, 8, 9, 10, 11, 12] [0, 1, 3, 7, 15, 0, 32, 0, 255, 511, 511, 2047, 4095]) .z) .z)))))) .z)) .z)) = qlx k53 k63 k109 k108 := by kernel_rfl
theorem ql1 : FSound RO Tryz.prog 56 qly := sdf (ql0 _ _ _ _) (gcons qlf qlh <| gcons qlk qlm <| gcons qlp qlr <| gcons qlu qlw <| gnil) Tryz.func56 (by kernel_rfl)
def ql2 (k153 k154 : Sm O) : Sm O := fun xs h =>
 bif Nat.beq xs.length 2 then
 gtU xs 0 fun n0 =>
 (AV.asAgg 2 (xs.getD 1 .u)).bind fun c1 =>
 gtI c1 0 fun n2 =>
 gtI c1 1 fun n3 =>
 let h4 := h.bump 1
 let h5 := h4.put h.next (.cells true 195 [(.i .i64 n2), (.i .i64 n3)])
 ldI h5 (.n h.next) 0 fun n7 =>
 ldI h5 (.n h.next) 1 fun n9 =>
 (k153 [(.agg [(.i .i64 n7), (.i .i64 n9)])] h5).bind fun r10 =>
 (AV.asB r10.1).bind fun b11 =>
 (bif (!b11) then
 some ((.i .u64 0), r10.2)
 else ldI r10.2 (.n h.next) 0 fun n13 =>
 ldI r10.2 (.n h.next) 1 fun n15 =>
 ldI r10.2 (.n h.next) 0 fun n17 =>
 (k154 [(.agg [(.i .i64 n13), (.i .i64 n15)])] r10.2).bind fun r18 =>
 (AV.asI .u64 r18.1).bind fun n19 =>
 (chkE (r18.2.ld (.n h.next) 0) (some (.i .i64 n17))).bind fun _ =>
 (bif (decide (n17 < 0)) then
 none
 else let v20 : Int := (Int.fdiv (ibits .and .u64 n0 n19) (2 ^ min n17.toNat 64))
 some ((.i .u64 v20), r18.2)))
 else none
def ql3 : Sm O := ql2 qd4 qd9
theorem ql4 : Entered Tryz.prog 111 := Tryz.call111
theorem ql5 (k153 k154 : Sm O) : run (O := O) Tryz.prog [(153, k153), (154, k154)] Tryz.f111 (.n .z (.n (.n .z (.n .z .z)) (.n (.d [] [0, 1, 4, 5, 2, 3, 6, 7] [0, 0, 2, 7, 0, 16, 63, 127]) .z))) = ql2 k153 k154 := by kernel_rfl
theorem ql6 : FSound RO Tryz.prog 111 ql3 := sdf (ql5 _ _) (gcons qd5 qd7 <| gcons qea qec <| gnil) Tryz.func111 (by kernel_rfl)
def ql7 (l4 : SA × Nat) (k111 : Sm O) (n0 : Int) : List AV × AH O -> Option ((List AV × AH O) ⊕ (List AV × AH O)) := (fun r5 =>
 (AV.asSl (r5.1.getD 0 .u)).bind fun l6 =>
 (AV.asI .i64 (r5.1.getD 1 .u)).bind fun n7 =>
 (bif (decide (n7 < (l4.2 : Int))) then
 let h8 := r5.2.bump 1
 (bif ((decide ((0 : Int) <= n7)) && (decide (n7 < (l4.2 : Int)))) then
 (SA.ref l4.1).bind fun q9 =>
 ldI h8 q9.1 (q9.2 + (n7.toNat * 2)) fun n11 =>
 ldI h8 q9.1 ((q9.2 + (n7.toNat * 2)) + 1) fun n13 =>
 let h14 := h8.put r5.2.next (.cells true 195 [(.i .i64 0), (.i .i64 0)])
 (h14.st (.n r5.2.next) 0 [(.i .i64 n11), (.i .i64 n13)]).bind fun h15 =>
 let h16 := h15.bump 2
 ldI h16 (.n r5.2.next) 0 fun n18 =>
 ldI h16 (.n r5.2.next) 1 fun n20 =>
 (k111 [(.i .u64 n0), (.agg [(.i .i64 n18), (.i .i64 n20)])] h16).bind fun r21 =>
 (AV.asI .u64 r21.1).bind fun n22 =>
 let h23 := r21.2.put h15.next (.cells true 3 [(.i .i64 (IntKind.i64.wrap n22))])
 (h23.rdSl (.loc (.n h15.next) 0 1) 1 1).bind fun new24 =>
 (bif (Nat.ble ((l6.2 + 1) * 9) 35184372088832) then
 (h23.appSl (h15.next + 1) 3 1 l6.1 l6.2 1 new24).bind fun r25 =>
 (AV.asSl r25.1).bind fun l26 =>
 some (Sum.inl ([(.sl l26.1 l26.2), (.i .i64 (IntKind.i64.wrap (n7 + 1)))], r25.2))
 else none)
 else none)
 else some (Sum.inr ([(.sl l6.1 l6.2)], r5.2))))
def ql8 (k110 k111 k87 : Sm O) : Sm O := fun xs h =>
 bif Nat.beq xs.length 1 then
 gtU xs 0 fun n0 =>
 let h1 := h.bump 1
 let h2 := h1.put h.next (.cells true 39 [(.i .i64 0), (.i .i64 0), (.i .i64 0), (.i .i64 0), (.b false)])
 (k110 [] h2).bind fun r3 =>
 (AV.asSl r3.1).bind fun l4 =>
 (loopF (S := List AV × AH O) (T := List AV × AH O) (ql7 l4 k111 n0) ([(.sl .nil 0), (.i .i64 0)], r3.2)).bind fun r27 =>
 (AV.asSl (r27.1.getD 0 .u)).bind fun l28 =>
 let h29 := r27.2.bump 1
 (bif (decide ((0 : Int) < (l28.2 : Int))) then
 (SA.ref l28.1).bind fun q30 =>
 ldI h29 q30.1 q30.2 fun n32 =>
 (bif (decide ((1 : Int) < (l28.2 : Int))) then
 (SA.ref l28.1).bind fun q33 =>
 ldI h29 q33.1 (q33.2 + 1) fun n35 =>
 (bif (decide ((2 : Int) < (l28.2 : Int))) then
 (SA.ref l28.1).bind fun q36 =>
 ldI h29 q36.1 (q36.2 + 2) fun n38 =>
 (bif (decide ((3 : Int) < (l28.2 : Int))) then
 (SA.ref l28.1).bind fun q39 =>
 ldI h29 q39.1 (q39.2 + 3) fun n41 =>
 (bif (decide ((4 : Int) < (l28.2 : Int))) then
 (SA.ref l28.1).bind fun q42 =>
 ldI h29 q42.1 (q42.2 + 4) fun n44 =>
 let h45 := h29.put r27.2.next (.cells true 39 [(.i .i64 0), (.i .i64 0), (.i .i64 0), (.i .i64 0), (.b false)])
 (h45.st (.n r27.2.next) 0 [(.i .i64 n32), (.i .i64 n35), (.i .i64 n38), (.i .i64 n41), (.b ((n44 : Int) == 1))]).bind fun h46 =>
 ldI h46 (.n r27.2.next) 0 fun n48 =>
 ldI h46 (.n r27.2.next) 1 fun n50 =>
 ldI h46 (.n r27.2.next) 2 fun n52 =>
 ldI h46 (.n r27.2.next) 3 fun n54 =>
 (h46.ld (.n r27.2.next) 4).bind fun w55 =>
 (AV.asB w55).bind fun b56 =>
 (k87 [(.agg [(.i .i64 n48), (.i .i64 n50), (.i .i64 n52), (.i .i64 n54), (.b b56)])] h46).bind fun r57 =>
 (AV.asTup 2 r57.1).bind fun c58 =>
 gtU c58 0 fun n59 =>
 gtI c58 1 fun n60 =>
 ((bif (((n60 : Int) != 0) == false) then
 some ([(.b ((n59 : Int) != n0))], r57.2)
 else some ([(.b true)], r57.2)) : Option (List AV × AH O)).bind fun r61 =>
 (AV.asB (r61.1.getD 0 .u)).bind fun b62 =>
 (bif b62 then
 (r61.2.st (.n h.next) 0 [(.i .i64 0), (.i .i64 0), (.i .i64 0), (.i .i64 0), (.b false)]).bind fun h63 =>
 ldI h63 (.n h.next) 0 fun n65 =>
 ldI h63 (.n h.next) 1 fun n67 =>
 ldI h63 (.n h.next) 2 fun n69 =>
 ldI h63 (.n h.next) 3 fun n71 =>
 (h63.ld (.n h.next) 4).bind fun w72 =>
 (AV.asB w72).bind fun b73 =>
 some ((.tup [(.agg [(.i .i64 n65), (.i .i64 n67), (.i .i64 n69), (.i .i64 n71), (.b b73)]), (.i .i64 5)]), h63)
 else ldI r61.2 (.n r27.2.next) 0 fun n75 =>
 ldI r61.2 (.n r27.2.next) 1 fun n77 =>
 ldI r61.2 (.n r27.2.next) 2 fun n79 =>
 ldI r61.2 (.n r27.2.next) 3 fun n81 =>
 (r61.2.ld (.n r27.2.next) 4).bind fun w82 =>
 (AV.asB w82).bind fun b83 =>
 (r61.2.st (.n h.next) 0 [(.i .i64 n75), (.i .i64 n77), (.i .i64 n79), (.i .i64 n81), (.b b83)]).bind fun h84 =>
 ldI h84 (.n h.next) 0 fun n86 =>
 ldI h84 (.n h.next) 1 fun n88 =>
 ldI h84 (.n h.next) 2 fun n90 =>
 ldI h84 (.n h.next) 3 fun n92 =>
 (h84.ld (.n h.next) 4).bind fun w93 =>
 (AV.asB w93).bind fun b94 =>
 some ((.tup [(.agg [(.i .i64 n86), (.i .i64 n88), (.i .i64 n90), (.i .i64 n92), (.b b94)]), (.i .i64 0)]), h84))
 else none)
 else none)
 else none)
 else none)
 else none)
 else none
def ql9 : Sm O := ql8 qdz ql3 qe0
theorem qma : Entered Tryz.prog 57 := Tryz.call57
theorem qmb (k110 k111 k87 : Sm O) : run (O := O) Tryz.prog [(110, k110), (111, k111), (87, k87)] Tryz.f57 (.n .z (.n .z (.n (.n .z (.n (.lp false 0 [(4, .one .sl), (12, .one (.i .i64))] [(4, .one .sl)] (.n .z (.n .z (.n (.n .z .z) .z)))) .z)) (.n (.d [] [0, 1, 2, 3, 4, 5, 6, 7, 8, 9, 10, 11, 12, 13, 14, 15, 16, 17, 18, 19] [0, 1, 3, 0, 8, 24, 63, 0, 128, 384, 0, 1024, 3072, 0, 8192, 24576, 57344, 131071, 0, 524287]) (.n (.n .z (.n (.g [(2, 3, [(53, .one .b)])]) (.n .z .z))) .z))))) = ql8 k110 k111 k87 := by kernel_rfl
theorem qmc : FSound RO Tryz.prog 57 ql9 := sdf (qmb _ _ _) (gcons qd0 qd2 <| gcons ql4 ql6 <| gcons qe1 qe3 <| gnil) Tryz.func57 (by kernel_rfl)
def qmd (k56 k57 : Sm O) : Sm O := fun xs h =>
 bif Nat.beq xs.length 2 then
 (AV.asP (xs.getD 0 .u)).bind fun p0 =>
 gtU xs 1 fun n1 =>
 let h2 := h.bump 1
 let h3 := h2.put h.next (.cells true 39 [(.i .i64 0), (.i .i64 0), (.i .i64 0), (.i .i64 0), (.b false)])
 (k56 [(.p p0), (.i .u64 n1), (.i .i64 0)] h3).bind fun r4 =>
 (AV.asTup 2 r4.1).bind fun c5 =>
 gtU c5 0 fun n6 =>
 gtI c5 1 fun n7 =>
 (bif ((n7 : Int) != 0) then
 (r4.2.st (.n h.next) 0 [(.i .i64 0), (.i .i64 0), (.i .i64 0), (.i .i64 0), (.b false)]).bind fun h8 =>
 ldI h8 (.n h.next) 0 fun n10 =>
 ldI h8 (.n h.next) 1 fun n12 =>
 ldI h8 (.n h.next) 2 fun n14 =>
 ldI h8 (.n h.next) 3 fun n16 =>
 (h8.ld (.n h.next) 4).bind fun w17 =>
 (AV.asB w17).bind fun b18 =>
 some ((.tup [(.agg [(.i .i64 n10), (.i .i64 n12), (.i .i64 n14), (.i .i64 n16), (.b b18)]), (.i .i64 n7)]), h8)
 else (k57 [(.i .u64 n6)] r4.2).bind fun r19 =>
 (AV.asTup 2 r19.1).bind fun c20 =>
 (AV.asAgg 5 (c20.getD 0 .u)).bind fun c21 =>
 gtI c21 0 fun n22 =>
 gtI c21 1 fun n23 =>
 gtI c21 2 fun n24 =>
 gtI c21 3 fun n25 =>
 (AV.asB (c21.getD 4 .u)).bind fun b26 =>
 gtI c20 1 fun n27 =>
 (r19.2.st (.n h.next) 0 [(.i .i64 n22), (.i .i64 n23), (.i .i64 n24), (.i .i64 n25), (.b b26)]).bind fun h28 =>
 ldI h28 (.n h.next) 0 fun n30 =>
 ldI h28 (.n h.next) 1 fun n32 =>
 ldI h28 (.n h.next) 2 fun n34 =>
 ldI h28 (.n h.next) 3 fun n36 =>
 (h28.ld (.n h.next) 4).bind fun w37 =>
 (AV.asB w37).bind fun b38 =>
 some ((.tup [(.agg [(.i .i64 n30), (.i .i64 n32), (.i .i64 n34), (.i .i64 n36), (.b b38)]), (.i .i64 n27)]), h28))
 else none
def qme : Sm O := qmd qly ql9
theorem qmf : Entered Tryz.prog 13 := Tryz.call13
theorem qmg (k56 k57 : Sm O) : run (O := O) Tryz.prog [(56, k56), (57, k57)] Tryz.f13 (.n .z (.n .z (.n (.n .z (.n .z .z)) .z))) = qmd k56 k57 := by kernel_rfl
theorem qmh : FSound RO Tryz.prog 13 qme := sdf (qmg _ _) (gcons qlz ql1 <| gcons qma qmc <| gnil) Tryz.func13 (by kernel_rfl)
def qmi (k145 : Sm O) : Sm O := fun xs h =>
 bif Nat.beq xs.length 2 then
 (AV.asAgg 2 (xs.getD 0 .u)).bind fun c0 =>
 gtI c0 0 fun n1 =>
 gtI c0 1 fun n2 =>
 gtI xs 1 fun n3 =>
 let h4 := h.bump 1
 let h5 := h4.put h.next (.cells true 37 [(.i .i64 n1), (.i .i64 n2)])
 ldI h5 (.n h.next) 0 fun n7 =>
 ldI h5 (.n h.next) 1 fun n9 =>
 (k145 [(.agg [(.i .i64 n7), (.i .i64 n9)])] h5).bind fun r10 =>
 (AV.asB r10.1).bind fun b11 =>
 ((bif ((!b11) == false) then
 some ([(.b (decide (n3 < 0)))], r10.2)
 else some ([(.b true)], r10.2)) : Option (List AV × AH O)).bind fun r12 =>
 (AV.asB (r12.1.getD 0 .u)).bind fun b13 =>
 ((bif (b13 == false) then
 ldI r12.2 (.n h.next) 1 fun n15 =>
 some ([(.b (decide (n3 >= n15)))], r12.2)
 else some ([(.b true)], r12.2)) : Option (List AV × AH O)).bind fun r16 =>
 (AV.asB (r16.1.getD 0 .u)).bind fun b17 =>
 (bif b17 then
 some ((.tup [(.i .i64 0), (.i .i64 32)]), r16.2)
 else ldI r16.2 (.n h.next) 0 fun n19 =>
 let v20 : Int := (IntKind.i64.wrap ((IntKind.i64.wrap (1 + n19)) + n3))
 some ((.tup [(.i .i64 v20), (.i .i64 0)]), r16.2))
 else none
def qmj : Sm O := qmi qde
theorem qmk : Entered Tryz.prog 96 := Tryz.call96
theorem qml (k145 : Sm O) : run (O := O) Tryz.prog [(145, k145)] Tryz.f96 (.n .z (.n (.n (.g [(3, 2, [(12, .one .b)]), (7, 4, [(18, .one .b)])]) (.n .z .z)) .z)) = qmi k145 := by kernel_rfl
theorem qmm : FSound RO Tryz.prog 96 qmj := sdf (qml _) (gcons qdf qdh <| gnil) Tryz.func96 (by kernel_rfl)
def qmn (k53 k63 k93 k90 : Sm O) : Sm O := fun xs h =>
 bif Nat.beq xs.length 4 then
 (AV.asP (xs.getD 0 .u)).bind fun p0 =>
 gtU xs 1 fun n1 =>
 gtI xs 2 fun n2 =>
 gtU xs 3 fun n3 =>
 (k53 [(.i .u64 n1)] h).bind fun r4 =>
 (AV.asI .i64 r4.1).bind fun n5 =>
 (bif ((n5 : Int) == 0) then
 some ((.i .i64 31), r4.2)
 else (bif ((n5 : Int) == 1) then
 Option.bind p0 fun q6 =>
 ldP r4.2 q6.1 (q6.2 + 1) fun p8 =>
 (k63 [(.i .u64 n1)] r4.2).bind fun r9 =>
 (AV.asI .i64 r9.1).bind fun n10 =>
 (chkE (r9.2.ld q6.1 (q6.2 + 1)) (some (.p p8))).bind fun _ =>
 (k93 [(.p p8), (.i .i64 (IntKind.i64.wrap (n10 + n2))), (.i .u64 n3)] r9.2).bind fun r11 =>
 (AV.asI .i64 r11.1).bind fun n12 =>
 some ((.i .i64 n12), r11.2)
 else (bif ((n5 : Int) == 2) then
 Option.bind p0 fun q13 =>
 ldP r4.2 q13.1 ((q13.2 + 1) + 1) fun p15 =>
 (k63 [(.i .u64 n1)] r4.2).bind fun r16 =>
 (AV.asI .i64 r16.1).bind fun n17 =>
 (chkE (r16.2.ld q13.1 ((q13.2 + 1) + 1)) (some (.p p15))).bind fun _ =>
 (k90 [(.p p15), (.i .i64 n17), (.i .i64 n2), (.i .u64 n3)] r16.2).bind fun r18 =>
 (AV.asI .i64 r18.1).bind fun n19 =>
 some ((.i .i64 n19), r18.2)
 else some ((.i .i64 5), r4.2))))
 else none
def qmo : Sm O := qmn qle qlj qkf qjl
theorem qmp : Entered Tryz.prog 97 := Tryz.call97
theorem qmq (k53 k63 k93 k90 : Sm O) : run (O := O) Tryz.prog [(53, k53), (63, k63), (93, k93), (90, k90)] Tryz.f97 (.n .z (.n (.n .z (.n (.n .z (.n .z (.n .z (.n (.n (.d [] [0, 1, 2, 3, 4, 5, 7, 9, 6, 8, 10, 11] [0, 1, 3, 7, 15, 0, 32, 0, 224, 0, 1023, 2047]) .z) (.n .z (.n (.n (.d [] [0, 1, 2, 3, 4, 5, 7, 8, 6, 9, 10] [0, 1, 3, 7, 15, 0, 32, 0, 0, 511, 1023]) .z) .z)))))) .z)) .z)) = qmn k53 k63 k93 k90 := by kernel_rfl
theorem qmr : FSound RO Tryz.prog 97 qmo := sdf (qmq _ _ _ _) (gcons qlf qlh <| gcons qlk qlm <| gcons qkg qki <| gcons qjm qjo <| gnil) Tryz.func97 (by kernel_rfl)
def qms (k13 k96 k97 : Sm O) : Sm O := fun xs h =>
 bif Nat.beq xs.length 4 then
 (AV.asP (xs.getD 0 .u)).bind fun p0 =>
 gtU xs 1 fun n1 =>
 gtI xs 2 fun n2 =>
 gtU xs 3 fun n3 =>
 let h4 := h.bump 1
 (k13 [(.p p0), (.i .u64 n1)] h4).bind fun r5 =>
 (AV.asTup 2 r5.1).bind fun c6 =>
 (AV.asAgg 5 (c6.getD 0 .u)).bind fun c7 =>
 gtI c7 0 fun n8 =>
 gtI c7 1 fun n9 =>
 gtI c7 2 fun n10 =>
 gtI c7 3 fun n11 =>
 (AV.asB (c7.getD 4 .u)).bind fun b12 =>
 gtI c6 1 fun n13 =>
 let h14 := r5.2.put h.next (.cells true 39 [(.i .i64 0), (.i .i64 0), (.i .i64 0), (.i .i64 0), (.b false)])
 (h14.st (.n h.next) 0 [(.i .i64 n8), (.i .i64 n9), (.i .i64 n10), (.i .i64 n11), (.b b12)]).bind fun h15 =>
 (bif ((n13 : Int) != 0) then
 some ((.i .i64 n13), h15)
 else ldI h15 (.n h.next) 0 fun n17 =>
 ldI h15 (.n h.next) 1 fun n19 =>
 (k96 [(.agg [(.i .i64 n17), (.i .i64 n19)]), (.i .i64 n2)] h15).bind fun r20 =>
 (AV.asTup 2 r20.1).bind fun c21 =>
 gtI c21 0 fun n22 =>
 gtI c21 1 fun n23 =>
 (bif ((n23 : Int) != 0) then
 some ((.i .i64 n23), r20.2)
 else (k97 [(.p p0), (.i .u64 n1), (.i .i64 n22), (.i .u64 n3)] r20.2).bind fun r24 =>
 (AV.asI .i64 r24.1).bind fun n25 =>
 some ((.i .i64 n25), r24.2)))
 else none
def qmt : Sm O := qms qme qmj qmo
theorem qmu : Entered Tryz.prog 48 := Tryz.call48
theorem qmv (k13 k96 k97 : Sm O) : run (O := O) Tryz.prog [(13, k13), (96, k96), (97, k97)] Tryz.f48 (.n .z (.n .z (.n (.n .z (.n .z .z)) (.n .z (.n (.n .z (.n .z .z)) .z))))) = qms k13 k96 k97 := by kernel_rfl
theorem qmw : FSound RO Tryz.prog 48 qmt := sdf (qmv _ _ _) (gcons qmf qmh <| gcons qmk qmm <| gcons qmp qmr <| gnil) Tryz.func48 (by kernel_rfl)
def qmx : Sm O := fun xs h =>
 bif Nat.beq xs.length 3 then
 (AV.asAgg 5 (xs.getD 0 .u)).bind fun c0 =>
 gtI c0 0 fun n1 =>
 gtI c0 1 fun n2 =>
 gtI c0 2 fun n3 =>
 gtI c0 3 fun n4 =>
 gtS c0 4 fun l5 =>
 gtI xs 1 fun n6 =>
 (AV.asAgg 8 (xs.getD 2 .u)).bind fun c7 =>
 gtI c7 0 fun n8 =>
 gtI c7 1 fun n9 =>
 gtI c7 2 fun n10 =>
 gtI c7 3 fun n11 =>
 (AV.asB (c7.getD 4 .u)).bind fun b12 =>
 gtS c7 5 fun l13 =>
 gtS c7 6 fun l14 =>
 gtU c7 7 fun n15 =>
 let h16 := h.bump 3
 let h17 := h16.put h.next (.cells true 105 [(.i .i64 n1), (.i .i64 n2), (.i .i64 n3), (.i .i64 n4), (.sl l5.1 l5.2)])
 let h18 := h17.put (h.next + 1) (.cells true 42 [(.i .i64 n8), (.i .i64 n9), (.i .i64 n10), (.i .i64 n11), (.b b12), (.sl l13.1 l13.2), (.sl l14.1 l14.2), (.i .u64 n15)])
 let h19 := h18.put ((h.next + 1) + 1) (.cells true 105 [(.i .i64 0), (.i .i64 0), (.i .i64 0), (.i .i64 0), (.sl .nil 0)])
 let h20 := h19.bump 2
 let h21 := h20.put h19.next (.cells true 42 [])
 ldS h21 (.n h.next) 4 fun l23 =>
 (h21.rdSl l23.1 l23.2 8).bind fun new24 =>
 (bif (Nat.ble ((0 + l23.2) * 97) 35184372088832) then
 (h21.appSl (h19.next + 1) 42 8 (.loc (.n h19.next) 0 8) 0 l23.2 new24).bind fun r25 =>
 (AV.asSl r25.1).bind fun l26 =>
 (r25.2.st (.n h.next) 4 [(.sl l26.1 l26.2)]).bind fun h27 =>
 ldS h27 (.n h.next) 4 fun l29 =>
 ldI h27 (.n (h.next + 1)) 0 fun n31 =>
 ldI h27 (.n (h.next + 1)) 1 fun n33 =>
 ldI h27 (.n (h.next + 1)) 2 fun n35 =>
 ldI h27 (.n (h.next + 1)) 3 fun n37 =>
 (h27.ld (.n (h.next + 1)) 4).bind fun w38 =>
 (AV.asB w38).bind fun b39 =>
 ldS h27 (.n (h.next + 1)) 5 fun l41 =>
 ldS h27 (.n (h.next + 1)) 6 fun l43 =>
 ldU h27 (.n (h.next + 1)) 7 fun n45 =>
 (bif ((decide ((0 : Int) <= n6)) && (decide (n6 < (l29.2 : Int)))) then
 (SA.ref l29.1).bind fun q46 =>
 (h27.st q46.1 (q46.2 + (n6.toNat * 8)) [(.i .i64 n31), (.i .i64 n33), (.i .i64 n35), (.i .i64 n37), (.b b39), (.sl l41.1 l41.2), (.sl l43.1 l43.2), (.i .u64 n45)]).bind fun h47 =>
 ldI h47 (.n h.next) 0 fun n49 =>
 ldI h47 (.n h.next) 1 fun n51 =>
 ldI h47 (.n h.next) 2 fun n53 =>
 ldI h47 (.n h.next) 3 fun n55 =>
 ldS h47 (.n h.next) 4 fun l57 =>
 (h47.st (.n ((h.next + 1) + 1)) 0 [(.i .i64 n49), (.i .i64 n51), (.i .i64 n53), (.i .i64 n55), (.sl l57.1 l57.2)]).bind fun h58 =>
 ldI h58 (.n ((h.next + 1) + 1)) 0 fun n60 =>
 ldI h58 (.n ((h.next + 1) + 1)) 1 fun n62 =>
 ldI h58 (.n ((h.next + 1) + 1)) 2 fun n64 =>
 ldI h58 (.n ((h.next + 1) + 1)) 3 fun n66 =>
 ldS h58 (.n ((h.next + 1) + 1)) 4 fun l68 =>
 some ((.agg [(.i .i64 n60), (.i .i64 n62), (.i .i64 n64), (.i .i64 n66), (.sl l68.1 l68.2)]), h58)
 else none)
 else none)
 else none
def qmy : Sm O := qmx
theorem qmz : Entered Tryz.prog 98 := Tryz.call98
theorem qm0 : run (O := O) Tryz.prog [] Tryz.f98 (.n .z (.n .z (.n .z .z))) = qmx  := by kernel_rfl
theorem qm1 : FSound RO Tryz.prog 98 qmy := sdf qm0 (gnil) Tryz.func98 (by kernel_rfl)
def qm2 (k98 : Sm O) : Sm O := fun xs h =>
 bif Nat.beq xs.length 4 then
 (AV.asAgg 5 (xs.getD 0 .u)).bind fun c0 =>
 gtI c0 0 fun n1 =>
 gtI c0 1 fun n2 =>
 gtI c0 2 fun n3 =>
 gtI c0 3 fun n4 =>
 gtS c0 4 fun l5 =>
 gtI xs 1 fun n6 =>
 gtI xs 2 fun n7 =>
 gtU xs 3 fun n8 =>
 let h9 := h.bump 2
 let h10 := h9.put h.next (.cells true 105 [(.i .i64 n1), (.i .i64 n2), (.i .i64 n3), (.i .i64 n4), (.sl l5.1 l5.2)])
 let h11 := h10.put (h.next + 1) (.cells true 105 [(.i .i64 0), (.i .i64 0), (.i .i64 0), (.i .i64 0), (.sl .nil 0)])
 let h12 := h11.bump 1
 ldS h12 (.n h.next) 4 fun l14 =>
 (bif ((decide ((0 : Int) <= n6)) && (decide (n6 < (l14.2 : Int)))) then
 (SA.ref l14.1).bind fun q15 =>
 ldI h12 q15.1 (q15.2 + (n6.toNat * 8)) fun n17 =>
 ldI h12 q15.1 ((q15.2 + (n6.toNat * 8)) + 1) fun n19 =>
 ldI h12 q15.1 (((q15.2 + (n6.toNat * 8)) + 1) + 1) fun n21 =>
 ldI h12 q15.1 ((((q15.2 + (n6.toNat * 8)) + 1) + 1) + 1) fun n23 =>
 (h12.ld q15.1 (((((q15.2 + (n6.toNat * 8)) + 1) + 1) + 1) + 1)).bind fun w24 =>
 (AV.asB w24).bind fun b25 =>
 ldS h12 q15.1 ((((((q15.2 + (n6.toNat * 8)) + 1) + 1) + 1) + 1) + 1) fun l27 =>
 ldS h12 q15.1 (((((((q15.2 + (n6.toNat * 8)) + 1) + 1) + 1) + 1) + 1) + 1) fun l29 =>
 ldU h12 q15.1 ((((((((q15.2 + (n6.toNat * 8)) + 1) + 1) + 1) + 1) + 1) + 1) + 1) fun n31 =>
 let h32 := h12.put h11.next (.cells true 42 [(.i .i64 0), (.i .i64 0), (.i .i64 0), (.i .i64 0), (.b false), (.sl .nil 0), (.sl .nil 0), (.i .u64 0)])
 (h32.st (.n h11.next) 0 [(.i .i64 n17), (.i .i64 n19), (.i .i64 n21), (.i .i64 n23), (.b b25), (.sl l27.1 l27.2), (.sl l29.1 l29.2), (.i .u64 n31)]).bind fun h33 =>
 ((bif ((decide (n7 < 0)) == false) then
 ldS h33 (.n h11.next) 6 fun l35 =>
 some ([(.b (decide (n7 >= (l35.2 : Int))))], h33)
 else some ([(.b true)], h33)) : Option (List AV × AH O)).bind fun r36 =>
 (AV.asB (r36.1.getD 0 .u)).bind fun b37 =>
 (bif b37 then
 ldI r36.2 (.n h.next) 0 fun n39 =>
 ldI r36.2 (.n h.next) 1 fun n41 =>
 ldI r36.2 (.n h.next) 2 fun n43 =>
 ldI r36.2 (.n h.next) 3 fun n45 =>
 ldS r36.2 (.n h.next) 4 fun l47 =>
 (r36.2.st (.n (h.next + 1)) 0 [(.i .i64 n39), (.i .i64 n41), (.i .i64 n43), (.i .i64 n45), (.sl l47.1 l47.2)]).bind fun h48 =>
 ldI h48 (.n (h.next + 1)) 0 fun n50 =>
 ldI h48 (.n (h.next + 1)) 1 fun n52 =>
 ldI h48 (.n (h.next + 1)) 2 fun n54 =>
 ldI h48 (.n (h.next + 1)) 3 fun n56 =>
 ldS h48 (.n (h.next + 1)) 4 fun l58 =>
 some ((.tup [(.agg [(.i .i64 n50), (.i .i64 n52), (.i .i64 n54), (.i .i64 n56), (.sl l58.1 l58.2)]), (.i .i64 32)]), h48)
 else let h59 := r36.2.bump 2
 let h60 := h59.put r36.2.next (.cells true 33 [])
 ldS h60 (.n h11.next) 6 fun l62 =>
 (h60.rdSl l62.1 l62.2 1).bind fun new63 =>
 (bif (Nat.ble ((0 + l62.2) * 9) 35184372088832) then
 (h60.appSl (r36.2.next + 1) 33 1 (.loc (.n r36.2.next) 0 1) 0 l62.2 new63).bind fun r64 =>
 (AV.asSl r64.1).bind fun l65 =>
 (r64.2.st (.n h11.next) 6 [(.sl l65.1 l65.2)]).bind fun h66 =>
 ldS h66 (.n h11.next) 6 fun l68 =>
 (bif ((decide ((0 : Int) <= n7)) && (decide (n7 < (l68.2 : Int)))) then
 (SA.ref l68.1).bind fun q69 =>
 (h66.st q69.1 (q69.2 + (n7.toNat * 1)) [(.i .u64 n8)]).bind fun h70 =>
 ldI h70 (.n h.next) 0 fun n72 =>
 ldI h70 (.n h.next) 1 fun n74 =>
 ldI h70 (.n h.next) 2 fun n76 =>
 ldI h70 (.n h.next) 3 fun n78 =>
 ldS h70 (.n h.next) 4 fun l80 =>
 ldI h70 (.n h11.next) 0 fun n82 =>
 ldI h70 (.n h11.next) 1 fun n84 =>
 ldI h70 (.n h11.next) 2 fun n86 =>
 ldI h70 (.n h11.next) 3 fun n88 =>
 (h70.ld (.n h11.next) 4).bind fun w89 =>
 (AV.asB w89).bind fun b90 =>
 ldS h70 (.n h11.next) 5 fun l92 =>
 ldS h70 (.n h11.next) 6 fun l94 =>
 ldU h70 (.n h11.next) 7 fun n96 =>
 (k98 [(.agg [(.i .i64 n72), (.i .i64 n74), (.i .i64 n76), (.i .i64 n78), (.sl l80.1 l80.2)]), (.i .i64 n6), (.agg [(.i .i64 n82), (.i .i64 n84), (.i .i64 n86), (.i .i64 n88), (.b b90), (.sl l92.1 l92.2), (.sl l94.1 l94.2), (.i .u64 n96)])] h70).bind fun r97 =>
 (AV.asAgg 5 r97.1).bind fun c98 =>
 gtI c98 0 fun n99 =>
 gtI c98 1 fun n100 =>
 gtI c98 2 fun n101 =>
 gtI c98 3 fun n102 =>
 gtS c98 4 fun l103 =>
 (r97.2.st (.n (h.next + 1)) 0 [(.i .i64 n99), (.i .i64 n100), (.i .i64 n101), (.i .i64 n102), (.sl l103.1 l103.2)]).bind fun h104 =>
 ldI h104 (.n (h.next + 1)) 0 fun n106 =>
 ldI h104 (.n (h.next + 1)) 1 fun n108 =>
 ldI h104 (.n (h.next + 1)) 2 fun n110 =>
 ldI h104 (.n (h.next + 1)) 3 fun n112 =>
 ldS h104 (.n (h.next + 1)) 4 fun l114 =>
 some ((.tup [(.agg [(.i .i64 n106), (.i .i64 n108), (.i .i64 n110), (.i .i64 n112), (.sl l114.1 l114.2)]), (.i .i64 0)]), h104)
 else none)
 else none))
 else none)
 else none
def qm3 : Sm O := frz (qm2 qmy)
theorem qm4 : Entered Tryz.prog 49 := Tryz.call49
theorem qm5 (k98 : Sm O) : run (O := O) Tryz.prog [(98, k98)] Tryz.f49 (.n .z (.n .z (.n (.n (.g [(2, 5, [(24, .one .b)])]) (.n .z .z)) (.n .z (.n .z .z))))) = qm2 k98 := by kernel_rfl
theorem qm6 : FSound RO Tryz.prog 49 (qm3) :=
   have h : FSound RO Tryz.prog 49 (qm2 qmy) := (qm5 qmy) ▸ run_sound (gcons qmz (qm1) <| gnil) mixed Tryz.func49 (by kernel_rfl) _
   h.frz
def qm7 (r22 : List AV × AH O) (n23 : Int) (l0 : SA × Nat) (k48 : Sm O) (p3 : Option (Bid × Nat)) (n42 : Int) (r17 : List AV × AH O) (k49 : Sm O) : List AV × AH O -> Option ((List AV × AH O) ⊕ ((List AV × AH O) ⊕ ((List AV × AH O) ⊕ ((List AV × AH O) ⊕ (AV × AH O))))) := (fun r76 =>
 (AV.asI .i64 (r76.1.getD 0 .u)).bind fun n77 =>
 ldI r76.2 (.n r22.2.next) 1 fun n79 =>
 (bif (decide (n77 < n79)) then
 (bif ((decide ((0 : Int) <= n23)) && (decide (n23 < (l0.2 : Int)))) then
 (SA.ref l0.1).bind fun q80 =>
 ldU r76.2 q80.1 ((q80.2 + (n23.toNat * 4)) + 3) fun n82 =>
 let v83 : Int := (IntKind.u64.wrap (n82 + (IntKind.u64.wrap n77)))
 (k48 [(.p p3), (.i .u64 n42), (.i .i64 n77), (.i .u64 v83)] r76.2).bind fun r84 =>
 (AV.asI .i64 r84.1).bind fun n85 =>
 (bif ((n85 : Int) != 0) then
 ((((some ((.tup [(.p none), (.sl .nil 0), (.b false)]), r84.2) : Option (AV × AH O)).map fun r => Sum.inr (Sum.inr r)) : Option ((List AV × AH O) ⊕ ((List AV × AH O) ⊕ (AV × AH O)))).map fun r => Sum.inr (Sum.inr r))
 else ldI r84.2 (.n r17.2.next) 0 fun n87 =>
 ldI r84.2 (.n r17.2.next) 1 fun n89 =>
 ldI r84.2 (.n r17.2.next) 2 fun n91 =>
 ldI r84.2 (.n r17.2.next) 3 fun n93 =>
 ldS r84.2 (.n r17.2.next) 4 fun l95 =>
 (bif ((decide ((0 : Int) <= n23)) && (decide (n23 < (l0.2 : Int)))) then
 (SA.ref l0.1).bind fun q96 =>
 ldU r84.2 q96.1 ((q96.2 + (n23.toNat * 4)) + 3) fun n98 =>
 let v99 : Int := (IntKind.u64.wrap (n98 + (IntKind.u64.wrap n77)))
 (k49 [(.agg [(.i .i64 n87), (.i .i64 n89), (.i .i64 n91), (.i .i64 n93), (.sl l95.1 l95.2)]), (.i .i64 n23), (.i .i64 n77), (.i .u64 v99)] r84.2).bind fun r100 =>
 (AV.asTup 2 r100.1).bind fun c101 =>
 (AV.asAgg 5 (c101.getD 0 .u)).bind fun c102 =>
 gtI c102 0 fun n103 =>
 gtI c102 1 fun n104 =>
 gtI c102 2 fun n105 =>
 gtI c102 3 fun n106 =>
 gtS c102 4 fun l107 =>
 gtI c101 1 fun n108 =>
 (r100.2.st (.n r17.2.next) 0 [(.i .i64 n103), (.i .i64 n104), (.i .i64 n105), (.i .i64 n106), (.sl l107.1 l107.2)]).bind fun h109 =>
 some (Sum.inl ([(.i .i64 (IntKind.i64.wrap (n77 + 1)))], h109))
 else none))
 else none)
 else some (Sum.inr (Sum.inl ([], r76.2)))))
def qm8 (l0 : SA × Nat) (k46 : Sm O) (p3 : Option (Bid × Nat)) (r17 : List AV × AH O) (k47 : Sm O) (k48 : Sm O) (k49 : Sm O) : List AV × AH O -> Option ((List AV × AH O) ⊕ ((List AV × AH O) ⊕ (AV × AH O))) := (fun r22 =>
 (AV.asI .i64 (r22.1.getD 0 .u)).bind fun n23 =>
 (bif (decide (n23 < (l0.2 : Int))) then
 let h24 := r22.2.bump 1
 (bif ((decide ((0 : Int) <= n23)) && (decide (n23 < (l0.2 : Int)))) then
 (SA.ref l0.1).bind fun q25 =>
 ldI h24 q25.1 (q25.2 + (n23.toNat * 4)) fun n27 =>
 (bif ((decide ((0 : Int) <= n23)) && (decide (n23 < (l0.2 : Int)))) then
 (SA.ref l0.1).bind fun q28 =>
 ldI h24 q28.1 ((q28.2 + (n23.toNat * 4)) + 1) fun n30 =>
 let h31 := h24.put r22.2.next (.cells true 37 [(.i .i64 0), (.i .i64 0)])
 (h31.st (.n r22.2.next) 0 [(.i .i64 (ibits .and .i64 n27 15)), (.i .i64 (ibits .and .i64 n30 15))]).bind fun h32 =>
 ldI h32 (.n r22.2.next) 0 fun n34 =>
 ldI h32 (.n r22.2.next) 1 fun n36 =>
 (bif ((decide ((0 : Int) <= n23)) && (decide (n23 < (l0.2 : Int)))) then
 (SA.ref l0.1).bind fun q37 =>
 (h32.ld q37.1 ((q37.2 + (n23.toNat * 4)) + 2)).bind fun w38 =>
 (AV.asI .u8 w38).bind fun n39 =>
 (k46 [(.p p3), (.agg [(.i .i64 n34), (.i .i64 n36)]), (.i .i64 (IntKind.i64.wrap (ibits .and .u8 n39 31)))] h32).bind fun r40 =>
 (AV.asTup 2 r40.1).bind fun c41 =>
 gtU c41 0 fun n42 =>
 gtI c41 1 fun n43 =>
 ldI r40.2 (.n r17.2.next) 0 fun n45 =>
 ldI r40.2 (.n r17.2.next) 1 fun n47 =>
 ldI r40.2 (.n r17.2.next) 2 fun n49 =>
 ldI r40.2 (.n r17.2.next) 3 fun n51 =>
 ldS r40.2 (.n r17.2.next) 4 fun l53 =>
 ldI r40.2 (.n r22.2.next) 0 fun n55 =>
 ldI r40.2 (.n r22.2.next) 1 fun n57 =>
 (bif ((decide ((0 : Int) <= n23)) && (decide (n23 < (l0.2 : Int)))) then
 (SA.ref l0.1).bind fun q58 =>
 (r40.2.ld q58.1 ((q58.2 + (n23.toNat * 4)) + 2)).bind fun w59 =>
 (AV.asI .u8 w59).bind fun n60 =>
 (k47 [(.agg [(.i .i64 n45), (.i .i64 n47), (.i .i64 n49), (.i .i64 n51), (.sl l53.1 l53.2)]), (.agg [(.i .i64 n55), (.i .i64 n57)]), (.i .i64 (IntKind.i64.wrap (ibits .and .u8 n60 31)))] r40.2).bind fun r61 =>
 (AV.asTup 3 r61.1).bind fun c62 =>
 (AV.asAgg 5 (c62.getD 0 .u)).bind fun c63 =>
 gtI c63 0 fun n64 =>
 gtI c63 1 fun n65 =>
 gtI c63 2 fun n66 =>
 gtI c63 3 fun n67 =>
 gtS c63 4 fun l68 =>
 gtU c62 1 fun n69 =>
 gtI c62 2 fun n70 =>
 (r61.2.st (.n r17.2.next) 0 [(.i .i64 n64), (.i .i64 n65), (.i .i64 n66), (.i .i64 n67), (.sl l68.1 l68.2)]).bind fun h71 =>
 ((bif (((n43 : Int) != 0) == false) then
 some ([(.b ((n70 : Int) != 0))], h71)
 else some ([(.b true)], h71)) : Option (List AV × AH O)).bind fun r72 =>
 (AV.asB (r72.1.getD 0 .u)).bind fun b73 =>
 ((bif (b73 == false) then
 some ([(.b ((n42 : Int) != n69))], r72.2)
 else some ([(.b true)], r72.2)) : Option (List AV × AH O)).bind fun r74 =>
 (AV.asB (r74.1.getD 0 .u)).bind fun b75 =>
 (bif b75 then
 ((some ((.tup [(.p none), (.sl .nil 0), (.b false)]), r74.2) : Option (AV × AH O)).map fun r => Sum.inr (Sum.inr r))
 else bindS (S := List AV × AH O) (R := ((List AV × AH O) ⊕ ((List AV × AH O) ⊕ (AV × AH O)))) (loopF (S := List AV × AH O) (T := (List AV × AH O) ⊕ ((List AV × AH O) ⊕ ((List AV × AH O) ⊕ (AV × AH O)))) (qm7 r22 n23 l0 k48 p3 n42 r17 k49) ([(.i .i64 0)], r74.2)) fun r110 =>
 some (Sum.inl ([(.i .i64 (IntKind.i64.wrap (n23 + 1)))], r110.2)))
 else none)
 else none)
 else none)
 else none)
 else some (Sum.inr (Sum.inl ([], r22.2)))))
def qm9 (k45 k23 k32 k16 k46 k47 k48 k49 : Sm O) : Sm O := fun xs h =>
 bif Nat.beq xs.length 1 then
 gtS xs 0 fun l0 =>
 (k45 [(.i .i64 8), (.i .i64 (IntKind.i64.wrap (8 * (l0.2 : Int))))] h).bind fun r1 =>
 (AV.asTup 2 r1.1).bind fun c2 =>
 (AV.asP (c2.getD 0 .u)).bind fun p3 =>
 gtI c2 1 fun n4 =>
 ((bif ((Option.isNone p3) == false) then
 some ([(.b ((n4 : Int) != 0))], r1.2)
 else some ([(.b true)], r1.2)) : Option (List AV × AH O)).bind fun r5 =>
 (AV.asB (r5.1.getD 0 .u)).bind fun b6 =>
 ((bif (b6 == false) then
 (k23 [(.p p3)] r5.2).bind fun r7 =>
 (AV.asP r7.1).bind fun p8 =>
 some ([(.b (Option.isNone p8))], r7.2)
 else some ([(.b true)], r5.2)) : Option (List AV × AH O)).bind fun r9 =>
 (AV.asB (r9.1.getD 0 .u)).bind fun b10 =>
 ((bif (b10 == false) then
 (k32 [(.p p3)] r9.2).bind fun r11 =>
 (AV.asP r11.1).bind fun p12 =>
 some ([(.b (Option.isNone p12))], r11.2)
 else some ([(.b true)], r9.2)) : Option (List AV × AH O)).bind fun r13 =>
 (AV.asB (r13.1.getD 0 .u)).bind fun b14 =>
 ((bif (b14 == false) then
 (k16 [(.p p3)] r13.2).bind fun r15 =>
 (AV.asP r15.1).bind fun p16 =>
 some ([(.b (Option.isNone p16))], r15.2)
 else some ([(.b true)], r13.2)) : Option (List AV × AH O)).bind fun r17 =>
 (AV.asB (r17.1.getD 0 .u)).bind fun b18 =>
 (bif b18 then
 some ((.tup [(.p none), (.sl .nil 0), (.b false)]), r17.2)
 else let h19 := r17.2.bump 1
 let h20 := h19.put r17.2.next (.cells true 105 [(.i .i64 0), (.i .i64 0), (.i .i64 0), (.i .i64 0), (.sl .nil 0)])
 (h20.st (.n r17.2.next) 0 [(.i .i64 8), (.i .i64 (IntKind.i64.wrap (8 * (l0.2 : Int)))), (.i .i64 0), (.i .i64 0), (.sl .nil 0)]).bind fun h21 =>
 bindS (S := List AV × AH O) (R := (AV × AH O)) (loopF (S := List AV × AH O) (T := (List AV × AH O) ⊕ (AV × AH O)) (qm8 l0 k46 p3 r17 k47 k48 k49) ([(.i .i64 0)], h21)) fun r111 =>
 ldS r111.2 (.n r17.2.next) 4 fun l113 =>
 some ((.tup [(.p p3), (.sl l113.1 l113.2), (.b true)]), r111.2))
 else none
def qna : Sm O := qm9 qck qcp qcu qcz qkp qk9 qmt qm3
theorem qnb : Entered Tryz.prog 9 := Tryz.call9
theorem qnc (k45 k23 k32 k16 k46 k47 k48 k49 : Sm O) : run (O := O) Tryz.prog [(45, k45), (23, k23), (32, k32), (16, k16), (46, k46), (47, k47), (48, k48), (49, k49)] Tryz.f9 (.n .z (.n .z (.n (.n (.g [(2, 2, [(27, .one .b)]), (6, 3, [(32, .one .b)]), (11, 3, [(37, .one .b)]), (16, 3, [(42, .one .b)])]) (.n .z .z)) (.n .z (.n (.n .z (.n (.lp true 0 [(8, .one (.i .i64))] [] (.n (.n .z .z) (.n (.n (.n (.d [] [0, 1, 2, 3, 4, 5, 6, 7, 8, 9, 10, 11, 12, 13, 14, 15, 16] [0, 0, 3, 7, 15, 31, 63, 0, 0, 384, 896, 1920, 3968, 8064, 16383, 0, 65535]) (.n (.d [] [0, 1, 2, 3, 4, 5, 6, 7, 8, 9, 10, 11, 12, 13, 14] [0, 0, 0, 0, 12, 28, 60, 124, 252, 511, 1023, 2047, 2047, 4095, 16383]) (.n .z (.n .z (.n (.d [] [0, 1, 2, 3, 4, 5, 6, 7, 8, 9, 10, 11, 12, 13, 14, 15, 16] [0, 0, 0, 0, 12, 28, 60, 124, 252, 511, 1023, 2047, 2047, 2047, 4095, 24575, 65535]) (.n (.n (.g [(2, 2, [(100, .one .b)]), (6, 3, [(105, .one .b)])]) (.n .z .z)) (.n .z (.n (.lp true 2 [(14, .one (.i .i64))] [] (.n (.n .z .z) (.n (.n (.n (.n .z (.n .z .z)) (.d [] [0, 1, 2, 3, 4, 5, 6, 7, 8, 9, 10, 11, 12, 13, 14, 15] [0, 0, 0, 0, 0, 24, 56, 120, 0, 256, 1016, 2047, 4095, 8191, 8191, 16383])) .z) .z))) .z)))))))) .z) .z))) .z)) (.n (.d [] [0, 1, 2, 3, 4, 5] [0, 0, 2, 1, 15, 31]) .z)))))) = qm9 k45 k23 k32 k16 k46 k47 k48 k49 := by kernel_rfl
theorem qnd : FSound RO Tryz.prog 9 qna := sdf (qnc _ _ _ _ _ _ _ _) (gcons qcl qcn <| gcons qcq qcs <| gcons qcv qcx <| gcons qc0 qc2 <| gcons qkq qks <| gcons qla qlc <| gcons qmu qmw <| gcons qm4 qm6 <| gnil) Tryz.func9 (by kernel_rfl)
def qne : Sm O := fun xs h =>
 bif Nat.beq xs.length 1 then
 (AV.asAgg 5 (xs.getD 0 .u)).bind fun c0 =>
 gtI c0 0 fun n1 =>
 gtI c0 1 fun n2 =>
 gtI c0 2 fun n3 =>
 gtI c0 3 fun n4 =>
 (AV.asB (c0.getD 4 .u)).bind fun b5 =>
 let h6 := h.bump 1
 let h7 := h6.put h.next (.cells true 39 [(.i .i64 n1), (.i .i64 n2), (.i .i64 n3), (.i .i64 n4), (.b b5)])
 some ((.tup []), h7)
 else none
def qnf : Sm O := qne
theorem qng : Entered Tryz.prog 50 := Tryz.call50
theorem qnh : run (O := O) Tryz.prog [] Tryz.f50 .z = qne  := by kernel_rfl
theorem qni : FSound RO Tryz.prog 50 qnf := sdf qnh (gnil) Tryz.func50 (by kernel_rfl)
def qnj (k50 : Sm O) : Sm O := fun xs h =>
 bif Nat.beq xs.length 2 then
 (AV.asP (xs.getD 0 .u)).bind fun p0 =>
 (AV.asF (xs.getD 1 .u)).bind fun f1 =>
 ((bif (Option.isNone f1) then
 some ([(.fn (some (.func 50, [], [])))], h)
 else some ([(.fn f1)], h)) : Option (List AV × AH O)).bind fun r2 =>
 (AV.asF (r2.1.getD 0 .u)).bind fun f3 =>
 let h4 := r2.2.bump 1
 let h5 := h4.put r2.2.next (.cells true 113 [(.p p0), (.fn f3), (.i .i64 0)])
 some ((.p (some ((.n r2.2.next), 0))), h5)
 else none
def qnk : Sm O := qnj qnf
theorem qnl : Entered Tryz.prog 10 := Tryz.call10
theorem qnm (k50 : Sm O) : run (O := O) Tryz.prog [(50, k50)] Tryz.f10 (.n .z (.n (.n .z (.j false [(1, .one .f)] .z .z)) .z)) = qnj k50 := by kernel_rfl
theorem qnn : FSound RO Tryz.prog 10 qnk := sdf (qnm _) (gcons qng qni <| gnil) Tryz.func10 (by kernel_rfl)
def qno : Sm O := fun xs h =>
 bif Nat.beq xs.length 1 then
 (AV.asP (xs.getD 0 .u)).bind fun p0 =>
 Option.bind p0 fun q1 =>
 ldP h q1.1 q1.2 fun p3 =>
 some ((.p p3), h)
 else none
def qnp : Sm O := qno
theorem qnq : Entered Tryz.prog 44 := Tryz.call44
theorem qnr : run (O := O) Tryz.prog [] Tryz.f44 (.n .z .z) = qno  := by kernel_rfl
theorem qns : FSound RO Tryz.prog 44 qnp := sdf qnr (gnil) Tryz.func44 (by kernel_rfl)
def qnt : Sm O := fun xs h =>
 bif Nat.beq xs.length 1 then
 (AV.asP (xs.getD 0 .u)).bind fun p0 =>
 Option.bind p0 fun q1 =>
 ldI h q1.1 ((q1.2 + 1) + 1) fun n3 =>
 some ((.i .i64 n3), h)
 else none
def qnu : Sm O := qnt
theorem qnv : Entered Tryz.prog 24 := Tryz.call24
theorem qnw : run (O := O) Tryz.prog [] Tryz.f24 (.n .z .z) = qnt  := by kernel_rfl
theorem qnx : FSound RO Tryz.prog 24 qnu := sdf qnw (gnil) Tryz.func24 (by kernel_rfl)
def qny (k99 : Sm O) : Sm O := fun xs h =>
 bif Nat.beq xs.length 2 then
 (AV.asP (xs.getD 0 .u)).bind fun p0 =>
 gtI xs 1 fun n1 =>
 Option.bind p0 fun q2 =>
 (h.ld q2.1 (q2.2 + 5)).bind fun w3 =>
 (AV.asB w3).bind fun b4 =>
 (bif b4 then
 some ((.i .i64 1), h)
 else Option.bind p0 fun q5 =>
 ldP h q5.1 q5.2 fun p7 =>
 (k99 [(.p p7), (.i .i64 n1)] h).bind fun r8 =>
 (AV.asTup 2 r8.1).bind fun c9 =>
 gtI c9 0 fun n10 =>
 gtI c9 1 fun n11 =>
 (bif ((n11 : Int) != 0) then
 some ((.i .i64 n11), r8.2)
 else Option.bind p0 fun q12 =>
 ldI r8.2 q12.1 (q12.2 + 1) fun n14 =>
 ldI r8.2 q12.1 ((q12.2 + 1) + 1) fun n16 =>
 Option.bind p0 fun q17 =>
 (r8.2.st q17.1 (q17.2 + 3) [(.i .i64 n14), (.i .i64 n16)]).bind fun h18 =>
 Option.bind p0 fun q19 =>
 (h18.st q19.1 (q19.2 + 1) [(.i .i64 n10), (.i .i64 0)]).bind fun h20 =>
 Option.bind p0 fun q21 =>
 (h20.st q21.1 (q21.2 + 5) [(.b true)]).bind fun h22 =>
 some ((.i .i64 0), h22)))
 else none
def qnz : Sm O := qny qb0
theorem qn0 : Entered Tryz.prog 51 := Tryz.call51
theorem qn1 (k99 : Sm O) : run (O := O) Tryz.prog [(99, k99)] Tryz.f51 (.n .z (.n (.n .z (.n .z .z)) (.n .z (.n (.n .z (.n .z .z)) (.n .z .z))))) = qny k99 := by kernel_rfl
theorem qn2 : FSound RO Tryz.prog 51 qnz := sdf (qn1 _) (gcons qb1 qb3 <| gnil) Tryz.func51 (by kernel_rfl)
def qn3 (k148 k149 : Sm O) : Sm O := fun xs h =>
 bif Nat.beq xs.length 3 then
 (AV.asAgg 5 (xs.getD 0 .u)).bind fun c0 =>
 (AV.asP (c0.getD 0 .u)).bind fun p1 =>
 gtI c0 1 fun n2 =>
 gtI c0 2 fun n3 =>
 gtI c0 3 fun n4 =>
 gtI c0 4 fun n5 =>
 (AV.asAgg 3 (xs.getD 1 .u)).bind fun c6 =>
 gtI c6 0 fun n7 =>
 gtI c6 1 fun n8 =>
 gtI c6 2 fun n9 =>
 (AV.asAgg 3 (xs.getD 2 .u)).bind fun c10 =>
 gtI c10 0 fun n11 =>
 gtI c10 1 fun n12 =>
 gtI c10 2 fun n13 =>
 let h14 := h.bump 4
 let h15 := h14.put h.next (.cells true 184 [(.p p1), (.i .i64 n2), (.i .i64 n3), (.i .i64 n4), (.i .i64 n5)])
 let h16 := h15.put (h.next + 1) (.cells true 155 [(.i .i64 n7), (.i .i64 n8), (.i .i64 n9)])
 let h17 := h16.put ((h.next + 1) + 1) (.cells true 155 [(.i .i64 n11), (.i .i64 n12), (.i .i64 n13)])
 let h18 := h17.put (((h.next + 1) + 1) + 1) (.cells true 155 [(.i .i64 0), (.i .i64 0), (.i .i64 0)])
 ldP h18 (.n h.next) 0 fun p20 =>
 ldI h18 (.n h.next) 1 fun n22 =>
 ldI h18 (.n h.next) 2 fun n24 =>
 ldI h18 (.n h.next) 3 fun n26 =>
 ldI h18 (.n h.next) 4 fun n28 =>
 (k148 [(.agg [(.p p20), (.i .i64 n22), (.i .i64 n24), (.i .i64 n26), (.i .i64 n28)])] h18).bind fun r29 =>
 (AV.asB r29.1).bind fun b30 =>
 (bif (!b30) then
 ldI r29.2 (.n (h.next + 1)) 0 fun n32 =>
 ldI r29.2 (.n (h.next + 1)) 1 fun n34 =>
 ldI r29.2 (.n (h.next + 1)) 2 fun n36 =>
 (r29.2.st (.n (((h.next + 1) + 1) + 1)) 0 [(.i .i64 n32), (.i .i64 n34), (.i .i64 n36)]).bind fun h37 =>
 ldI h37 (.n (((h.next + 1) + 1) + 1)) 0 fun n39 =>
 ldI h37 (.n (((h.next + 1) + 1) + 1)) 1 fun n41 =>
 ldI h37 (.n (((h.next + 1) + 1) + 1)) 2 fun n43 =>
 some ((.tup [(.agg [(.i .i64 n39), (.i .i64 n41), (.i .i64 n43)]), (.i .i64 1)]), h37)
 else ldI r29.2 (.n (h.next + 1)) 2 fun n45 =>
 (bif ((n45 : Int) == 0) then
 ldI r29.2 (.n ((h.next + 1) + 1)) 0 fun n47 =>
 ldI r29.2 (.n ((h.next + 1) + 1)) 1 fun n49 =>
 ldI r29.2 (.n ((h.next + 1) + 1)) 2 fun n51 =>
 (r29.2.st (.n (((h.next + 1) + 1) + 1)) 0 [(.i .i64 n47), (.i .i64 n49), (.i .i64 n51)]).bind fun h52 =>
 ldI h52 (.n (((h.next + 1) + 1) + 1)) 0 fun n54 =>
 ldI h52 (.n (((h.next + 1) + 1) + 1)) 1 fun n56 =>
 ldI h52 (.n (((h.next + 1) + 1) + 1)) 2 fun n58 =>
 some ((.tup [(.agg [(.i .i64 n54), (.i .i64 n56), (.i .i64 n58)]), (.i .i64 0)]), h52)
 else ldI r29.2 (.n ((h.next + 1) + 1)) 2 fun n60 =>
 (bif ((n60 : Int) == 0) then
 ldI r29.2 (.n (h.next + 1)) 0 fun n62 =>
 ldI r29.2 (.n (h.next + 1)) 1 fun n64 =>
 ldI r29.2 (.n (h.next + 1)) 2 fun n66 =>
 (r29.2.st (.n (((h.next + 1) + 1) + 1)) 0 [(.i .i64 n62), (.i .i64 n64), (.i .i64 n66)]).bind fun h67 =>
 ldI h67 (.n (((h.next + 1) + 1) + 1)) 0 fun n69 =>
 ldI h67 (.n (((h.next + 1) + 1) + 1)) 1 fun n71 =>
 ldI h67 (.n (((h.next + 1) + 1) + 1)) 2 fun n73 =>
 some ((.tup [(.agg [(.i .i64 n69), (.i .i64 n71), (.i .i64 n73)]), (.i .i64 0)]), h67)
 else ldP r29.2 (.n h.next) 0 fun p75 =>
 ldI r29.2 (.n h.next) 1 fun n77 =>
 ldI r29.2 (.n h.next) 2 fun n79 =>
 ldI r29.2 (.n h.next) 3 fun n81 =>
 ldI r29.2 (.n h.next) 4 fun n83 =>
 ldI r29.2 (.n (h.next + 1)) 1 fun n85 =>
 ldI r29.2 (.n h.next) 3 fun n87 =>
 ldI r29.2 (.n ((h.next + 1) + 1)) 0 fun n89 =>
 (k149 [(.agg [(.p p75), (.i .i64 n77), (.i .i64 n79), (.i .i64 n81), (.i .i64 n83)]), (.i .i64 n85), (.i .i64 n87), (.i .i64 n89)] r29.2).bind fun r90 =>
 (AV.asTup 0 r90.1).bind fun c91 =>
 ldP r90.2 (.n h.next) 0 fun p93 =>
 ldI r90.2 (.n h.next) 1 fun n95 =>
 ldI r90.2 (.n h.next) 2 fun n97 =>
 ldI r90.2 (.n h.next) 3 fun n99 =>
 ldI r90.2 (.n h.next) 4 fun n101 =>
 ldI r90.2 (.n ((h.next + 1) + 1)) 0 fun n103 =>
 ldI r90.2 (.n h.next) 4 fun n105 =>
 ldI r90.2 (.n (h.next + 1)) 1 fun n107 =>
 (k149 [(.agg [(.p p93), (.i .i64 n95), (.i .i64 n97), (.i .i64 n99), (.i .i64 n101)]), (.i .i64 n103), (.i .i64 n105), (.i .i64 n107)] r90.2).bind fun r108 =>
 (AV.asTup 0 r108.1).bind fun c109 =>
 ldI r108.2 (.n (h.next + 1)) 0 fun n111 =>
 ldI r108.2 (.n ((h.next + 1) + 1)) 1 fun n113 =>
 ldI r108.2 (.n (h.next + 1)) 2 fun n115 =>
 ldI r108.2 (.n ((h.next + 1) + 1)) 2 fun n117 =>
 (r108.2.st (.n (((h.next + 1) + 1) + 1)) 0 [(.i .i64 n111), (.i .i64 n113), (.i .i64 (IntKind.i64.wrap (n115 + n117)))]).bind fun h118 =>
 ldI h118 (.n (((h.next + 1) + 1) + 1)) 0 fun n120 =>
 ldI h118 (.n (((h.next + 1) + 1) + 1)) 1 fun n122 =>
 ldI h118 (.n (((h.next + 1) + 1) + 1)) 2 fun n124 =>
 some ((.tup [(.agg [(.i .i64 n120), (.i .i64 n122), (.i .i64 n124)]), (.i .i64 0)]), h118))))
 else none
def qn4 : Sm O := qn3 qic qi1
theorem qn5 : Entered Tryz.prog 101 := Tryz.call101
theorem qn6 (k148 k149 : Sm O) : run (O := O) Tryz.prog [(148, k148), (149, k149)] Tryz.f101 (.n .z (.n (.n (.n .z (.n .z (.n .z (.n .z (.n .z (.n .z .z)))))) .z) (.n .z (.n .z .z)))) = qn3 k148 k149 := by kernel_rfl
theorem qn7 : FSound RO Tryz.prog 101 qn4 := sdf (qn6 _ _) (gcons qid qif <| gcons qi2 qi4 <| gnil) Tryz.func101 (by kernel_rfl)
def qn8 (k100 k101 : Sm O) : Sm O := fun xs h =>
 bif Nat.beq xs.length 1 then
 (AV.asP (xs.getD 0 .u)).bind fun p0 =>
 Option.bind p0 fun q1 =>
 ldU h q1.1 (q1.2 + 8) fun n3 =>
 Option.bind p0 fun q4 =>
 (h.st q4.1 (q4.2 + 8) [(.i .u64 (IntKind.u64.wrap (n3 + 1)))]).bind fun h5 =>
 Option.bind p0 fun q6 =>
 ldI h5 q6.1 (q6.2 + 5) fun n8 =>
 ldI h5 q6.1 ((q6.2 + 5) + 1) fun n10 =>
 ldI h5 q6.1 (((q6.2 + 5) + 1) + 1) fun n12 =>
 Option.bind p0 fun q13 =>
 ldI h5 q13.1 (q13.2 + 2) fun n15 =>
 ldI h5 q13.1 ((q13.2 + 2) + 1) fun n17 =>
 ldI h5 q13.1 (((q13.2 + 2) + 1) + 1) fun n19 =>
 (k100 [(.p p0)] h5).bind fun r20 =>
 (AV.asAgg 5 r20.1).bind fun c21 =>
 (AV.asP (c21.getD 0 .u)).bind fun p22 =>
 gtI c21 1 fun n23 =>
 gtI c21 2 fun n24 =>
 gtI c21 3 fun n25 =>
 gtI c21 4 fun n26 =>
 (chkE (r20.2.ld q6.1 (q6.2 + 5)) (some (.i .i64 n8))).bind fun _ =>
 (chkE (r20.2.ld q6.1 ((q6.2 + 5) + 1)) (some (.i .i64 n10))).bind fun _ =>
 (chkE (r20.2.ld q6.1 (((q6.2 + 5) + 1) + 1)) (some (.i .i64 n12))).bind fun _ =>
 (chkE (r20.2.ld q13.1 (q13.2 + 2)) (some (.i .i64 n15))).bind fun _ =>
 (chkE (r20.2.ld q13.1 ((q13.2 + 2) + 1)) (some (.i .i64 n17))).bind fun _ =>
 (chkE (r20.2.ld q13.1 (((q13.2 + 2) + 1) + 1)) (some (.i .i64 n19))).bind fun _ =>
 (k101 [(.agg [(.p p22), (.i .i64 n23), (.i .i64 n24), (.i .i64 n25), (.i .i64 n26)]), (.agg [(.i .i64 n8), (.i .i64 n10), (.i .i64 n12)]), (.agg [(.i .i64 n15), (.i .i64 n17), (.i .i64 n19)])] r20.2).bind fun r27 =>
 (AV.asTup 2 r27.1).bind fun c28 =>
 (AV.asAgg 3 (c28.getD 0 .u)).bind fun c29 =>
 gtI c29 0 fun n30 =>
 gtI c29 1 fun n31 =>
 gtI c29 2 fun n32 =>
 gtI c28 1 fun n33 =>
 Option.bind p0 fun q34 =>
 (r27.2.st q34.1 (q34.2 + 5) [(.i .i64 n30), (.i .i64 n31), (.i .i64 n32)]).bind fun h35 =>
 Option.bind p0 fun q36 =>
 (h35.st q36.1 (q36.2 + 2) [(.i .i64 0), (.i .i64 0), (.i .i64 0)]).bind fun h37 =>
 Option.bind p0 fun q38 =>
 (h37.st q38.1 (q38.2 + 9) [(.i .i64 0)]).bind fun h39 =>
 some ((.tup []), h39)
 else none
def qn9 : Sm O := qn8 qh2 qn4
theorem qoa : Entered Tryz.prog 52 := Tryz.call52
theorem qob (k100 k101 : Sm O) : run (O := O) Tryz.prog [(100, k100), (101, k101)] Tryz.f52 (.n .z (.n (.d [] [0, 1, 3, 4, 5, 6, 7, 8, 9, 10, 2, 11, 12, 13, 14, 15, 16, 17] [0, 0, 2, 0, 8, 24, 56, 0, 128, 384, 896, 2046, 4094, 8190, 8190, 16383, 49151, 114687]) .z)) = qn8 k100 k101 := by kernel_rfl
theorem qoc : FSound RO Tryz.prog 52 qn9 := sdf (qob _ _) (gcons qh3 qh5 <| gcons qn5 qn7 <| gnil) Tryz.func52 (by kernel_rfl)
def qod (k23 k24 k51 k32 k52 : Sm O) : Sm O := fun xs h =>
 bif Nat.beq xs.length 1 then
 (AV.asP (xs.getD 0 .u)).bind fun p0 =>
 Option.bind p0 fun q1 =>
 ldP h q1.1 q1.2 fun p3 =>
 (k23 [(.p p3)] h).bind fun r4 =>
 (AV.asP r4.1).bind fun p5 =>
 (k24 [(.p p5)] r4.2).bind fun r6 =>
 (AV.asI .i64 r6.1).bind fun n7 =>
 (k51 [(.p p5), (.i .i64 n7)] r6.2).bind fun r8 =>
 (AV.asI .i64 r8.1).bind fun n9 =>
 (bif ((n9 : Int) != 0) then
 some ((.i .i64 n9), r8.2)
 else Option.bind p0 fun q10 =>
 ldP r8.2 q10.1 q10.2 fun p12 =>
 (k32 [(.p p12)] r8.2).bind fun r13 =>
 (AV.asP r13.1).bind fun p14 =>
 (k52 [(.p p14)] r13.2).bind fun r15 =>
 (AV.asTup 0 r15.1).bind fun c16 =>
 some ((.i .i64 0), r15.2))
 else none
def qoe : Sm O := qod qcp qnu qnz qcu qn9
theorem qof : Entered Tryz.prog 11 := Tryz.call11
theorem qog (k23 k24 k51 k32 k52 : Sm O) : run (O := O) Tryz.prog [(23, k23), (24, k24), (51, k51), (32, k32), (52, k52)] Tryz.f11 (.n .z (.n .z (.n (.n .z (.n .z (.n .z .z))) (.n .z .z)))) = qod k23 k24 k51 k32 k52 := by kernel_rfl
theorem qoh : FSound RO Tryz.prog 11 qoe := sdf (qog _ _ _ _ _) (gcons qcq qcs <| gcons qnv qnx <| gcons qn0 qn2 <| gcons qcv qcx <| gcons qoa qoc <| gnil) Tryz.func11 (by kernel_rfl)
def qoi (k143 : Sm O) : Sm O := fun xs h =>
 bif Nat.beq xs.length 3 then
 (AV.asP (xs.getD 0 .u)).bind fun p0 =>
 gtI xs 1 fun n1 =>
 gtI xs 2 fun n2 =>
 Option.bind p0 fun q3 =>
 (h.ld q3.1 (q3.2 + 5)).bind fun w4 =>
 (AV.asB w4).bind fun b5 =>
 (bif (!b5) then
 some ((.i .i64 4), h)
 else Option.bind p0 fun q6 =>
 ldI h q6.1 (q6.2 + 3) fun n8 =>
 ldI h q6.1 ((q6.2 + 3) + 1) fun n10 =>
 (k143 [(.agg [(.i .i64 n8), (.i .i64 n10)]), (.i .i64 n1), (.i .i64 n2)] h).bind fun r11 =>
 (AV.asB r11.1).bind fun b12 =>
 (bif (!b12) then
 some ((.i .i64 11), r11.2)
 else some ((.i .i64 0), r11.2)))
 else none
def qoj : Sm O := qoi qka
theorem qok : Entered Tryz.prog 116 := Tryz.call116
theorem qol (k143 : Sm O) : run (O := O) Tryz.prog [(143, k143)] Tryz.f116 (.n .z (.n (.n (.n .z (.n .z (.n .z (.n .z .z)))) .z) .z)) = qoi k143 := by kernel_rfl
theorem qom : FSound RO Tryz.prog 116 qoj := sdf (qol _) (gcons qkb qkd <| gnil) Tryz.func116 (by kernel_rfl)
def qon (k116 k117 : Sm O) : Sm O := fun xs h =>
 bif Nat.beq xs.length 2 then
 (AV.asP (xs.getD 0 .u)).bind fun p0 =>
 gtI xs 1 fun n1 =>
 (k116 [(.p p0), (.i .i64 n1), (.i .i64 1)] h).bind fun r2 =>
 (AV.asI .i64 r2.1).bind fun n3 =>
 (bif ((n3 : Int) != 0) then
 some ((.tup [(.i .u64 0), (.i .i64 n3)]), r2.2)
 else Option.bind p0 fun q4 =>
 ldP r2.2 q4.1 q4.2 fun p6 =>
 Option.bind p0 fun q7 =>
 ldI r2.2 q7.1 (q7.2 + 3) fun n9 =>
 (k117 [(.p p6), (.i .i64 n9), (.i .i64 n1)] r2.2).bind fun r10 =>
 (AV.asTup 2 r10.1).bind fun c11 =>
 gtU c11 0 fun n12 =>
 gtI c11 1 fun n13 =>
 some ((.tup [(.i .u64 n12), (.i .i64 n13)]), r10.2))
 else none
def qoo : Sm O := qon qoj qgo
theorem qop : Entered Tryz.prog 62 := Tryz.call62
theorem qoq (k116 k117 : Sm O) : run (O := O) Tryz.prog [(116, k116), (117, k117)] Tryz.f62 (.n .z (.n (.n .z (.n .z (.n .z .z))) (.n (.d [] [0, 1, 2, 3, 4, 5, 6, 7, 8, 9, 10, 11, 12, 13, 14] [0, 1, 3, 7, 0, 16, 48, 112, 240, 0, 1023, 2047, 2047, 8191, 16383]) .z))) = qon k116 k117 := by kernel_rfl
theorem qor : FSound RO Tryz.prog 62 qoo := sdf (qoq _ _) (gcons qok qom <| gcons qgp qgr <| gnil) Tryz.func62 (by kernel_rfl)
def qos : Sm O := fun xs h =>
 bif Nat.beq xs.length 0 then
 let h0 := h.bump 1
 let h1 := h0.put h.next (.cells true 195 [(.i .i64 0), (.i .i64 0)])
 (h1.st (.n h.next) 0 [(.i .i64 0), (.i .i64 40)]).bind fun h2 =>
 ldI h2 (.n h.next) 0 fun n4 =>
 ldI h2 (.n h.next) 1 fun n6 =>
 some ((.agg [(.i .i64 n4), (.i .i64 n6)]), h2)
 else none
def qot : Sm O := qos
theorem qou : Entered Tryz.prog 118 := Tryz.call118
theorem qov : run (O := O) Tryz.prog [] Tryz.f118 (.n .z .z) = qos  := by kernel_rfl
theorem qow : FSound RO Tryz.prog 118 qot := sdf qov (gnil) Tryz.func118 (by kernel_rfl)
def qox (k151 : Sm O) : Sm O := fun xs h =>
 bif Nat.beq xs.length 1 then
 gtI xs 0 fun n0 =>
 (k151 [(.i .i64 n0), (.i .i64 4194303)] h).bind fun r1 =>
 (AV.asB r1.1).bind fun b2 =>
 (bif (!b2) then
 some ((.tup [(.i .u64 0), (.i .i64 2)]), r1.2)
 else let v3 : Int := (ibits .or .u64 9223372036854775808 (IntKind.u64.wrap n0))
 some ((.tup [(.i .u64 v3), (.i .i64 0)]), r1.2))
 else none
def qoy : Sm O := qox qc4
theorem qoz : Entered Tryz.prog 104 := Tryz.call104
theorem qo0 (k151 : Sm O) : run (O := O) Tryz.prog [(151, k151)] Tryz.f104 (.n .z (.n (.n .z (.n .z .z)) .z)) = qox k151 := by kernel_rfl
theorem qo1 : FSound RO Tryz.prog 104 qoy := sdf (qo0 _) (gcons qc5 qc7 <| gnil) Tryz.func104 (by kernel_rfl)
def qo2 (k118 k111 k104 : Sm O) : Sm O := fun xs h =>
 bif Nat.beq xs.length 1 then
 gtU xs 0 fun n0 =>
 (k118 [] h).bind fun r1 =>
 (AV.asAgg 2 r1.1).bind fun c2 =>
 gtI c2 0 fun n3 =>
 gtI c2 1 fun n4 =>
 (k111 [(.i .u64 n0), (.agg [(.i .i64 n3), (.i .i64 n4)])] r1.2).bind fun r5 =>
 (AV.asI .u64 r5.1).bind fun n6 =>
 (k104 [(.i .i64 (IntKind.i64.wrap n6))] r5.2).bind fun r7 =>
 (AV.asTup 2 r7.1).bind fun c8 =>
 gtU c8 0 fun n9 =>
 gtI c8 1 fun n10 =>
 ((bif (((n10 : Int) != 0) == false) then
 some ([(.b ((n9 : Int) != n0))], r7.2)
 else some ([(.b true)], r7.2)) : Option (List AV × AH O)).bind fun r11 =>
 (AV.asB (r11.1.getD 0 .u)).bind fun b12 =>
 (bif b12 then
 some ((.tup [(.i .i64 0), (.b false)]), r11.2)
 else some ((.tup [(.i .i64 (IntKind.i64.wrap n6)), (.b true)]), r11.2))
 else none
def qo3 : Sm O := qo2 qot ql3 qoy
theorem qo4 : Entered Tryz.prog 64 := Tryz.call64
theorem qo5 (k118 k111 k104 : Sm O) : run (O := O) Tryz.prog [(118, k118), (111, k111), (104, k104)] Tryz.f64 (.n .z (.n .z (.n (.n .z (.n (.g [(2, 3, [(22, .one .b)])]) (.n .z .z))) .z))) = qo2 k118 k111 k104 := by kernel_rfl
theorem qo6 : FSound RO Tryz.prog 64 qo3 := sdf (qo5 _ _ _) (gcons qou qow <| gcons ql4 ql6 <| gcons qoz qo1 <| gnil) Tryz.func64 (by kernel_rfl)
def qo7 (k156 k157 : Sm O) : Sm O := fun xs h =>
 bif Nat.beq xs.length 6 then
 (AV.asP (xs.getD 0 .u)).bind fun p0 =>
 gtI xs 1 fun n1 =>
 gtI xs 2 fun n2 =>
 gtI xs 3 fun n3 =>
 gtI xs 4 fun n4 =>
 gtI xs 5 fun n5 =>
 (k156 [(.p p0), (.i .i64 n1), (.i .i64 n2), (.i .i64 n5)] h).bind fun r6 =>
 (AV.asTup 2 r6.1).bind fun c7 =>
 gtS c7 0 fun l8 =>
 gtI c7 1 fun n9 =>
 (k156 [(.p p0), (.i .i64 n3), (.i .i64 n4), (.i .i64 n5)] r6.2).bind fun r10 =>
 (AV.asTup 2 r10.1).bind fun c11 =>
 gtS c11 0 fun l12 =>
 gtI c11 1 fun n13 =>
 ((bif (((n9 : Int) == 10) == false) then
 some ([(.b ((n13 : Int) == 10))], r10.2)
 else some ([(.b true)], r10.2)) : Option (List AV × AH O)).bind fun r14 =>
 (AV.asB (r14.1.getD 0 .u)).bind fun b15 =>
 (bif b15 then
 some ((.i .i64 10), r14.2)
 else ((bif (((n9 : Int) != 0) == false) then
 some ([(.b ((n13 : Int) != 0))], r14.2)
 else some ([(.b true)], r14.2)) : Option (List AV × AH O)).bind fun r16 =>
 (AV.asB (r16.1.getD 0 .u)).bind fun b17 =>
 (bif b17 then
 some ((.i .i64 11), r16.2)
 else Option.bind p0 fun q18 =>
 ldP r16.2 q18.1 q18.2 fun p20 =>
 (k157 [(.p p20), (.i .i64 0), (.i .i64 n5)] r16.2).bind fun r21 =>
 (AV.asTup 0 r21.1).bind fun c22 =>
 Option.bind p0 fun q23 =>
 ldP r21.2 q23.1 q23.2 fun p25 =>
 (k157 [(.p p25), (.i .i64 1), (.i .i64 n5)] r21.2).bind fun r26 =>
 (AV.asTup 0 r26.1).bind fun c27 =>
 (bif Nat.beq (min l8.2 l12.2) 0 then
 some ((.i .i64 0), r26.2)
 else
 (r26.2.rdSl l8.1 (min l8.2 l12.2) 1).bind fun c29 =>
 (r26.2.wrSl l12.1 c29).bind fun h30 =>
 some ((.i .i64 0), h30))))
 else none
def qo8 : Sm O := qo7 qfu qge
theorem qo9 : Entered Tryz.prog 150 := Tryz.call150
theorem qpa (k156 k157 : Sm O) : run (O := O) Tryz.prog [(156, k156), (157, k157)] Tryz.f150 (.n .z (.n .z (.n .z (.n (.n (.n (.g [(2, 2, [(39, .one .b)])]) (.n .z (.n (.g [(2, 2, [(46, .one .b)])]) (.n .z .z)))) .z) (.n .z (.n .z (.n .z .z))))))) = qo7 k156 k157 := by kernel_rfl
theorem qpb : FSound RO Tryz.prog 150 qo8 := sdf (qpa _ _) (gcons qfv qfx <| gcons qgf qgh <| gnil) Tryz.func150 (by kernel_rfl)
def qpc (k116 k92 k150 : Sm O) : Sm O := fun xs h =>
 bif Nat.beq xs.length 3 then
 (AV.asP (xs.getD 0 .u)).bind fun p0 =>
 gtI xs 1 fun n1 =>
 gtI xs 2 fun n2 =>
 (k116 [(.p p0), (.i .i64 n1), (.i .i64 n2)] h).bind fun r3 =>
 (AV.asI .i64 r3.1).bind fun n4 =>
 (bif ((n4 : Int) != 0) then
 some ((.tup [(.i .i64 0), (.i .i64 n4)]), r3.2)
 else (k92 [(.p p0), (.i .i64 n2)] r3.2).bind fun r5 =>
 (AV.asTup 2 r5.1).bind fun c6 =>
 gtI c6 0 fun n7 =>
 gtI c6 1 fun n8 =>
 (bif ((n8 : Int) != 0) then
 some ((.tup [(.i .i64 0), (.i .i64 n8)]), r5.2)
 else Option.bind p0 fun q9 =>
 ldP r5.2 q9.1 q9.2 fun p11 =>
 Option.bind p0 fun q12 =>
 ldI r5.2 q12.1 (q12.2 + 3) fun n14 =>
 Option.bind p0 fun q15 =>
 ldI r5.2 q15.1 (q15.2 + 1) fun n17 =>
 (k150 [(.p p11), (.i .i64 n14), (.i .i64 n1), (.i .i64 n17), (.i .i64 n7), (.i .i64 n2)] r5.2).bind fun r18 =>
 (AV.asI .i64 r18.1).bind fun n19 =>
 some ((.tup [(.i .i64 n7), (.i .i64 n19)]), r18.2)))
 else none
def qpd : Sm O := qpc qoj qj5 qo8
theorem qpe : Entered Tryz.prog 102 := Tryz.call102
theorem qpf (k116 k92 k150 : Sm O) : run (O := O) Tryz.prog [(116, k116), (92, k92), (150, k150)] Tryz.f102 (.n .z (.n (.n .z (.n .z (.n .z .z))) (.n .z (.n (.n .z (.n .z .z)) (.n (.d [] [0, 1, 2, 3, 4, 5, 6, 7, 8, 9, 10, 11, 12, 13, 14, 15, 16, 17, 18, 19, 20] [0, 0, 2, 6, 14, 0, 32, 96, 224, 480, 0, 0, 2048, 6144, 14336, 30720, 0, 0, 262142, 524287, 1048575]) .z))))) = qpc k116 k92 k150 := by kernel_rfl
theorem qpg : FSound RO Tryz.prog 102 qpd := sdf (qpf _ _ _) (gcons qok qom <| gcons qj6 qj8 <| gcons qo9 qpb <| gnil) Tryz.func102 (by kernel_rfl)
def qph (k57 k87 : Sm O) : Sm O := fun xs h =>
 bif Nat.beq xs.length 1 then
 gtU xs 0 fun n0 =>
 let h1 := h.bump 1
 (k57 [(.i .u64 n0)] h1).bind fun r2 =>
 (AV.asTup 2 r2.1).bind fun c3 =>
 (AV.asAgg 5 (c3.getD 0 .u)).bind fun c4 =>
 gtI c4 0 fun n5 =>
 gtI c4 1 fun n6 =>
 gtI c4 2 fun n7 =>
 gtI c4 3 fun n8 =>
 (AV.asB (c4.getD 4 .u)).bind fun b9 =>
 gtI c3 1 fun n10 =>
 let h11 := r2.2.put h.next (.cells true 39 [(.i .i64 0), (.i .i64 0), (.i .i64 0), (.i .i64 0), (.b false)])
 (h11.st (.n h.next) 0 [(.i .i64 n5), (.i .i64 n6), (.i .i64 n7), (.i .i64 n8), (.b b9)]).bind fun h12 =>
 (bif ((n10 : Int) != 0) then
 some ((.tup [(.i .u64 0), (.i .i64 n10)]), h12)
 else ldI h12 (.n h.next) 3 fun n14 =>
 let v15 : Int := (if 7 < (IntKind.i64.wrap (n14 + 1)) then 7 else (IntKind.i64.wrap (n14 + 1)))
 (h12.st (.n h.next) 3 [(.i .i64 v15)]).bind fun h16 =>
 ldI h16 (.n h.next) 0 fun n18 =>
 ldI h16 (.n h.next) 1 fun n20 =>
 ldI h16 (.n h.next) 2 fun n22 =>
 ldI h16 (.n h.next) 3 fun n24 =>
 (h16.ld (.n h.next) 4).bind fun w25 =>
 (AV.asB w25).bind fun b26 =>
 (k87 [(.agg [(.i .i64 n18), (.i .i64 n20), (.i .i64 n22), (.i .i64 n24), (.b b26)])] h16).bind fun r27 =>
 (AV.asTup 2 r27.1).bind fun c28 =>
 gtU c28 0 fun n29 =>
 gtI c28 1 fun n30 =>
 some ((.tup [(.i .u64 n29), (.i .i64 n30)]), r27.2))
 else none
def qpi : Sm O := qph ql9 qe0
theorem qpj : Entered Tryz.prog 103 := Tryz.call103
theorem qpk (k57 k87 : Sm O) : run (O := O) Tryz.prog [(57, k57), (87, k87)] Tryz.f103 (.n .z (.n .z (.n (.n .z (.n .z .z)) (.n .z .z)))) = qph k57 k87 := by kernel_rfl
theorem qpl : FSound RO Tryz.prog 103 qpi := sdf (qpk _ _) (gcons qma qmc <| gcons qe1 qe3 <| gnil) Tryz.func103 (by kernel_rfl)
def qpm (k116 k141 : Sm O) : Sm O := fun xs h =>
 bif Nat.beq xs.length 3 then
 (AV.asP (xs.getD 0 .u)).bind fun p0 =>
 gtI xs 1 fun n1 =>
 gtU xs 2 fun n2 =>
 (k116 [(.p p0), (.i .i64 n1), (.i .i64 1)] h).bind fun r3 =>
 (AV.asI .i64 r3.1).bind fun n4 =>
 (bif ((n4 : Int) != 0) then
 some ((.i .i64 n4), r3.2)
 else Option.bind p0 fun q5 =>
 ldP r3.2 q5.1 q5.2 fun p7 =>
 Option.bind p0 fun q8 =>
 ldI r3.2 q8.1 (q8.2 + 3) fun n10 =>
 (k141 [(.p p7), (.i .i64 n10), (.i .i64 n1), (.i .u64 n2)] r3.2).bind fun r11 =>
 (AV.asI .i64 r11.1).bind fun n12 =>
 some ((.i .i64 n12), r11.2))
 else none
def qpn : Sm O := qpm qoj qgj
theorem qpo : Entered Tryz.prog 105 := Tryz.call105
theorem qpp (k116 k141 : Sm O) : run (O := O) Tryz.prog [(116, k116), (141, k141)] Tryz.f105 (.n .z (.n (.n .z (.n .z (.n .z .z))) (.n (.d [] [0, 1, 2, 3, 4, 5, 6, 7, 8, 9, 10, 11, 12] [0, 1, 3, 7, 0, 16, 48, 112, 240, 0, 0, 2047, 4095]) .z))) = qpm k116 k141 := by kernel_rfl
theorem qpq : FSound RO Tryz.prog 105 qpn := sdf (qpp _ _) (gcons qok qom <| gcons qgk qgm <| gnil) Tryz.func105 (by kernel_rfl)
def qpr : Sm O := fun xs h =>
 bif Nat.beq xs.length 2 then
 (AV.asAgg 5 (xs.getD 0 .u)).bind fun c0 =>
 gtI c0 0 fun n1 =>
 gtI c0 1 fun n2 =>
 gtI c0 2 fun n3 =>
 gtI c0 3 fun n4 =>
 (AV.asB (c0.getD 4 .u)).bind fun b5 =>
 let h6 := h.bump 1
 let h7 := h6.put h.next (.cells true 39 [(.i .i64 n1), (.i .i64 n2), (.i .i64 n3), (.i .i64 n4), (.b b5)])
 let h8 := h7.bump 2
 (AV.asPS (xs.getD 1 .u)).bind fun q9 =>
 ldS h8 q9.1 q9.2 fun l11 =>
 ldI h8 (.n h.next) 0 fun n13 =>
 ldI h8 (.n h.next) 1 fun n15 =>
 ldI h8 (.n h.next) 2 fun n17 =>
 ldI h8 (.n h.next) 3 fun n19 =>
 (h8.ld (.n h.next) 4).bind fun w20 =>
 (AV.asB w20).bind fun b21 =>
 let h22 := h8.put h7.next (.cells true 39 [(.i .i64 n13), (.i .i64 n15), (.i .i64 n17), (.i .i64 n19), (.b b21)])
 (h22.rdSl (.loc (.n h7.next) 0 5) 1 5).bind fun new23 =>
 (bif (Nat.ble ((l11.2 + 1) * 41) 35184372088832) then
 (h22.appSl (h7.next + 1) 39 5 l11.1 l11.2 1 new23).bind fun r24 =>
 (AV.asSl r24.1).bind fun l25 =>
 (AV.asPS (xs.getD 1 .u)).bind fun q26 =>
 (r24.2.st q26.1 q26.2 [(.sl l25.1 l25.2)]).bind fun h27 =>
 some ((.tup []), h27)
 else none)
 else none
def qps : Sm O := qpr
theorem qpt : Entered Tryz.prog 15 := Tryz.call15
theorem qpu : run (O := O) Tryz.prog [] Tryz.f15 .z = qpr  := by kernel_rfl
theorem qpv : FSound RO Tryz.prog 15 qps := sdf qpu (gnil) Tryz.func15 (by kernel_rfl)
def qpw (k57 k50 k15 : Sm O) : Sm O := fun xs h =>
 bif Nat.beq xs.length 2 then
 (AV.asP (xs.getD 0 .u)).bind fun p0 =>
 gtU xs 1 fun n1 =>
 let h2 := h.bump 1
 (k57 [(.i .u64 n1)] h2).bind fun r3 =>
 (AV.asTup 2 r3.1).bind fun c4 =>
 (AV.asAgg 5 (c4.getD 0 .u)).bind fun c5 =>
 gtI c5 0 fun n6 =>
 gtI c5 1 fun n7 =>
 gtI c5 2 fun n8 =>
 gtI c5 3 fun n9 =>
 (AV.asB (c5.getD 4 .u)).bind fun b10 =>
 gtI c4 1 fun n11 =>
 let h12 := r3.2.put h.next (.cells true 39 [(.i .i64 0), (.i .i64 0), (.i .i64 0), (.i .i64 0), (.b false)])
 (h12.st (.n h.next) 0 [(.i .i64 n6), (.i .i64 n7), (.i .i64 n8), (.i .i64 n9), (.b b10)]).bind fun h13 =>
 Option.bind p0 fun q14 =>
 ldI h13 q14.1 (q14.2 + 2) fun n16 =>
 Option.bind p0 fun q17 =>
 (h13.st q17.1 (q17.2 + 2) [(.i .i64 (IntKind.i64.wrap (n16 + 1)))]).bind fun h18 =>
 Option.bind p0 fun q19 =>
 (h18.ld q19.1 (q19.2 + 1)).bind fun w20 =>
 (AV.asF w20).bind fun f21 =>
 ldI h18 (.n h.next) 0 fun n23 =>
 ldI h18 (.n h.next) 1 fun n25 =>
 ldI h18 (.n h.next) 2 fun n27 =>
 ldI h18 (.n h.next) 3 fun n29 =>
 (h18.ld (.n h.next) 4).bind fun w30 =>
 (AV.asB w30).bind fun b31 =>
 (callV [(57, k57), (50, k50), (15, k15)] f21 [(.agg [(.i .i64 n23), (.i .i64 n25), (.i .i64 n27), (.i .i64 n29), (.b b31)])] h18).bind fun r32 =>
 (AV.asTup 0 r32.1).bind fun c33 =>
 some ((.tup []), r32.2)
 else none
def qpx : Sm O := qpw ql9 qnf qps
theorem qpy : Entered Tryz.prog 106 := Tryz.call106
theorem qpz (k57 k50 k15 : Sm O) : run (O := O) Tryz.prog [(57, k57), (50, k50), (15, k15)] Tryz.f106 (.n .z (.n .z (.d [] [0, 1, 2, 3, 4, 5] [0, 1, 3, 7, 0, 31]))) = qpw k57 k50 k15 := by kernel_rfl
theorem qp0 : FSound RO Tryz.prog 106 qpx := sdf (qpz _ _ _) (gcons qma qmc <| gcons qng qni <| gcons qpt qpv <| gnil) Tryz.func106 (by kernel_rfl)
def qp1 (k23 k63 k62 k64 k65 k57 k89 k102 k103 k93 k104 k105 k106 : Sm O) : Sm O := fun xs h =>
 bif Nat.beq xs.length 2 then
 (AV.asP (xs.getD 0 .u)).bind fun p0 =>
 gtU xs 1 fun n1 =>
 Option.bind p0 fun q2 =>
 ldP h q2.1 q2.2 fun p4 =>
 (k23 [(.p p4)] h).bind fun r5 =>
 (AV.asP r5.1).bind fun p6 =>
 (k63 [(.i .u64 n1)] r5.2).bind fun r7 =>
 (AV.asI .i64 r7.1).bind fun n8 =>
 (k62 [(.p p6), (.i .i64 n8)] r7.2).bind fun r9 =>
 (AV.asTup 2 r9.1).bind fun c10 =>
 gtU c10 0 fun n11 =>
 gtI c10 1 fun n12 =>
 (bif ((n12 : Int) != 0) then
 some ((.i .u64 n1), r9.2)
 else (k64 [(.i .u64 n11)] r9.2).bind fun r13 =>
 (AV.asTup 2 r13.1).bind fun c14 =>
 gtI c14 0 fun n15 =>
 (AV.asB (c14.getD 1 .u)).bind fun b16 =>
 (bif b16 then
 (k65 [(.i .i64 n15)] r13.2).bind fun r17 =>
 (AV.asTup 2 r17.1).bind fun c18 =>
 gtU c18 0 fun n19 =>
 gtI c18 1 fun n20 =>
 some ((.i .u64 n19), r17.2)
 else let h21 := r13.2.bump 1
 (k57 [(.i .u64 n11)] h21).bind fun r22 =>
 (AV.asTup 2 r22.1).bind fun c23 =>
 (AV.asAgg 5 (c23.getD 0 .u)).bind fun c24 =>
 gtI c24 0 fun n25 =>
 gtI c24 1 fun n26 =>
 gtI c24 2 fun n27 =>
 gtI c24 3 fun n28 =>
 (AV.asB (c24.getD 4 .u)).bind fun b29 =>
 gtI c23 1 fun n30 =>
 let h31 := r22.2.put r13.2.next (.cells true 39 [(.i .i64 0), (.i .i64 0), (.i .i64 0), (.i .i64 0), (.b false)])
 (h31.st (.n r13.2.next) 0 [(.i .i64 n25), (.i .i64 n26), (.i .i64 n27), (.i .i64 n28), (.b b29)]).bind fun h32 =>
 (bif ((n30 : Int) != 0) then
 some ((.i .u64 n1), h32)
 else ldI h32 (.n r13.2.next) 0 fun n34 =>
 ldI h32 (.n r13.2.next) 1 fun n36 =>
 ldI h32 (.n r13.2.next) 2 fun n38 =>
 ldI h32 (.n r13.2.next) 3 fun n40 =>
 (h32.ld (.n r13.2.next) 4).bind fun w41 =>
 (AV.asB w41).bind fun b42 =>
 (k63 [(.i .u64 n1)] h32).bind fun r43 =>
 (AV.asI .i64 r43.1).bind fun n44 =>
 (chkE (r43.2.ld (.n r13.2.next) 0) (some (.i .i64 n34))).bind fun _ =>
 (chkE (r43.2.ld (.n r13.2.next) 1) (some (.i .i64 n36))).bind fun _ =>
 (chkE (r43.2.ld (.n r13.2.next) 2) (some (.i .i64 n38))).bind fun _ =>
 (chkE (r43.2.ld (.n r13.2.next) 3) (some (.i .i64 n40))).bind fun _ =>
 (chkE (r43.2.ld (.n r13.2.next) 4) (some (.b b42))).bind fun _ =>
 (k89 [(.agg [(.i .i64 n34), (.i .i64 n36), (.i .i64 n38), (.i .i64 n40), (.b b42)])] r43.2).bind fun r45 =>
 (AV.asI .i64 r45.1).bind fun n46 =>
 (k102 [(.p p6), (.i .i64 n44), (.i .i64 n46)] r45.2).bind fun r47 =>
 (AV.asTup 2 r47.1).bind fun c48 =>
 gtI c48 0 fun n49 =>
 gtI c48 1 fun n50 =>
 (bif ((n50 : Int) != 0) then
 some ((.i .u64 n1), r47.2)
 else (k103 [(.i .u64 n11)] r47.2).bind fun r51 =>
 (AV.asTup 2 r51.1).bind fun c52 =>
 gtU c52 0 fun n53 =>
 gtI c52 1 fun n54 =>
 (k93 [(.p p6), (.i .i64 n49), (.i .u64 n53)] r51.2).bind fun r55 =>
 (AV.asI .i64 r55.1).bind fun n56 =>
 (k104 [(.i .i64 n49)] r55.2).bind fun r57 =>
 (AV.asTup 2 r57.1).bind fun c58 =>
 gtU c58 0 fun n59 =>
 gtI c58 1 fun n60 =>
 (k63 [(.i .u64 n1)] r57.2).bind fun r61 =>
 (AV.asI .i64 r61.1).bind fun n62 =>
 (k105 [(.p p6), (.i .i64 n62), (.i .u64 n59)] r61.2).bind fun r63 =>
 (AV.asI .i64 r63.1).bind fun n64 =>
 (k106 [(.p p0), (.i .u64 n53)] r63.2).bind fun r65 =>
 (AV.asTup 0 r65.1).bind fun c66 =>
 (k65 [(.i .i64 n49)] r65.2).bind fun r67 =>
 (AV.asTup 2 r67.1).bind fun c68 =>
 gtU c68 0 fun n69 =>
 gtI c68 1 fun n70 =>
 some ((.i .u64 n69), r67.2)))))
 else none
def qp2 : Sm O := qp1 qcp qlj qoo qo3 qkk ql9 qdj qpd qpi qkf qoy qpn qpx
theorem qp3 : Entered Tryz.prog 54 := Tryz.call54
theorem qp4 (k23 k63 k62 k64 k65 k57 k89 k102 k103 k93 k104 k105 k106 : Sm O) : run (O := O) Tryz.prog [(23, k23), (63, k63), (62, k62), (64, k64), (65, k65), (57, k57), (89, k89), (102, k102), (103, k103), (93, k93), (104, k104), (105, k105), (106, k106)] Tryz.f54 (.n .z (.n .z (.n .z (.n (.n .z (.n .z .z)) (.n (.n .z (.n .z (.n (.n .z .z) .z))) (.n .z (.n (.n .z (.n .z .z)) (.n (.d [] [0, 1, 3, 2, 4, 5, 6, 7, 8, 9, 10] [0, 0, 2, 0, 14, 31, 63, 127, 127, 255, 1023]) (.n (.n .z (.n .z .z)) (.n .z (.n .z (.n .z (.n .z (.n .z (.n .z .z))))))))))))))) = qp1 k23 k63 k62 k64 k65 k57 k89 k102 k103 k93 k104 k105 k106 := by kernel_rfl
theorem qp5 : FSound RO Tryz.prog 54 qp2 := sdf (qp4 _ _ _ _ _ _ _ _ _ _ _ _ _) (gcons qcq qcs <| gcons qlk qlm <| gcons qop qor <| gcons qo4 qo6 <| gcons qkl qkn <| gcons qma qmc <| gcons qdk qdm <| gcons qpe qpg <| gcons qpj qpl <| gcons qkg qki <| gcons qoz qo1 <| gcons qpo qpq <| gcons qpy qp0 <| gnil) Tryz.func54 (by kernel_rfl)
def qp6 (k119 : Sm O) : Sm O := fun xs h =>
 bif Nat.beq xs.length 2 then
 (AV.asP (xs.getD 0 .u)).bind fun p0 =>
 gtI xs 1 fun n1 =>
 Option.bind p0 fun q2 =>
 ldP h q2.1 (q2.2 + 1) fun p4 =>
 (k119 [(.p p4), (.i .i64 n1), (.i .i64 4)] h).bind fun r5 =>
 (AV.asTup 2 r5.1).bind fun c6 =>
 gtU c6 0 fun n7 =>
 gtI c6 1 fun n8 =>
 ((bif (((n8 : Int) == 0) == true) then
 Option.bind p0 fun q9 =>
 ldU r5.2 q9.1 (q9.2 + 8) fun n11 =>
 some ([(.b ((n7 : Int) == n11))], r5.2)
 else some ([(.b false)], r5.2)) : Option (List AV × AH O)).bind fun r12 =>
 (AV.asB (r12.1.getD 0 .u)).bind fun b13 =>
 some ((.tup [(.b b13), (.i .i64 n8)]), r12.2)
 else none
def qp7 : Sm O := qp6 qjg
theorem qp8 : Entered Tryz.prog 66 := Tryz.call66
theorem qp9 (k119 : Sm O) : run (O := O) Tryz.prog [(119, k119)] Tryz.f66 (.n .z (.n .z (.n (.g [(2, 6, [(26, .one .b)])]) .z))) = qp6 k119 := by kernel_rfl
theorem qqa : FSound RO Tryz.prog 66 qp7 := sdf (qp9 _) (gcons qjh qjj <| gnil) Tryz.func66 (by kernel_rfl)
def qqb (k178 k117 : Sm O) : Sm O := fun xs h =>
 bif Nat.beq xs.length 3 then
 (AV.asAgg 5 (xs.getD 0 .u)).bind fun c0 =>
 (AV.asP (c0.getD 0 .u)).bind fun p1 =>
 gtI c0 1 fun n2 =>
 gtI c0 2 fun n3 =>
 gtI c0 3 fun n4 =>
 gtI c0 4 fun n5 =>
 gtI xs 1 fun n6 =>
 gtI xs 2 fun n7 =>
 let h8 := h.bump 1
 let h9 := h8.put h.next (.cells true 184 [(.p p1), (.i .i64 n2), (.i .i64 n3), (.i .i64 n4), (.i .i64 n5)])
 ldP h9 (.n h.next) 0 fun p11 =>
 ldI h9 (.n h.next) 1 fun n13 =>
 ldP h9 (.n h.next) 0 fun p15 =>
 ldI h9 (.n h.next) 1 fun n17 =>
 ldI h9 (.n h.next) 2 fun n19 =>
 ldI h9 (.n h.next) 3 fun n21 =>
 ldI h9 (.n h.next) 4 fun n23 =>
 (k178 [(.agg [(.p p15), (.i .i64 n17), (.i .i64 n19), (.i .i64 n21), (.i .i64 n23)]), (.i .i64 n6), (.i .i64 n7)] h9).bind fun r24 =>
 (AV.asI .i64 r24.1).bind fun n25 =>
 (chkE (r24.2.ld (.n h.next) 0) (some (.p p11))).bind fun _ =>
 (chkE (r24.2.ld (.n h.next) 1) (some (.i .i64 n13))).bind fun _ =>
 (k117 [(.p p11), (.i .i64 n13), (.i .i64 n25)] r24.2).bind fun r26 =>
 (AV.asTup 2 r26.1).bind fun c27 =>
 gtU c27 0 fun n28 =>
 gtI c27 1 fun n29 =>
 some ((.i .i64 (IntKind.i64.wrap n28)), r26.2)
 else none
def qqc : Sm O := qqb qiw qgo
theorem qqd : Entered Tryz.prog 166 := Tryz.call166
theorem qqe (k178 k117 : Sm O) : run (O := O) Tryz.prog [(178, k178), (117, k117)] Tryz.f166 (.n .z (.n (.d [] [0, 1, 2, 3, 4, 5, 6, 7, 8, 9, 10, 11, 12, 13] [0, 1, 0, 4, 0, 0, 0, 112, 255, 511, 1023, 1023, 2047, 8191]) .z)) = qqb k178 k117 := by kernel_rfl
theorem qqf : FSound RO Tryz.prog 166 qqc := sdf (qqe _ _) (gcons qix qiz <| gcons qgp qgr <| gnil) Tryz.func166 (by kernel_rfl)
def qqg (k165 k166 k149 : Sm O) : Sm O := fun xs h =>
 bif Nat.beq xs.length 3 then
 (AV.asAgg 5 (xs.getD 0 .u)).bind fun c0 =>
 (AV.asP (c0.getD 0 .u)).bind fun p1 =>
 gtI c0 1 fun n2 =>
 gtI c0 2 fun n3 =>
 gtI c0 3 fun n4 =>
 gtI c0 4 fun n5 =>
 (AV.asAgg 3 (xs.getD 1 .u)).bind fun c6 =>
 gtI c6 0 fun n7 =>
 gtI c6 1 fun n8 =>
 gtI c6 2 fun n9 =>
 gtI xs 2 fun n10 =>
 let h11 := h.bump 3
 let h12 := h11.put h.next (.cells true 184 [(.p p1), (.i .i64 n2), (.i .i64 n3), (.i .i64 n4), (.i .i64 n5)])
 let h13 := h12.put (h.next + 1) (.cells true 155 [(.i .i64 n7), (.i .i64 n8), (.i .i64 n9)])
 let h14 := h13.put ((h.next + 1) + 1) (.cells true 155 [(.i .i64 0), (.i .i64 0), (.i .i64 0)])
 ldP h14 (.n h.next) 0 fun p16 =>
 ldI h14 (.n h.next) 1 fun n18 =>
 ldI h14 (.n h.next) 2 fun n20 =>
 ldI h14 (.n h.next) 3 fun n22 =>
 ldI h14 (.n h.next) 4 fun n24 =>
 (k165 [(.agg [(.p p16), (.i .i64 n18), (.i .i64 n20), (.i .i64 n22), (.i .i64 n24)]), (.i .i64 n10)] h14).bind fun r25 =>
 (AV.asI .i64 r25.1).bind fun n26 =>
 (bif ((n26 : Int) != 0) then
 ldI r25.2 (.n (h.next + 1)) 0 fun n28 =>
 ldI r25.2 (.n (h.next + 1)) 1 fun n30 =>
 ldI r25.2 (.n (h.next + 1)) 2 fun n32 =>
 (r25.2.st (.n ((h.next + 1) + 1)) 0 [(.i .i64 n28), (.i .i64 n30), (.i .i64 n32)]).bind fun h33 =>
 ldI h33 (.n ((h.next + 1) + 1)) 0 fun n35 =>
 ldI h33 (.n ((h.next + 1) + 1)) 1 fun n37 =>
 ldI h33 (.n ((h.next + 1) + 1)) 2 fun n39 =>
 some ((.tup [(.agg [(.i .i64 n35), (.i .i64 n37), (.i .i64 n39)]), (.i .i64 n26)]), h33)
 else ldP r25.2 (.n h.next) 0 fun p41 =>
 ldI r25.2 (.n h.next) 1 fun n43 =>
 ldI r25.2 (.n h.next) 2 fun n45 =>
 ldI r25.2 (.n h.next) 3 fun n47 =>
 ldI r25.2 (.n h.next) 4 fun n49 =>
 ldI r25.2 (.n h.next) 3 fun n51 =>
 ldP r25.2 (.n h.next) 0 fun p53 =>
 ldI r25.2 (.n h.next) 1 fun n55 =>
 ldI r25.2 (.n h.next) 2 fun n57 =>
 ldI r25.2 (.n h.next) 3 fun n59 =>
 ldI r25.2 (.n h.next) 4 fun n61 =>
 ldI r25.2 (.n h.next) 4 fun n63 =>
 (k166 [(.agg [(.p p41), (.i .i64 n43), (.i .i64 n45), (.i .i64 n47), (.i .i64 n49)]), (.i .i64 n10), (.i .i64 n51)] r25.2).bind fun r64 =>
 (AV.asI .i64 r64.1).bind fun n65 =>
 (chkE (r64.2.ld (.n h.next) 0) (some (.p p53))).bind fun _ =>
 (chkE (r64.2.ld (.n h.next) 1) (some (.i .i64 n55))).bind fun _ =>
 (chkE (r64.2.ld (.n h.next) 2) (some (.i .i64 n57))).bind fun _ =>
 (chkE (r64.2.ld (.n h.next) 3) (some (.i .i64 n59))).bind fun _ =>
 (chkE (r64.2.ld (.n h.next) 4) (some (.i .i64 n61))).bind fun _ =>
 (chkE (r64.2.ld (.n h.next) 4) (some (.i .i64 n63))).bind fun _ =>
 (k166 [(.agg [(.p p53), (.i .i64 n55), (.i .i64 n57), (.i .i64 n59), (.i .i64 n61)]), (.i .i64 n10), (.i .i64 n63)] r64.2).bind fun r66 =>
 (AV.asI .i64 r66.1).bind fun n67 =>
 ((bif ((n67 : Int) != 0) then
 ldP r66.2 (.n h.next) 0 fun p69 =>
 ldI r66.2 (.n h.next) 1 fun n71 =>
 ldI r66.2 (.n h.next) 2 fun n73 =>
 ldI r66.2 (.n h.next) 3 fun n75 =>
 ldI r66.2 (.n h.next) 4 fun n77 =>
 ldI r66.2 (.n h.next) 3 fun n79 =>
 (k149 [(.agg [(.p p69), (.i .i64 n71), (.i .i64 n73), (.i .i64 n75), (.i .i64 n77)]), (.i .i64 n67), (.i .i64 n79), (.i .i64 n65)] r66.2).bind fun r80 =>
 (AV.asTup 0 r80.1).bind fun c81 =>
 some ([], r80.2)
 else (r66.2.st (.n (h.next + 1)) 0 [(.i .i64 n65)]).bind fun h82 =>
 some ([], h82)) : Option (List AV × AH O)).bind fun r83 =>
 ((bif ((n65 : Int) != 0) then
 ldP r83.2 (.n h.next) 0 fun p85 =>
 ldI r83.2 (.n h.next) 1 fun n87 =>
 ldI r83.2 (.n h.next) 2 fun n89 =>
 ldI r83.2 (.n h.next) 3 fun n91 =>
 ldI r83.2 (.n h.next) 4 fun n93 =>
 ldI r83.2 (.n h.next) 4 fun n95 =>
 (k149 [(.agg [(.p p85), (.i .i64 n87), (.i .i64 n89), (.i .i64 n91), (.i .i64 n93)]), (.i .i64 n65), (.i .i64 n95), (.i .i64 n67)] r83.2).bind fun r96 =>
 (AV.asTup 0 r96.1).bind fun c97 =>
 some ([], r96.2)
 else (r83.2.st (.n (h.next + 1)) 1 [(.i .i64 n67)]).bind fun h98 =>
 some ([], h98)) : Option (List AV × AH O)).bind fun r99 =>
 ldI r99.2 (.n (h.next + 1)) 2 fun n101 =>
 (r99.2.st (.n (h.next + 1)) 2 [(.i .i64 (IntKind.i64.wrap (n101 - 1)))]).bind fun h102 =>
 ldI h102 (.n (h.next + 1)) 0 fun n104 =>
 ldI h102 (.n (h.next + 1)) 1 fun n106 =>
 ldI h102 (.n (h.next + 1)) 2 fun n108 =>
 (h102.st (.n ((h.next + 1) + 1)) 0 [(.i .i64 n104), (.i .i64 n106), (.i .i64 n108)]).bind fun h109 =>
 ldI h109 (.n ((h.next + 1) + 1)) 0 fun n111 =>
 ldI h109 (.n ((h.next + 1) + 1)) 1 fun n113 =>
 ldI h109 (.n ((h.next + 1) + 1)) 2 fun n115 =>
 some ((.tup [(.agg [(.i .i64 n111), (.i .i64 n113), (.i .i64 n115)]), (.i .i64 0)]), h109))
 else none
def qqh : Sm O := qqg qir qqc qi1
theorem qqi : Entered Tryz.prog 152 := Tryz.call152
theorem qqj (k165 k166 k149 : Sm O) : run (O := O) Tryz.prog [(165, k165), (166, k166), (149, k149)] Tryz.f152 (.n .z (.n (.n .z (.n .z (.n .z .z))) (.n (.d [] [0, 1, 2, 3, 5, 6, 7, 8, 4, 9, 10, 11] [0, 0, 0, 4, 15, 0, 0, 0, 128, 511, 1023, 2047]) (.n (.n .z (.j false [] .z .z)) (.n (.n .z (.j false [] .z .z)) (.n .z .z)))))) = qqg k165 k166 k149 := by kernel_rfl
theorem qqk : FSound RO Tryz.prog 152 qqh := sdf (qqj _ _ _) (gcons qis qiu <| gcons qqd qqf <| gcons qi2 qi4 <| gnil) Tryz.func152 (by kernel_rfl)
def qql (k66 k100 k152 k132 k130 : Sm O) : Sm O := fun xs h =>
 bif Nat.beq xs.length 2 then
 (AV.asP (xs.getD 0 .u)).bind fun p0 =>
 gtI xs 1 fun n1 =>
 (k66 [(.p p0), (.i .i64 n1)] h).bind fun r2 =>
 (AV.asTup 2 r2.1).bind fun c3 =>
 (AV.asB (c3.getD 0 .u)).bind fun b4 =>
 gtI c3 1 fun n5 =>
 ((bif (b4 == false) then
 some ([(.b ((n5 : Int) != 0))], r2.2)
 else some ([(.b true)], r2.2)) : Option (List AV × AH O)).bind fun r6 =>
 (AV.asB (r6.1.getD 0 .u)).bind fun b7 =>
 (bif b7 then
 some ((.tup [(.b false), (.i .i64 n5)]), r6.2)
 else Option.bind p0 fun q8 =>
 ldI r6.2 q8.1 (q8.2 + 5) fun n10 =>
 ldI r6.2 q8.1 ((q8.2 + 5) + 1) fun n12 =>
 ldI r6.2 q8.1 (((q8.2 + 5) + 1) + 1) fun n14 =>
 (k100 [(.p p0)] r6.2).bind fun r15 =>
 (AV.asAgg 5 r15.1).bind fun c16 =>
 (AV.asP (c16.getD 0 .u)).bind fun p17 =>
 gtI c16 1 fun n18 =>
 gtI c16 2 fun n19 =>
 gtI c16 3 fun n20 =>
 gtI c16 4 fun n21 =>
 (chkE (r15.2.ld q8.1 (q8.2 + 5)) (some (.i .i64 n10))).bind fun _ =>
 (chkE (r15.2.ld q8.1 ((q8.2 + 5) + 1)) (some (.i .i64 n12))).bind fun _ =>
 (chkE (r15.2.ld q8.1 (((q8.2 + 5) + 1) + 1)) (some (.i .i64 n14))).bind fun _ =>
 (k152 [(.agg [(.p p17), (.i .i64 n18), (.i .i64 n19), (.i .i64 n20), (.i .i64 n21)]), (.agg [(.i .i64 n10), (.i .i64 n12), (.i .i64 n14)]), (.i .i64 n1)] r15.2).bind fun r22 =>
 (AV.asTup 2 r22.1).bind fun c23 =>
 (AV.asAgg 3 (c23.getD 0 .u)).bind fun c24 =>
 gtI c24 0 fun n25 =>
 gtI c24 1 fun n26 =>
 gtI c24 2 fun n27 =>
 gtI c23 1 fun n28 =>
 Option.bind p0 fun q29 =>
 (r22.2.st q29.1 (q29.2 + 5) [(.i .i64 n25), (.i .i64 n26), (.i .i64 n27)]).bind fun h30 =>
 Option.bind p0 fun q31 =>
 ldI h30 q31.1 (q31.2 + 2) fun n33 =>
 ldI h30 q31.1 ((q31.2 + 2) + 1) fun n35 =>
 ldI h30 q31.1 (((q31.2 + 2) + 1) + 1) fun n37 =>
 (k100 [(.p p0)] h30).bind fun r38 =>
 (AV.asAgg 5 r38.1).bind fun c39 =>
 (AV.asP (c39.getD 0 .u)).bind fun p40 =>
 gtI c39 1 fun n41 =>
 gtI c39 2 fun n42 =>
 gtI c39 3 fun n43 =>
 gtI c39 4 fun n44 =>
 (chkE (r38.2.ld q31.1 (q31.2 + 2)) (some (.i .i64 n33))).bind fun _ =>
 (chkE (r38.2.ld q31.1 ((q31.2 + 2) + 1)) (some (.i .i64 n35))).bind fun _ =>
 (chkE (r38.2.ld q31.1 (((q31.2 + 2) + 1) + 1)) (some (.i .i64 n37))).bind fun _ =>
 (k132 [(.agg [(.p p40), (.i .i64 n41), (.i .i64 n42), (.i .i64 n43), (.i .i64 n44)]), (.agg [(.i .i64 n33), (.i .i64 n35), (.i .i64 n37)]), (.i .i64 n1)] r38.2).bind fun r45 =>
 (AV.asTup 2 r45.1).bind fun c46 =>
 (AV.asAgg 3 (c46.getD 0 .u)).bind fun c47 =>
 gtI c47 0 fun n48 =>
 gtI c47 1 fun n49 =>
 gtI c47 2 fun n50 =>
 gtI c46 1 fun n51 =>
 Option.bind p0 fun q52 =>
 (r45.2.st q52.1 (q52.2 + 2) [(.i .i64 n48), (.i .i64 n49), (.i .i64 n50)]).bind fun h53 =>
 Option.bind p0 fun q54 =>
 ldP h53 q54.1 (q54.2 + 1) fun p56 =>
 Option.bind p0 fun q57 =>
 ldU h53 q57.1 (q57.2 + 8) fun n59 =>
 (k130 [(.p p56), (.i .i64 n1), (.i .i64 4), (.i .u64 n59)] h53).bind fun r60 =>
 (AV.asI .i64 r60.1).bind fun n61 =>
 some ((.tup [(.b true), (.i .i64 n61)]), r60.2))
 else none
def qqm : Sm O := qql qp7 qh2 qqh qi6 qhs
theorem qqn : Entered Tryz.prog 107 := Tryz.call107
theorem qqo (k66 k100 k152 k132 k130 : Sm O) : run (O := O) Tryz.prog [(66, k66), (100, k100), (152, k152), (132, k132), (130, k130)] Tryz.f107 (.n .z (.n .z (.n (.n (.g [(1, 2, [(18, .one .b)])]) (.n .z .z)) (.n (.d [] [0, 1, 3, 4, 5, 6, 7, 2, 8, 9, 10, 11, 12, 13, 14] [0, 0, 2, 0, 8, 24, 56, 0, 254, 510, 1022, 1022, 2047, 6143, 14335]) (.n (.d [] [0, 1, 3, 4, 5, 6, 7, 2, 8, 9, 10, 11, 12, 13, 14] [0, 0, 2, 0, 8, 24, 56, 0, 254, 510, 1022, 1022, 2047, 6143, 14335]) (.n (.d [] [0, 1, 2, 3, 4, 5, 6, 7, 8, 9, 10, 11] [0, 1, 3, 7, 0, 0, 32, 96, 224, 511, 1023, 2047]) .z)))))) = qql k66 k100 k152 k132 k130 := by kernel_rfl
theorem qqp : FSound RO Tryz.prog 107 qqm := sdf (qqo _ _ _ _ _) (gcons qp8 qqa <| gcons qh3 qh5 <| gcons qqi qqk <| gcons qi7 qi9 <| gcons qht qhv <| gnil) Tryz.func107 (by kernel_rfl)
def qqq (k32 k63 k107 k108 k103 k90 k106 : Sm O) : Sm O := fun xs h =>
 bif Nat.beq xs.length 2 then
 (AV.asP (xs.getD 0 .u)).bind fun p0 =>
 gtU xs 1 fun n1 =>
 Option.bind p0 fun q2 =>
 ldP h q2.1 q2.2 fun p4 =>
 (k32 [(.p p4)] h).bind fun r5 =>
 (AV.asP r5.1).bind fun p6 =>
 (k63 [(.i .u64 n1)] r5.2).bind fun r7 =>
 (AV.asI .i64 r7.1).bind fun n8 =>
 (k107 [(.p p6), (.i .i64 n8)] r7.2).bind fun r9 =>
 (AV.asTup 2 r9.1).bind fun c10 =>
 (AV.asB (c10.getD 0 .u)).bind fun b11 =>
 gtI c10 1 fun n12 =>
 (bif (!b11) then
 some ((.tup []), r9.2)
 else (k63 [(.i .u64 n1)] r9.2).bind fun r13 =>
 (AV.asI .i64 r13.1).bind fun n14 =>
 (k108 [(.p p6), (.i .i64 n14), (.i .i64 0)] r13.2).bind fun r15 =>
 (AV.asTup 2 r15.1).bind fun c16 =>
 gtU c16 0 fun n17 =>
 gtI c16 1 fun n18 =>
 (k103 [(.i .u64 n17)] r15.2).bind fun r19 =>
 (AV.asTup 2 r19.1).bind fun c20 =>
 gtU c20 0 fun n21 =>
 gtI c20 1 fun n22 =>
 (bif ((n22 : Int) != 0) then
 some ((.tup []), r19.2)
 else (k63 [(.i .u64 n1)] r19.2).bind fun r23 =>
 (AV.asI .i64 r23.1).bind fun n24 =>
 (k90 [(.p p6), (.i .i64 n24), (.i .i64 0), (.i .u64 n21)] r23.2).bind fun r25 =>
 (AV.asI .i64 r25.1).bind fun n26 =>
 (k106 [(.p p0), (.i .u64 n21)] r25.2).bind fun r27 =>
 (AV.asTup 0 r27.1).bind fun c28 =>
 some ((.tup []), r27.2)))
 else none
def qqr : Sm O := qqq qcu qlj qqm qlt qpi qjl qpx
theorem qqs : Entered Tryz.prog 55 := Tryz.call55
theorem qqt (k32 k63 k107 k108 k103 k90 k106 : Sm O) : run (O := O) Tryz.prog [(32, k32), (63, k63), (107, k107), (108, k108), (103, k103), (90, k90), (106, k106)] Tryz.f55 (.n .z (.n (.n .z (.n .z .z)) (.n .z (.n .z (.n (.n .z .z) .z))))) = qqq k32 k63 k107 k108 k103 k90 k106 := by kernel_rfl
theorem qqu : FSound RO Tryz.prog 55 qqr := sdf (qqt _ _ _ _ _ _ _) (gcons qcv qcx <| gcons qlk qlm <| gcons qqn qqp <| gcons qlu qlw <| gcons qpj qpl <| gcons qjm qjo <| gcons qpy qp0 <| gnil) Tryz.func55 (by kernel_rfl)
def qqv (k53 k54 k55 : Sm O) : Sm O := fun xs h =>
 bif Nat.beq xs.length 2 then
 (AV.asP (xs.getD 0 .u)).bind fun p0 =>
 gtU xs 1 fun n1 =>
 (k53 [(.i .u64 n1)] h).bind fun r2 =>
 (AV.asI .i64 r2.1).bind fun n3 =>
 (bif ((n3 : Int) == 1) then
 (k54 [(.p p0), (.i .u64 n1)] r2.2).bind fun r4 =>
 (AV.asI .u64 r4.1).bind fun n5 =>
 some ((.i .u64 n5), r4.2)
 else ((bif ((n3 : Int) == 2) then
 (k55 [(.p p0), (.i .u64 n1)] r2.2).bind fun r6 =>
 (AV.asTup 0 r6.1).bind fun c7 =>
 some ([], r6.2)
 else some ([], r2.2)) : Option (List AV × AH O)).bind fun r8 =>
 some ((.i .u64 n1), r8.2))
 else none
def qqw : Sm O := qqv qle qp2 qqr
theorem qqx : Entered Tryz.prog 12 := Tryz.call12
theorem qqy (k53 k54 k55 : Sm O) : run (O := O) Tryz.prog [(53, k53), (54, k54), (55, k55)] Tryz.f12 (.n .z (.n (.n .z (.n (.n .z (.n .z (.n .z (.j false [] .z .z)))) .z)) .z)) = qqv k53 k54 k55 := by kernel_rfl
theorem qqz : FSound RO Tryz.prog 12 qqw := sdf (qqy _ _ _) (gcons qlf qlh <| gcons qp3 qp5 <| gcons qqs qqu <| gnil) Tryz.func12 (by kernel_rfl)
def qq0 : Sm O := fun xs h =>
 bif Nat.beq xs.length 1 then
 (AV.asP (xs.getD 0 .u)).bind fun p0 =>
 Option.bind p0 fun q1 =>
 ldI h q1.1 (q1.2 + 2) fun n3 =>
 some ((.i .i64 n3), h)
 else none
def qq1 : Sm O := qq0
theorem qq2 : Entered Tryz.prog 22 := Tryz.call22
theorem qq3 : run (O := O) Tryz.prog [] Tryz.f22 (.n .z .z) = qq0  := by kernel_rfl
theorem qq4 : FSound RO Tryz.prog 22 qq1 := sdf qq3 (gnil) Tryz.func22 (by kernel_rfl)
def qq5 (k53 k23 k63 k62 k64 k65 k32 k66 : Sm O) : Sm O := fun xs h =>
 bif Nat.beq xs.length 2 then
 (AV.asP (xs.getD 0 .u)).bind fun p0 =>
 gtU xs 1 fun n1 =>
 (k53 [(.i .u64 n1)] h).bind fun r2 =>
 (AV.asI .i64 r2.1).bind fun n3 =>
 bindS (S := List AV × AH O) (R := (AV × AH O)) ((bif ((n3 : Int) == 1) then
 Option.bind p0 fun q4 =>
 ldP r2.2 q4.1 q4.2 fun p6 =>
 (k23 [(.p p6)] r2.2).bind fun r7 =>
 (AV.asP r7.1).bind fun p8 =>
 (k63 [(.i .u64 n1)] r7.2).bind fun r9 =>
 (AV.asI .i64 r9.1).bind fun n10 =>
 (k62 [(.p p8), (.i .i64 n10)] r9.2).bind fun r11 =>
 (AV.asTup 2 r11.1).bind fun c12 =>
 gtU c12 0 fun n13 =>
 gtI c12 1 fun n14 =>
 (k64 [(.i .u64 n13)] r11.2).bind fun r15 =>
 (AV.asTup 2 r15.1).bind fun c16 =>
 gtI c16 0 fun n17 =>
 (AV.asB (c16.getD 1 .u)).bind fun b18 =>
 (bif b18 then
 (k65 [(.i .i64 n17)] r15.2).bind fun r19 =>
 (AV.asTup 2 r19.1).bind fun c20 =>
 gtU c20 0 fun n21 =>
 gtI c20 1 fun n22 =>
 ((some ((.i .u64 n21), r19.2) : Option (AV × AH O)).map Sum.inr)
 else some (Sum.inl ([], r15.2)))
 else bindS (S := List AV × AH O) (R := ((List AV × AH O) ⊕ (AV × AH O))) ((bif ((n3 : Int) == 2) then
 Option.bind p0 fun q23 =>
 ldP r2.2 q23.1 q23.2 fun p25 =>
 (k32 [(.p p25)] r2.2).bind fun r26 =>
 (AV.asP r26.1).bind fun p27 =>
 (k63 [(.i .u64 n1)] r26.2).bind fun r28 =>
 (AV.asI .i64 r28.1).bind fun n29 =>
 (k66 [(.p p27), (.i .i64 n29)] r28.2).bind fun r30 =>
 (AV.asTup 2 r30.1).bind fun c31 =>
 (AV.asB (c31.getD 0 .u)).bind fun b32 =>
 gtI c31 1 fun n33 =>
 (bif b32 then
 ((((some ((.i .u64 n1), r30.2) : Option (AV × AH O)).map Sum.inr) : Option ((List AV × AH O) ⊕ (AV × AH O))).map Sum.inr)
 else some (Sum.inl ([], r30.2)))
 else some (Sum.inl ([], r2.2)))) fun r34 =>
 some (Sum.inl ([], r34.2)))) fun r35 =>
 some ((.i .u64 0), r35.2)
 else none
def qq6 : Sm O := qq5 qle qcp qlj qoo qo3 qkk qcu qp7
theorem qq7 : Entered Tryz.prog 25 := Tryz.call25
theorem qq8 (k53 k23 k63 k62 k64 k65 k32 k66 : Sm O) : run (O := O) Tryz.prog [(53, k53), (23, k23), (63, k63), (62, k62), (64, k64), (65, k65), (32, k32), (66, k66)] Tryz.f25 (.n .z (.n (.n .z (.n (.n .z (.j true [] (.n .z (.n .z (.n .z (.n (.n .z .z) .z)))) (.n .z (.j true [] (.n .z (.n .z (.n .z .z))) .z)))) .z)) .z)) = qq5 k53 k23 k63 k62 k64 k65 k32 k66 := by kernel_rfl
theorem qq9 : FSound RO Tryz.prog 25 qq6 := sdf (qq8 _ _ _ _ _ _ _ _) (gcons qlf qlh <| gcons qcq qcs <| gcons qlk qlm <| gcons qop qor <| gcons qo4 qo6 <| gcons qkl qkn <| gcons qcv qcx <| gcons qp8 qqa <| gnil) Tryz.func25 (by kernel_rfl)
def qra (k9 k10 k44 k11 k12 k22 k25 : Sm O) : Sm O := fun xs h =>
 bif Nat.beq xs.length 0 then
 let h0 := h.bump 1
 let h1 := h0.put h.next (.cells true 73 [(.i .i64 1), (.i .i64 1), (.i .u8 0), (.i .u64 0), (.i .i64 1), (.i .i64 1), (.i .u8 0), (.i .u64 0)])
 (k9 [(.sl (.loc (.n h.next) 0 4) 2)] h1).bind fun r2 =>
 (AV.asTup 3 r2.1).bind fun c3 =>
 (AV.asP (c3.getD 0 .u)).bind fun p4 =>
 gtS c3 1 fun l5 =>
 (AV.asB (c3.getD 2 .u)).bind fun b6 =>
 (bif (!b6) then
 some ((.b false), r2.2)
 else (k10 [(.p p4), (.fn none)] r2.2).bind fun r7 =>
 (AV.asP r7.1).bind fun p8 =>
 ((bif ((Option.isNone p8) == false) then
 (k44 [(.p p8)] r7.2).bind fun r9 =>
 (AV.asP r9.1).bind fun p10 =>
 some ([(.b (Option.isNone p10))], r9.2)
 else some ([(.b true)], r7.2)) : Option (List AV × AH O)).bind fun r11 =>
 (AV.asB (r11.1.getD 0 .u)).bind fun b12 =>
 ((bif (b12 == false) then
 (k11 [(.p p8)] r11.2).bind fun r13 =>
 (AV.asI .i64 r13.1).bind fun n14 =>
 some ([(.b ((n14 : Int) != 0))], r13.2)
 else some ([(.b true)], r11.2)) : Option (List AV × AH O)).bind fun r15 =>
 (AV.asB (r15.1.getD 0 .u)).bind fun b16 =>
 (bif b16 then
 some ((.b false), r15.2)
 else (bif (decide ((1 : Int) < (l5.2 : Int))) then
 (SA.ref l5.1).bind fun q17 =>
 ldU r15.2 q17.1 ((q17.2 + 8) + 7) fun n19 =>
 (k12 [(.p p8), (.i .u64 n19)] r15.2).bind fun r20 =>
 (AV.asI .u64 r20.1).bind fun n21 =>
 ((bif (((n21 : Int) == 1) == true) then
 (k12 [(.p p8), (.i .u64 n19)] r20.2).bind fun r22 =>
 (AV.asI .u64 r22.1).bind fun n23 =>
 some ([(.b ((n23 : Int) == 1))], r22.2)
 else some ([(.b false)], r20.2)) : Option (List AV × AH O)).bind fun r24 =>
 (AV.asB (r24.1.getD 0 .u)).bind fun b25 =>
 ((bif (b25 == true) then
 (k22 [(.p p8)] r24.2).bind fun r26 =>
 (AV.asI .i64 r26.1).bind fun n27 =>
 some ([(.b ((n27 : Int) == 1))], r26.2)
 else some ([(.b false)], r24.2)) : Option (List AV × AH O)).bind fun r28 =>
 (AV.asB (r28.1.getD 0 .u)).bind fun b29 =>
 ((bif (b29 == true) then
 (bif (decide ((0 : Int) < (l5.2 : Int))) then
 (SA.ref l5.1).bind fun q30 =>
 ldU r28.2 q30.1 (q30.2 + 7) fun n32 =>
 (k25 [(.p p8), (.i .u64 n32)] r28.2).bind fun r33 =>
 (AV.asI .u64 r33.1).bind fun n34 =>
 some ([(.b ((n34 : Int) == 0))], r33.2)
 else none)
 else some ([(.b false)], r28.2)) : Option (List AV × AH O)).bind fun r35 =>
 (AV.asB (r35.1.getD 0 .u)).bind fun b36 =>
 some ((.b b36), r35.2)
 else none)))
 else none
def qrb : Sm O := qra qna qnk qnp qoe qqw qq1 qq6
theorem qrc : Entered Tryz.prog 8 := Tryz.call8
theorem qrd (k9 k10 k44 k11 k12 k22 k25 : Sm O) : run (O := O) Tryz.prog [(9, k9), (10, k10), (44, k44), (11, k11), (12, k12), (22, k22), (25, k25)] Tryz.f8 (.n .z (.n .z (.n (.n .z (.n .z .z)) (.n .z (.n (.n (.g [(2, 3, [(26, .one .b)]), (7, 3, [(31, .one .b)])]) (.n .z .z)) (.n .z (.n (.g [(4, 4, [(45, .one .b)]), (10, 3, [(50, .one .b)]), (15, 7, [(59, .one .b)])]) .z))))))) = qra k9 k10 k44 k11 k12 k22 k25 := by kernel_rfl
theorem qre : FSound RO Tryz.prog 8 qrb := sdf (qrd _ _ _ _ _ _ _) (gcons qnb qnd <| gcons qnl qnn <| gcons qnq qns <| gcons qof qoh <| gcons qqx qqz <| gcons qq2 qq4 <| gcons qq7 qq9 <| gnil) Tryz.func8 (by kernel_rfl)
def qrf : Sm O := fun xs h =>
 bif Nat.beq xs.length 1 then
 (AV.asAgg 5 (xs.getD 0 .u)).bind fun c0 =>
 gtI c0 0 fun n1 =>
 gtI c0 1 fun n2 =>
 gtI c0 2 fun n3 =>
 gtI c0 3 fun n4 =>
 (AV.asB (c0.getD 4 .u)).bind fun b5 =>
 let h6 := h.bump 2
 let h7 := h6.put h.next (.cells true 39 [(.i .i64 n1), (.i .i64 n2), (.i .i64 n3), (.i .i64 n4), (.b b5)])
 let h8 := h7.put (h.next + 1) (.cells true 39 [(.i .i64 0), (.i .i64 0), (.i .i64 0), (.i .i64 0), (.b false)])
 ldI h8 (.n h.next) 3 fun n10 =>
 ((bif (decide (n10 < 7)) then
 ldI h8 (.n h.next) 3 fun n12 =>
 (h8.st (.n h.next) 3 [(.i .i64 (IntKind.i64.wrap (n12 + 1)))]).bind fun h13 =>
 some ([], h13)
 else some ([], h8)) : Option (List AV × AH O)).bind fun r14 =>
 ldI r14.2 (.n h.next) 0 fun n16 =>
 ldI r14.2 (.n h.next) 1 fun n18 =>
 ldI r14.2 (.n h.next) 2 fun n20 =>
 ldI r14.2 (.n h.next) 3 fun n22 =>
 (r14.2.ld (.n h.next) 4).bind fun w23 =>
 (AV.asB w23).bind fun b24 =>
 (r14.2.st (.n (h.next + 1)) 0 [(.i .i64 n16), (.i .i64 n18), (.i .i64 n20), (.i .i64 n22), (.b b24)]).bind fun h25 =>
 ldI h25 (.n (h.next + 1)) 0 fun n27 =>
 ldI h25 (.n (h.next + 1)) 1 fun n29 =>
 ldI h25 (.n (h.next + 1)) 2 fun n31 =>
 ldI h25 (.n (h.next + 1)) 3 fun n33 =>
 (h25.ld (.n (h.next + 1)) 4).bind fun w34 =>
 (AV.asB w34).bind fun b35 =>
 some ((.agg [(.i .i64 n27), (.i .i64 n29), (.i .i64 n31), (.i .i64 n33), (.b b35)]), h25)
 else none
def qrg : Sm O := qrf
theorem qrh : Entered Tryz.prog 14 := Tryz.call14
theorem qri : run (O := O) Tryz.prog [] Tryz.f14 (.n .z (.n (.n .z (.j false [] .z .z)) .z)) = qrf  := by kernel_rfl
theorem qrj : FSound RO Tryz.prog 14 qrg := sdf qri (gnil) Tryz.func14 (by kernel_rfl)
def qrk : Sm O := fun xs h =>
 bif Nat.beq xs.length 2 then
 (AV.asP (xs.getD 0 .u)).bind fun p0 =>
 gtI xs 1 fun n1 =>
 let h2 := h.bump 1
 let h3 := h2.put h.next (.cells true 51 [(.i .u64 0), (.i .u64 0)])
 ((bif ((Option.isNone p0) == false) then
 some ([(.b (decide (n1 < 0)))], h3)
 else some ([(.b true)], h3)) : Option (List AV × AH O)).bind fun r4 =>
 (AV.asB (r4.1.getD 0 .u)).bind fun b5 =>
 ((bif (b5 == false) then
 some ([(.b (decide (n1 >= 2)))], r4.2)
 else some ([(.b true)], r4.2)) : Option (List AV × AH O)).bind fun r6 =>
 (AV.asB (r6.1.getD 0 .u)).bind fun b7 =>
 (bif b7 then
 (r6.2.st (.n h.next) 0 [(.i .u64 0), (.i .u64 0)]).bind fun h8 =>
 ldU h8 (.n h.next) 0 fun n10 =>
 ldU h8 (.n h.next) 1 fun n12 =>
 some ((.agg [(.i .u64 n10), (.i .u64 n12)]), h8)
 else Option.bind p0 fun q13 =>
 (bif ((decide ((0 : Int) <= n1)) && (decide (n1 < 2))) then
 ldU r6.2 q13.1 (q13.2 + (n1.toNat * 2)) fun n15 =>
 ldU r6.2 q13.1 ((q13.2 + (n1.toNat * 2)) + 1) fun n17 =>
 (r6.2.st (.n h.next) 0 [(.i .u64 n15), (.i .u64 n17)]).bind fun h18 =>
 ldU h18 (.n h.next) 0 fun n20 =>
 ldU h18 (.n h.next) 1 fun n22 =>
 some ((.agg [(.i .u64 n20), (.i .u64 n22)]), h18)
 else none))
 else none
def qrl : Sm O := qrk
theorem qrm : Entered Tryz.prog 59 := Tryz.call59
theorem qrn : run (O := O) Tryz.prog [] Tryz.f59 (.n .z (.n (.n (.g [(2, 2, [(10, .one .b)]), (6, 2, [(14, .one .b)])]) (.n .z .z)) .z)) = qrk  := by kernel_rfl
theorem qro : FSound RO Tryz.prog 59 qrl := sdf qrn (gnil) Tryz.func59 (by kernel_rfl)
def qrp (k59 k58 : Sm O) : Sm O := fun xs h =>
 bif Nat.beq xs.length 1 then
 (AV.asP (xs.getD 0 .u)).bind fun p0 =>
 let h1 := h.bump 1
 let h2 := h1.put h.next (.cells true 51 [(.i .u64 0), (.i .u64 0)])
 let h3 := h2.bump 1
 (k59 [(.p p0), (.i .i64 0)] h3).bind fun r4 =>
 (AV.asAgg 2 r4.1).bind fun c5 =>
 gtU c5 0 fun n6 =>
 gtU c5 1 fun n7 =>
 (k59 [(.p p0), (.i .i64 1)] r4.2).bind fun r8 =>
 (AV.asAgg 2 r8.1).bind fun c9 =>
 gtU c9 0 fun n10 =>
 gtU c9 1 fun n11 =>
 (k58 [(.agg [(.i .u64 n6), (.i .u64 n7)]), (.agg [(.i .u64 n10), (.i .u64 n11)])] r8.2).bind fun r12 =>
 (AV.asTup 2 r12.1).bind fun c13 =>
 (AV.asAgg 2 (c13.getD 0 .u)).bind fun c14 =>
 gtU c14 0 fun n15 =>
 gtU c14 1 fun n16 =>
 (AV.asB (c13.getD 1 .u)).bind fun b17 =>
 let h18 := r12.2.put h2.next (.cells true 51 [(.i .u64 0), (.i .u64 0)])
 (h18.st (.n h2.next) 0 [(.i .u64 n15), (.i .u64 n16)]).bind fun h19 =>
 ldU h19 (.n h2.next) 0 fun n21 =>
 ldU h19 (.n h2.next) 1 fun n23 =>
 (h19.st (.n h.next) 0 [(.i .u64 n21), (.i .u64 n23)]).bind fun h24 =>
 ldU h24 (.n h.next) 0 fun n26 =>
 ldU h24 (.n h.next) 1 fun n28 =>
 some ((.agg [(.i .u64 n26), (.i .u64 n28)]), h24)
 else none
def qrq : Sm O := qrp qrl qf9
theorem qrr : Entered Tryz.prog 17 := Tryz.call17
theorem qrs (k59 k58 : Sm O) : run (O := O) Tryz.prog [(59, k59), (58, k58)] Tryz.f17 (.n .z (.n .z .z)) = qrp k59 k58 := by kernel_rfl
theorem qrt : FSound RO Tryz.prog 17 qrq := sdf (qrs _ _) (gcons qrm qro <| gcons qga qgc <| gnil) Tryz.func17 (by kernel_rfl)
def qru : Sm O := fun xs h =>
 bif Nat.beq xs.length 2 then
 (AV.asAgg 2 (xs.getD 0 .u)).bind fun c0 =>
 gtU c0 0 fun n1 =>
 gtU c0 1 fun n2 =>
 (AV.asAgg 2 (xs.getD 1 .u)).bind fun c3 =>
 gtU c3 0 fun n4 =>
 gtU c3 1 fun n5 =>
 let h6 := h.bump 2
 let h7 := h6.put h.next (.cells true 51 [(.i .u64 n1), (.i .u64 n2)])
 let h8 := h7.put (h.next + 1) (.cells true 51 [(.i .u64 n4), (.i .u64 n5)])
 ldU h8 (.n h.next) 0 fun n10 =>
 ldU h8 (.n h.next) 1 fun n12 =>
 ldU h8 (.n (h.next + 1)) 0 fun n14 =>
 ldU h8 (.n (h.next + 1)) 1 fun n16 =>
 (bif (((n10 : Int) == n14) && (((n12 : Int) == n16) && true)) then
 some ((.i .i64 0), h8)
 else ldU h8 (.n h.next) 0 fun n18 =>
 ldU h8 (.n (h.next + 1)) 0 fun n20 =>
 ((bif ((decide (n18 < n20)) == false) then
 ldU h8 (.n h.next) 0 fun n22 =>
 ldU h8 (.n (h.next + 1)) 0 fun n24 =>
 ((bif (((n22 : Int) == n24) == true) then
 ldU h8 (.n h.next) 1 fun n26 =>
 ldU h8 (.n (h.next + 1)) 1 fun n28 =>
 some ([(.b (decide (n26 < n28)))], h8)
 else some ([(.b false)], h8)) : Option (List AV × AH O)).bind fun r29 =>
 (AV.asB (r29.1.getD 0 .u)).bind fun b30 =>
 some ([(.b b30)], r29.2)
 else some ([(.b true)], h8)) : Option (List AV × AH O)).bind fun r31 =>
 (AV.asB (r31.1.getD 0 .u)).bind fun b32 =>
 (bif b32 then
 some ((.i .i64 (-1)), r31.2)
 else some ((.i .i64 1), r31.2)))
 else none
def qrv : Sm O := qru
theorem qrw : Entered Tryz.prog 155 := Tryz.call155
theorem qrx : run (O := O) Tryz.prog [] Tryz.f155 (.n .z (.n (.n (.n .z (.n .z (.n (.g [(5, 12, [(28, .one .b)]), (11, 5, [(27, .one .b)])]) (.n .z .z)))) .z) .z)) = qru  := by kernel_rfl
theorem qry : FSound RO Tryz.prog 155 qrv := sdf qrx (gnil) Tryz.func155 (by kernel_rfl)
def qrz (k155 : Sm O) : Sm O := fun xs h =>
 bif Nat.beq xs.length 2 then
 (AV.asAgg 2 (xs.getD 0 .u)).bind fun c0 =>
 gtU c0 0 fun n1 =>
 gtU c0 1 fun n2 =>
 (AV.asAgg 2 (xs.getD 1 .u)).bind fun c3 =>
 gtU c3 0 fun n4 =>
 gtU c3 1 fun n5 =>
 let h6 := h.bump 2
 let h7 := h6.put h.next (.cells true 51 [(.i .u64 n1), (.i .u64 n2)])
 let h8 := h7.put (h.next + 1) (.cells true 51 [(.i .u64 n4), (.i .u64 n5)])
 ldU h8 (.n h.next) 0 fun n10 =>
 ldU h8 (.n h.next) 1 fun n12 =>
 ldU h8 (.n (h.next + 1)) 0 fun n14 =>
 ldU h8 (.n (h.next + 1)) 1 fun n16 =>
 (k155 [(.agg [(.i .u64 n10), (.i .u64 n12)]), (.agg [(.i .u64 n14), (.i .u64 n16)])] h8).bind fun r17 =>
 (AV.asI .i64 r17.1).bind fun n18 =>
 some ((.b (decide (n18 < 0))), r17.2)
 else none
def qr0 : Sm O := qrz qrv
theorem qr1 : Entered Tryz.prog 114 := Tryz.call114
theorem qr2 (k155 : Sm O) : run (O := O) Tryz.prog [(155, k155)] Tryz.f114 (.n .z .z) = qrz k155 := by kernel_rfl
theorem qr3 : FSound RO Tryz.prog 114 qr0 := sdf (qr2 _) (gcons qrw qry <| gnil) Tryz.func114 (by kernel_rfl)
def qr4 (k114 k115 : Sm O) : Sm O := fun xs h =>
 bif Nat.beq xs.length 2 then
 (AV.asAgg 2 (xs.getD 0 .u)).bind fun c0 =>
 gtU c0 0 fun n1 =>
 gtU c0 1 fun n2 =>
 (AV.asAgg 2 (xs.getD 1 .u)).bind fun c3 =>
 gtU c3 0 fun n4 =>
 gtU c3 1 fun n5 =>
 let h6 := h.bump 3
 let h7 := h6.put h.next (.cells true 51 [(.i .u64 n1), (.i .u64 n2)])
 let h8 := h7.put (h.next + 1) (.cells true 51 [(.i .u64 n4), (.i .u64 n5)])
 let h9 := h8.put ((h.next + 1) + 1) (.cells true 51 [(.i .u64 0), (.i .u64 0)])
 ldU h9 (.n h.next) 0 fun n11 =>
 ldU h9 (.n h.next) 1 fun n13 =>
 ldU h9 (.n (h.next + 1)) 0 fun n15 =>
 ldU h9 (.n (h.next + 1)) 1 fun n17 =>
 (k114 [(.agg [(.i .u64 n11), (.i .u64 n13)]), (.agg [(.i .u64 n15), (.i .u64 n17)])] h9).bind fun r18 =>
 (AV.asB r18.1).bind fun b19 =>
 (bif b19 then
 (r18.2.st (.n ((h.next + 1) + 1)) 0 [(.i .u64 0), (.i .u64 0)]).bind fun h20 =>
 ldU h20 (.n ((h.next + 1) + 1)) 0 fun n22 =>
 ldU h20 (.n ((h.next + 1) + 1)) 1 fun n24 =>
 some ((.tup [(.agg [(.i .u64 n22), (.i .u64 n24)]), (.b false)]), h20)
 else ldU r18.2 (.n h.next) 1 fun n26 =>
 ldU r18.2 (.n (h.next + 1)) 1 fun n28 =>
 (k115 [(.i .u64 n26), (.i .u64 n28), (.i .u64 0)] r18.2).bind fun r29 =>
 (AV.asTup 2 r29.1).bind fun c30 =>
 gtU c30 0 fun n31 =>
 gtU c30 1 fun n32 =>
 ldU r29.2 (.n h.next) 0 fun n34 =>
 ldU r29.2 (.n (h.next + 1)) 0 fun n36 =>
 (k115 [(.i .u64 n34), (.i .u64 n36), (.i .u64 n32)] r29.2).bind fun r37 =>
 (AV.asTup 2 r37.1).bind fun c38 =>
 gtU c38 0 fun n39 =>
 gtU c38 1 fun n40 =>
 (r37.2.st (.n ((h.next + 1) + 1)) 0 [(.i .u64 n39), (.i .u64 n31)]).bind fun h41 =>
 ldU h41 (.n ((h.next + 1) + 1)) 0 fun n43 =>
 ldU h41 (.n ((h.next + 1) + 1)) 1 fun n45 =>
 some ((.tup [(.agg [(.i .u64 n43), (.i .u64 n45)]), (.b true)]), h41))
 else none
def qr5 : Sm O := qr4 qr0 bits_Sub64
theorem qr6 : Entered Tryz.prog 61 := Tryz.call61
theorem qr7 (k114 k115 : Sm O) : run (O := O) Tryz.prog [(114, k114), (115, k115)] Tryz.f61 (.n .z (.n (.n .z (.n .z .z)) (.n .z (.n .z .z)))) = qr4 k114 k115 := by kernel_rfl
theorem qr8 : FSound RO Tryz.prog 61 qr5 := sdf (qr7 _ _) (gcons qr1 qr3 <| gext qbd <| gnil) Tryz.func61 (by kernel_rfl)
def qr9 (k17 k61 : Sm O) : Sm O := fun xs h =>
 bif Nat.beq xs.length 2 then
 (AV.asP (xs.getD 0 .u)).bind fun p0 =>
 (AV.asAgg 2 (xs.getD 1 .u)).bind fun c1 =>
 gtU c1 0 fun n2 =>
 gtU c1 1 fun n3 =>
 let h4 := h.bump 2
 let h5 := h4.put h.next (.cells true 51 [(.i .u64 n2), (.i .u64 n3)])
 let h6 := h5.put (h.next + 1) (.cells true 51 [(.i .u64 0), (.i .u64 0)])
 let h7 := h6.bump 1
 ldU h7 (.n h.next) 0 fun n9 =>
 ldU h7 (.n h.next) 1 fun n11 =>
 (k17 [(.p p0)] h7).bind fun r12 =>
 (AV.asAgg 2 r12.1).bind fun c13 =>
 gtU c13 0 fun n14 =>
 gtU c13 1 fun n15 =>
 (chkE (r12.2.ld (.n h.next) 0) (some (.i .u64 n9))).bind fun _ =>
 (chkE (r12.2.ld (.n h.next) 1) (some (.i .u64 n11))).bind fun _ =>
 (k61 [(.agg [(.i .u64 n14), (.i .u64 n15)]), (.agg [(.i .u64 n9), (.i .u64 n11)])] r12.2).bind fun r16 =>
 (AV.asTup 2 r16.1).bind fun c17 =>
 (AV.asAgg 2 (c17.getD 0 .u)).bind fun c18 =>
 gtU c18 0 fun n19 =>
 gtU c18 1 fun n20 =>
 (AV.asB (c17.getD 1 .u)).bind fun b21 =>
 let h22 := r16.2.put h6.next (.cells true 51 [(.i .u64 0), (.i .u64 0)])
 (h22.st (.n h6.next) 0 [(.i .u64 n19), (.i .u64 n20)]).bind fun h23 =>
 ldU h23 (.n h6.next) 0 fun n25 =>
 ldU h23 (.n h6.next) 1 fun n27 =>
 (h23.st (.n (h.next + 1)) 0 [(.i .u64 n25), (.i .u64 n27)]).bind fun h28 =>
 ldU h28 (.n (h.next + 1)) 0 fun n30 =>
 ldU h28 (.n (h.next + 1)) 1 fun n32 =>
 some ((.agg [(.i .u64 n30), (.i .u64 n32)]), h28)
 else none
def qsa : Sm O := qr9 qrq qr5
theorem qsb : Entered Tryz.prog 19 := Tryz.call19
theorem qsc (k17 k61 : Sm O) : run (O := O) Tryz.prog [(17, k17), (61, k61)] Tryz.f19 (.n .z (.n (.d [] [0, 2, 1, 3, 4, 5, 6, 7, 8, 9] [0, 1, 0, 7, 15, 31, 31, 0, 191, 511]) .z)) = qr9 k17 k61 := by kernel_rfl
theorem qsd : FSound RO Tryz.prog 19 qsa := sdf (qsc _ _) (gcons qrr qrt <| gcons qr6 qr8 <| gnil) Tryz.func19 (by kernel_rfl)
def qse : Sm O := fun xs h =>
 bif Nat.beq xs.length 1 then
 (AV.asAgg 2 (xs.getD 0 .u)).bind fun c0 =>
 gtU c0 0 fun n1 =>
 gtU c0 1 fun n2 =>
 let h3 := h.bump 2
 let h4 := h3.put h.next (.cells true 51 [(.i .u64 n1), (.i .u64 n2)])
 let h5 := h4.put (h.next + 1) (.cells true 130 [(.i .u64 0), (.i .u64 0), (.i .u64 0), (.i .u64 0), (.i .u64 0), (.i .u64 0)])
 ldU h5 (.n h.next) 1 fun n7 =>
 ldU h5 (.n h.next) 1 fun n9 =>
 ldU h5 (.n h.next) 0 fun n11 =>
 ldU h5 (.n h.next) 0 fun n13 =>
 (h5.st (.n (h.next + 1)) 0 [(.i .u64 (Int.tmod n7 4294967296)), (.i .u64 (IntKind.u64.wrap (Int.tdiv n9 4294967296))), (.i .u64 (Int.tmod n11 4294967296)), (.i .u64 (IntKind.u64.wrap (Int.tdiv n13 4294967296))), (.i .u64 0), (.i .u64 0)]).bind fun h14 =>
 ldU h14 (.n (h.next + 1)) 0 fun n16 =>
 ldU h14 (.n (h.next + 1)) 1 fun n18 =>
 ldU h14 (.n (h.next + 1)) 2 fun n20 =>
 ldU h14 (.n (h.next + 1)) 3 fun n22 =>
 ldU h14 (.n (h.next + 1)) 4 fun n24 =>
 ldU h14 (.n (h.next + 1)) 5 fun n26 =>
 some ((.agg [(.i .u64 n16), (.i .u64 n18), (.i .u64 n20), (.i .u64 n22), (.i .u64 n24), (.i .u64 n26)]), h14)
 else none
def qsf : Sm O := qse
theorem qsg : Entered Tryz.prog 60 := Tryz.call60
theorem qsh : run (O := O) Tryz.prog [] Tryz.f60 (.n .z .z) = qse  := by kernel_rfl
theorem qsi : FSound RO Tryz.prog 60 qsf := sdf qsh (gnil) Tryz.func60 (by kernel_rfl)
end
end Go.Abs.Tryz
