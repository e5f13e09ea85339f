/-
  What functions of the program do. No conditions.
-/
import Derived.Test.YtgddikandbkmpaaDoorAbsExtern
import Derived.Test.YtgddikandbkmpaaDoorAbsWord
import Derived.Test.YtgddikandbkmpaaDoorS10s
import Derived.Test.YtgddikandbkmpaaDoorProg
import Derived.KernelRfl
set_option linter.unusedVariables false
set_option linter.unusedSimpArgs false
set_option linter.constructorNameAsVariable false
set_option maxRecDepth 100000
namespace Go.Abs.Tryd
open Go Go.Abs Go.Proofs
noncomputable section
variable {O : Type} {RO : O → Loc → (Nat → Option Obj) → Prop}
theorem mixed : Tryd.prog.follows .mixedOrders = true := by kernel_rfl
theorem sdf {G : List (FuncId × Sm O)} {f : FuncId} {fn : Func} {an : Ann} {s : Sm O} (e : run Tryd.prog G fn an = s) (hG : GSound RO Tryd.prog G) (hf : Tryd.prog.funcs[f]? = some fn) (hk : fnOK fn = true) : FSound RO Tryd.prog f s := e ▸ run_sound hG mixed hf hk an
abbrev T_canon_Form : Nat := 25
abbrev T_haymowref40_Form : Nat := 30
def stringslite_HasPrefix_c : Sm O := fun xs h =>
 bif Nat.beq xs.length 2 then
 (AV.asS (xs.getD 0 .u)).bind fun s0 =>
 (AV.asS (xs.getD 1 .u)).bind fun s1 =>
 ((bif ((decide ((s0.length : Int) ≥ (s1.length : Int))) == true) then
 (bif ((decide ((0 : Int) ≤ (s1.length : Int))) && (decide ((s1.length : Int) ≤ (s0.length : Int)))) then
 let c2 : Bool := (((s0.drop 0).take ((s1.length : Int).toNat - 0)) == s1)
 some ([(.b c2)], h)
 else none)
 else some ([(.b false)], h)) : Option (List AV × AH O)).bind fun r3 =>
 (AV.asB (r3.1.getD 0 .u)).bind fun b4 =>
 some ((.b b4), r3.2)
 else none
def stringslite_HasPrefix : Sm O := stringslite_HasPrefix_c
theorem stringslite_HasPrefix_ent : Entered Tryd.prog 42 := Tryd.call42
theorem stringslite_HasPrefix_run : run (O := O) Tryd.prog [] Tryd.f42 (.n .z (.n (.g [(5, 6, [(17, .one .b)])]) .z)) = stringslite_HasPrefix_c  := by kernel_rfl
theorem stringslite_HasPrefix_sound : FSound RO Tryd.prog 42 stringslite_HasPrefix := sdf stringslite_HasPrefix_run (gnil) Tryd.func42 (by kernel_rfl)
def strings_HasPrefix_c (k42 : Sm O) : Sm O := fun xs h =>
 bif Nat.beq xs.length 2 then
 (AV.asS (xs.getD 0 .u)).bind fun s0 =>
 (AV.asS (xs.getD 1 .u)).bind fun s1 =>
 (k42 [(.s s0), (.s s1)] h).bind fun r2 =>
 (AV.asB r2.1).bind fun b3 =>
 some ((.b b3), r2.2)
 else none
def strings_HasPrefix : Sm O := strings_HasPrefix_c stringslite_HasPrefix
theorem strings_HasPrefix_ent : Entered Tryd.prog 22 := Tryd.call22
theorem strings_HasPrefix_run (k42 : Sm O) : run (O := O) Tryd.prog [(42, k42)] Tryd.f22 (.n .z .z) = strings_HasPrefix_c k42 := by kernel_rfl
theorem strings_HasPrefix_sound : FSound RO Tryd.prog 22 strings_HasPrefix := sdf (strings_HasPrefix_run _) (gcons stringslite_HasPrefix_ent stringslite_HasPrefix_sound <| gnil) Tryd.func22 (by kernel_rfl)
def stringslite_TrimPrefix_c (k42 : Sm O) : Sm O := fun xs h =>
 bif Nat.beq xs.length 2 then
 (AV.asS (xs.getD 0 .u)).bind fun s0 =>
 (AV.asS (xs.getD 1 .u)).bind fun s1 =>
 (k42 [(.s s0), (.s s1)] h).bind fun r2 =>
 (AV.asB r2.1).bind fun b3 =>
 (bif b3 then
 (bif (((decide ((0 : Int) ≤ (s1.length : Int))) && (decide ((s1.length : Int) ≤ (s0.length : Int)))) && (decide ((s0.length : Int) ≤ (s0.length : Int)))) then
 some ((.s ((s0.drop (s1.length : Int).toNat).take ((s0.length : Int).toNat - (s1.length : Int).toNat))), r2.2)
 else none)
 else some ((.s s0), r2.2))
 else none
def stringslite_TrimPrefix : Sm O := stringslite_TrimPrefix_c stringslite_HasPrefix
theorem stringslite_TrimPrefix_ent : Entered Tryd.prog 74 := Tryd.call74
theorem stringslite_TrimPrefix_run (k42 : Sm O) : run (O := O) Tryd.prog [(42, k42)] Tryd.f74 (.n .z (.n (.n .z (.n .z .z)) .z)) = stringslite_TrimPrefix_c k42 := by kernel_rfl
theorem stringslite_TrimPrefix_sound : FSound RO Tryd.prog 74 stringslite_TrimPrefix := sdf (stringslite_TrimPrefix_run _) (gcons stringslite_HasPrefix_ent stringslite_HasPrefix_sound <| gnil) Tryd.func74 (by kernel_rfl)
def strings_TrimPrefix_c (k74 : Sm O) : Sm O := fun xs h =>
 bif Nat.beq xs.length 2 then
 (AV.asS (xs.getD 0 .u)).bind fun s0 =>
 (AV.asS (xs.getD 1 .u)).bind fun s1 =>
 (k74 [(.s s0), (.s s1)] h).bind fun r2 =>
 (AV.asS r2.1).bind fun s3 =>
 some ((.s s3), r2.2)
 else none
def strings_TrimPrefix : Sm O := strings_TrimPrefix_c stringslite_TrimPrefix
theorem strings_TrimPrefix_ent : Entered Tryd.prog 66 := Tryd.call66
theorem strings_TrimPrefix_run (k74 : Sm O) : run (O := O) Tryd.prog [(74, k74)] Tryd.f66 (.n .z .z) = strings_TrimPrefix_c k74 := by kernel_rfl
theorem strings_TrimPrefix_sound : FSound RO Tryd.prog 66 strings_TrimPrefix := sdf (strings_TrimPrefix_run _) (gcons stringslite_TrimPrefix_ent stringslite_TrimPrefix_sound <| gnil) Tryd.func66 (by kernel_rfl)
def digits_shaped_L1 (s2 : List UInt8) : List AV × AH O → Option ((List AV × AH O) ⊕ ((List AV × AH O) ⊕ (AV × AH O))) := (fun r10 =>
 (AV.asI .i64 (r10.1.getD 0 .u)).bind fun n11 =>
 (bif (decide (n11 < (s2.length : Int))) then
 (bif (decide ((0 : Int) ≤ n11)) then
 (s2[n11.toNat]?).bind fun y12 =>
 ((bif ((decide ((y12.toNat : Int) < 48)) == false) then
 (bif (decide ((0 : Int) ≤ n11)) then
 (s2[n11.toNat]?).bind fun y13 =>
 some ([(.b (decide ((y13.toNat : Int) > 57)))], r10.2)
 else none)
 else some ([(.b true)], r10.2)) : Option (List AV × AH O)).bind fun r14 =>
 (AV.asB (r14.1.getD 0 .u)).bind fun b15 =>
 (bif b15 then
 ((some ((.b false), r14.2) : Option (AV × AH O)).map fun r => Sum.inr (Sum.inr r))
 else some (Sum.inl ([(.i .i64 (IntKind.i64.wrap (n11 + 1)))], r14.2)))
 else none)
 else some (Sum.inr (Sum.inl ([], r10.2)))))
def digits_shaped_c (k66 : Sm O) : Sm O := fun xs h =>
 bif Nat.beq xs.length 1 then
 (AV.asS (xs.getD 0 .u)).bind fun s0 =>
 (k66 [(.s s0), (.s ([45] : List UInt8))] h).bind fun r1 =>
 (AV.asS r1.1).bind fun s2 =>
 ((bif ((s2 == ([] : List UInt8)) == false) then
 (s2[0]?).bind fun y3 =>
 ((bif ((((y3.toNat : Int) : Int) == 48) == true) then
 ((bif ((decide ((s2.length : Int) > 1)) == false) then
 some ([(.b (decide ((s0.length : Int) > 1)))], r1.2)
 else some ([(.b true)], r1.2)) : Option (List AV × AH O)).bind fun r4 =>
 (AV.asB (r4.1.getD 0 .u)).bind fun b5 =>
 some ([(.b b5)], r4.2)
 else some ([(.b false)], r1.2)) : Option (List AV × AH O)).bind fun r6 =>
 (AV.asB (r6.1.getD 0 .u)).bind fun b7 =>
 some ([(.b b7)], r6.2)
 else some ([(.b true)], r1.2)) : Option (List AV × AH O)).bind fun r8 =>
 (AV.asB (r8.1.getD 0 .u)).bind fun b9 =>
 (bif b9 then
 some ((.b false), r8.2)
 else bindS (S := List AV × AH O) (R := (AV × AH O)) (loopF (S := List AV × AH O) (T := (List AV × AH O) ⊕ (AV × AH O)) (digits_shaped_L1 s2) ([(.i .i64 0)], r8.2)) fun r16 =>
 some ((.b true), r16.2))
 else none
def digits_shaped : Sm O := digits_shaped_c strings_TrimPrefix
theorem digits_shaped_ent : Entered Tryd.prog 65 := Tryd.call65
theorem digits_shaped_run (k66 : Sm O) : run (O := O) Tryd.prog [(66, k66)] Tryd.f65 (.n .z (.n .z (.n (.n (.g [(2, 13, [(23, .one .b)]), (6, 8, [(22, .one .b)]), (10, 3, [(21, .one .b)])]) (.n .z .z)) (.n (.n .z (.n (.lp true 0 [(26, .one (.i .i64))] [] (.n .z (.n .z (.n (.n (.n .z (.n (.g [(4, 4, [(38, .one .b)])]) (.n .z .z))) .z) .z)))) .z)) .z)))) = digits_shaped_c k66 := by kernel_rfl
theorem digits_shaped_sound : FSound RO Tryd.prog 65 digits_shaped := sdf (digits_shaped_run _) (gcons strings_TrimPrefix_ent strings_TrimPrefix_sound <| gnil) Tryd.func65 (by kernel_rfl)
def digits_Read_L1 (s5 : List UInt8) : List AV × AH O → Option ((List AV × AH O) ⊕ ((List AV × AH O) ⊕ (AV × AH O))) := (fun r6 =>
 (AV.asI .i64 (r6.1.getD 0 .u)).bind fun n7 =>
 (AV.asI .i64 (r6.1.getD 1 .u)).bind fun n8 =>
 (bif (decide (n8 < (s5.length : Int))) then
 (bif ((decide ((0 : Int) ≤ n8)) && (decide (n8 < (s5.length : Int)))) then
 (r6.2.ld (.f (s5.map fun c => .i .u8 c.toNat)) (0 + (n8.toNat * 1))).bind fun w9 =>
 (AV.asI .u8 w9).bind fun n10 =>
 let v11 : Int := (IntKind.i64.wrap ((-9223372036854775808) + (IntKind.i64.wrap (IntKind.u8.wrap (n10 - 48)))))
 let c12 : Bool := (decide (n7 < (IntKind.i64.wrap (Int.tdiv v11 10))))
 (bif c12 then
 ((some ((.tup [(.i .i64 0), (.i .i64 2)]), r6.2) : Option (AV × AH O)).map fun r => Sum.inr (Sum.inr r))
 else let v13 : Int := (IntKind.i64.wrap ((IntKind.i64.wrap (n7 * 10)) - (IntKind.i64.wrap (IntKind.u8.wrap (n10 - 48)))))
 some (Sum.inl ([(.i .i64 v13), (.i .i64 (IntKind.i64.wrap (n8 + 1)))], r6.2)))
 else none)
 else some (Sum.inr (Sum.inl ([(.i .i64 n7)], r6.2)))))
def digits_Read_c (k65 k66 : Sm O) : Sm O := fun xs h =>
 bif Nat.beq xs.length 1 then
 (AV.asS (xs.getD 0 .u)).bind fun s0 =>
 (k65 [(.s s0)] h).bind fun r1 =>
 (AV.asB r1.1).bind fun b2 =>
 (bif (!b2) then
 some ((.tup [(.i .i64 0), (.i .i64 5)]), r1.2)
 else (s0[0]?).bind fun y3 =>
 (k66 [(.s s0), (.s ([45] : List UInt8))] r1.2).bind fun r4 =>
 (AV.asS r4.1).bind fun s5 =>
 (bif (Nat.ble (s5.length * 2) 35184372088832) then
 bindS (S := List AV × AH O) (R := (AV × AH O)) (loopF (S := List AV × AH O) (T := (List AV × AH O) ⊕ (AV × AH O)) (digits_Read_L1 s5) ([(.i .i64 0), (.i .i64 0)], r4.2)) fun r14 =>
 (AV.asI .i64 (r14.1.getD 0 .u)).bind fun n15 =>
 (bif (((y3.toNat : Int) : Int) == 45) then
 some ((.tup [(.i .i64 n15), (.i .i64 0)]), r14.2)
 else (bif ((n15 : Int) == (-9223372036854775808)) then
 some ((.tup [(.i .i64 0), (.i .i64 2)]), r14.2)
 else some ((.tup [(.i .i64 (IntKind.i64.wrap (0 - n15))), (.i .i64 0)]), r14.2)))
 else none))
 else none
def digits_Read : Sm O := digits_Read_c digits_shaped strings_TrimPrefix
theorem digits_Read_ent : Entered Tryd.prog 57 := Tryd.call57
theorem digits_Read_run (k65 k66 : Sm O) : run (O := O) Tryd.prog [(65, k65), (66, k66)] Tryd.f57 (.n .z (.n (.n .z (.n .z .z)) (.n .z (.n .z (.n (.n .z (.n (.lp true 0 [(5, .one (.i .i64)), (19, .one (.i .i64))] [(5, .one (.i .i64))] (.n .z (.n .z (.n (.n (.n .z (.n .z (.n (.n .z (.n .z .z)) .z))) .z) .z)))) .z)) (.n (.n .z (.n .z .z)) (.n (.n .z (.n .z .z)) .z))))))) = digits_Read_c k65 k66 := by kernel_rfl
theorem digits_Read_sound : FSound RO Tryd.prog 57 digits_Read := sdf (digits_Read_run _ _) (gcons digits_shaped_ent digits_shaped_sound <| gcons strings_TrimPrefix_ent strings_TrimPrefix_sound <| gnil) Tryd.func57 (by kernel_rfl)
def lines_all_L1 (l0 : SA × Nat) (k57 : Sm O) : List AV × AH O → Option ((List AV × AH O) ⊕ ((List AV × AH O) ⊕ (AV × AH O))) := (fun r1 =>
 (AV.asSl (r1.1.getD 0 .u)).bind fun l2 =>
 (AV.asI .i64 (r1.1.getD 1 .u)).bind fun n3 =>
 (bif (decide (n3 < (l0.2 : Int))) then
 (bif ((decide ((0 : Int) ≤ n3)) && (decide (n3 < (l0.2 : Int)))) then
 (SA.ref l0.1).bind fun q4 =>
 (r1.2.ld q4.1 (q4.2 + (n3.toNat * 1))).bind fun w5 =>
 (AV.asS w5).bind fun s6 =>
 (k57 [(.s s6)] r1.2).bind fun r7 =>
 (AV.asTup 2 r7.1).bind fun c8 =>
 gtI c8 0 fun n9 =>
 gtI c8 1 fun n10 =>
 (bif ((n10 : Int) != 0) then
 ((some ((.tup [(.sl .nil 0), (.b false)]), r7.2) : Option (AV × AH O)).map fun r => Sum.inr (Sum.inr r))
 else let h11 := r7.2.bump 2
 let h12 := h11.put r7.2.next (.cells true 3 [(.i .i64 n9)])
 (h12.rdSl (.loc (.n r7.2.next) 0 1) 1 1).bind fun new13 =>
 (bif (Nat.ble ((l2.2 + 1) * 9) 35184372088832) then
 (h12.appSl (r7.2.next + 1) 3 1 l2.1 l2.2 1 new13).bind fun r14 =>
 (AV.asSl r14.1).bind fun l15 =>
 some (Sum.inl ([(.sl l15.1 l15.2), (.i .i64 (IntKind.i64.wrap (n3 + 1)))], r14.2))
 else none))
 else none)
 else some (Sum.inr (Sum.inl ([(.sl l2.1 l2.2)], r1.2)))))
def lines_all_c (k57 : Sm O) : Sm O := fun xs h =>
 bif Nat.beq xs.length 1 then
 gtS xs 0 fun l0 =>
 bindS (S := List AV × AH O) (R := (AV × AH O)) (loopF (S := List AV × AH O) (T := (List AV × AH O) ⊕ (AV × AH O)) (lines_all_L1 l0 k57) ([(.sl .nil 0), (.i .i64 0)], h)) fun r16 =>
 (AV.asSl (r16.1.getD 0 .u)).bind fun l17 =>
 some ((.tup [(.sl l17.1 l17.2), (.b true)]), r16.2)
 else none
def lines_all : Sm O := frz (lines_all_c digits_Read)
theorem lines_all_ent : Entered Tryd.prog 43 := Tryd.call43
theorem lines_all_run (k57 : Sm O) : run (O := O) Tryd.prog [(57, k57)] Tryd.f43 (.n .z (.n .z (.n (.n .z (.n (.lp true 0 [(4, .one .sl), (11, .one (.i .i64))] [(4, .one .sl)] (.n .z (.n .z (.n (.n (.n .z (.n .z (.n (.n .z (.n .z .z)) .z))) .z) .z)))) .z)) .z))) = lines_all_c k57 := by kernel_rfl
theorem lines_all_sound : FSound RO Tryd.prog 43 (lines_all) :=
   have h : FSound RO Tryd.prog 43 (lines_all_c digits_Read) := (lines_all_run digits_Read) ▸ run_sound (gcons digits_Read_ent (digits_Read_sound) <| gnil) mixed Tryd.func43 (by kernel_rfl) _
   h.frz
def strings_IndexByte_c (k70 : Sm O) : Sm O := fun xs h =>
 bif Nat.beq xs.length 2 then
 (AV.asS (xs.getD 0 .u)).bind fun s0 =>
 (AV.asI .u8 (xs.getD 1 .u)).bind fun n1 =>
 (k70 [(.s s0), (.i .u8 n1)] h).bind fun r2 =>
 (AV.asI .i64 r2.1).bind fun n3 =>
 some ((.i .i64 n3), r2.2)
 else none
def strings_IndexByte : Sm O := strings_IndexByte_c stringslite_IndexByte
theorem strings_IndexByte_ent : Entered Tryd.prog 67 := Tryd.call67
theorem strings_IndexByte_run (k70 : Sm O) : run (O := O) Tryd.prog [(70, k70)] Tryd.f67 (.n .z .z) = strings_IndexByte_c k70 := by kernel_rfl
theorem strings_IndexByte_sound : FSound RO Tryd.prog 67 strings_IndexByte := sdf (strings_IndexByte_run _) (gcons stringslite_IndexByte_ent stringslite_IndexByte_sound <| gnil) Tryd.func67 (by kernel_rfl)
def digits_ReadHex_L1 (s0 : List UInt8) (k67 : Sm O) : List AV × AH O → Option ((List AV × AH O) ⊕ ((List AV × AH O) ⊕ (AV × AH O))) := (fun r1 =>
 (AV.asI .u64 (r1.1.getD 0 .u)).bind fun n2 =>
 (AV.asI .i64 (r1.1.getD 1 .u)).bind fun n3 =>
 (bif (decide (n3 < (s0.length : Int))) then
 (bif (decide ((0 : Int) ≤ n3)) then
 (s0[n3.toNat]?).bind fun y4 =>
 (k67 [(.s ([48, 49, 50, 51, 52, 53, 54, 55, 56, 57, 97, 98, 99, 100, 101, 102] : List UInt8)), (.i .u8 (y4.toNat : Int))] r1.2).bind fun r5 =>
 (AV.asI .i64 r5.1).bind fun n6 =>
 (bif (decide (n6 < 0)) then
 ((some ((.tup [(.i .u64 0), (.i .i64 5)]), r5.2) : Option (AV × AH O)).map fun r => Sum.inr (Sum.inr r))
 else let v7 : Int := (ibits .or .u64 (IntKind.u64.wrap (n2 * 2 ^ 4)) (IntKind.u64.wrap n6))
 some (Sum.inl ([(.i .u64 v7), (.i .i64 (IntKind.i64.wrap (n3 + 1)))], r5.2)))
 else none)
 else some (Sum.inr (Sum.inl ([(.i .u64 n2)], r1.2)))))
def digits_ReadHex_c (k67 : Sm O) : Sm O := fun xs h =>
 bif Nat.beq xs.length 1 then
 (AV.asS (xs.getD 0 .u)).bind fun s0 =>
 (bif (((s0.length : Int) : Int) != 16) then
 some ((.tup [(.i .u64 0), (.i .i64 5)]), h)
 else bindS (S := List AV × AH O) (R := (AV × AH O)) (loopF (S := List AV × AH O) (T := (List AV × AH O) ⊕ (AV × AH O)) (digits_ReadHex_L1 s0 k67) ([(.i .u64 0), (.i .i64 0)], h)) fun r8 =>
 (AV.asI .u64 (r8.1.getD 0 .u)).bind fun n9 =>
 some ((.tup [(.i .u64 n9), (.i .i64 0)]), r8.2))
 else none
def digits_ReadHex : Sm O := digits_ReadHex_c strings_IndexByte
theorem digits_ReadHex_ent : Entered Tryd.prog 58 := Tryd.call58
theorem digits_ReadHex_run (k67 : Sm O) : run (O := O) Tryd.prog [(67, k67)] Tryd.f58 (.n .z (.n (.n .z (.n .z .z)) (.n .z (.n (.n .z (.n (.lp true 0 [(4, .one (.i .u64)), (12, .one (.i .i64))] [(4, .one (.i .u64))] (.n .z (.n .z (.n (.n (.n .z (.n .z (.n (.n .z (.n .z .z)) .z))) .z) .z)))) .z)) .z)))) = digits_ReadHex_c k67 := by kernel_rfl
theorem digits_ReadHex_sound : FSound RO Tryd.prog 58 digits_ReadHex := sdf (digits_ReadHex_run _) (gcons strings_IndexByte_ent strings_IndexByte_sound <| gnil) Tryd.func58 (by kernel_rfl)
def lines_raws_L1 (l0 : SA × Nat) (k58 : Sm O) : List AV × AH O → Option ((List AV × AH O) ⊕ ((List AV × AH O) ⊕ (AV × AH O))) := (fun r1 =>
 (AV.asSl (r1.1.getD 0 .u)).bind fun l2 =>
 (AV.asI .i64 (r1.1.getD 1 .u)).bind fun n3 =>
 (bif (decide (n3 < (l0.2 : Int))) then
 (bif ((decide ((0 : Int) ≤ n3)) && (decide (n3 < (l0.2 : Int)))) then
 (SA.ref l0.1).bind fun q4 =>
 (r1.2.ld q4.1 (q4.2 + (n3.toNat * 1))).bind fun w5 =>
 (AV.asS w5).bind fun s6 =>
 (k58 [(.s s6)] r1.2).bind fun r7 =>
 (AV.asTup 2 r7.1).bind fun c8 =>
 gtU c8 0 fun n9 =>
 gtI c8 1 fun n10 =>
 (bif ((n10 : Int) != 0) then
 ((some ((.tup [(.sl .nil 0), (.b false)]), r7.2) : Option (AV × AH O)).map fun r => Sum.inr (Sum.inr r))
 else let h11 := r7.2.bump 2
 let h12 := h11.put r7.2.next (.cells true 82 [(.i .u64 n9)])
 (h12.rdSl (.loc (.n r7.2.next) 0 1) 1 1).bind fun new13 =>
 (bif (Nat.ble ((l2.2 + 1) * 9) 35184372088832) then
 (h12.appSl (r7.2.next + 1) 82 1 l2.1 l2.2 1 new13).bind fun r14 =>
 (AV.asSl r14.1).bind fun l15 =>
 some (Sum.inl ([(.sl l15.1 l15.2), (.i .i64 (IntKind.i64.wrap (n3 + 1)))], r14.2))
 else none))
 else none)
 else some (Sum.inr (Sum.inl ([(.sl l2.1 l2.2)], r1.2)))))
def lines_raws_c (k58 : Sm O) : Sm O := fun xs h =>
 bif Nat.beq xs.length 1 then
 gtS xs 0 fun l0 =>
 bindS (S := List AV × AH O) (R := (AV × AH O)) (loopF (S := List AV × AH O) (T := (List AV × AH O) ⊕ (AV × AH O)) (lines_raws_L1 l0 k58) ([(.sl .nil 0), (.i .i64 0)], h)) fun r16 =>
 (AV.asSl (r16.1.getD 0 .u)).bind fun l17 =>
 some ((.tup [(.sl l17.1 l17.2), (.b true)]), r16.2)
 else none
def lines_raws : Sm O := frz (lines_raws_c digits_ReadHex)
theorem lines_raws_ent : Entered Tryd.prog 44 := Tryd.call44
theorem lines_raws_run (k58 : Sm O) : run (O := O) Tryd.prog [(58, k58)] Tryd.f44 (.n .z (.n .z (.n (.n .z (.n (.lp true 0 [(4, .one .sl), (11, .one (.i .i64))] [(4, .one .sl)] (.n .z (.n .z (.n (.n (.n .z (.n .z (.n (.n .z (.n .z .z)) .z))) .z) .z)))) .z)) .z))) = lines_raws_c k58 := by kernel_rfl
theorem lines_raws_sound : FSound RO Tryd.prog 44 (lines_raws) :=
   have h : FSound RO Tryd.prog 44 (lines_raws_c digits_ReadHex) := (lines_raws_run digits_ReadHex) ▸ run_sound (gcons digits_ReadHex_ent (digits_ReadHex_sound) <| gnil) mixed Tryd.func44 (by kernel_rfl) _
   h.frz
def lines_readNode_L1 (l0 : SA × Nat) : List AV × AH O → Option ((List AV × AH O) ⊕ (List AV × AH O)) := (fun r3 =>
 (AV.asI .i64 (r3.1.getD 0 .u)).bind fun n4 =>
 (AV.asI .i64 (r3.1.getD 1 .u)).bind fun n5 =>
 (bif (decide (n5 < (l0.2 : Int))) then
 (bif ((decide ((0 : Int) ≤ n5)) && (decide (n5 < (l0.2 : Int)))) then
 (SA.ref l0.1).bind fun q6 =>
 (r3.2.ld q6.1 (q6.2 + (n5.toNat * 1))).bind fun w7 =>
 (AV.asS w7).bind fun s8 =>
 (bif (s8 == ([58] : List UInt8)) then
 some (Sum.inr ([(.i .i64 n5)], r3.2))
 else some (Sum.inl ([(.i .i64 n4), (.i .i64 (IntKind.i64.wrap (n5 + 1)))], r3.2)))
 else none)
 else some (Sum.inr ([(.i .i64 n4)], r3.2))))
def lines_readNode_c (k43 k44 : Sm O) : Sm O := fun xs h =>
 bif Nat.beq xs.length 1 then
 gtS xs 0 fun l0 =>
 let h1 := h.bump 1
 let h2 := h1.put h.next (.cells true 48 [(.i .i64 0), (.i .i64 0), (.i .i64 0), (.i .i64 0), (.b false), (.sl .nil 0), (.sl .nil 0)])
 (loopF (S := List AV × AH O) (T := List AV × AH O) (lines_readNode_L1 l0) ([(.i .i64 (-1)), (.i .i64 0)], h2)).bind fun r9 =>
 (AV.asI .i64 (r9.1.getD 0 .u)).bind fun n10 =>
 ((bif ((decide (n10 < 4)) == false) then
 (bif (decide ((0 : Int) < (l0.2 : Int))) then
 (SA.ref l0.1).bind fun q11 =>
 (r9.2.ld q11.1 q11.2).bind fun w12 =>
 (AV.asS w12).bind fun s13 =>
 some ([(.b (!(s13 == ([110, 111, 100, 101] : List UInt8))))], r9.2)
 else none)
 else some ([(.b true)], r9.2)) : Option (List AV × AH O)).bind fun r14 =>
 (AV.asB (r14.1.getD 0 .u)).bind fun b15 =>
 ((bif (b15 == false) then
 (bif (decide ((1 : Int) < (l0.2 : Int))) then
 (SA.ref l0.1).bind fun q16 =>
 (r14.2.ld q16.1 (q16.2 + 1)).bind fun w17 =>
 (AV.asS w17).bind fun s18 =>
 let c19 : Bool := (!(s18 == ([108, 97, 114, 103, 101] : List UInt8)))
 ((bif (c19 == true) then
 (bif (decide ((1 : Int) < (l0.2 : Int))) then
 (SA.ref l0.1).bind fun q20 =>
 (r14.2.ld q20.1 (q20.2 + 1)).bind fun w21 =>
 (AV.asS w21).bind fun s22 =>
 let c23 : Bool := (!(s22 == ([115, 109, 97, 108, 108] : List UInt8)))
 some ([(.b c23)], r14.2)
 else none)
 else some ([(.b false)], r14.2)) : Option (List AV × AH O)).bind fun r24 =>
 (AV.asB (r24.1.getD 0 .u)).bind fun b25 =>
 some ([(.b b25)], r24.2)
 else none)
 else some ([(.b true)], r14.2)) : Option (List AV × AH O)).bind fun r26 =>
 (AV.asB (r26.1.getD 0 .u)).bind fun b27 =>
 (bif b27 then
 (r26.2.st (.n h.next) 0 [(.i .i64 0), (.i .i64 0), (.i .i64 0), (.i .i64 0), (.b false), (.sl .nil 0), (.sl .nil 0)]).bind fun h28 =>
 ldI h28 (.n h.next) 0 fun n30 =>
 ldI h28 (.n h.next) 1 fun n32 =>
 ldI h28 (.n h.next) 2 fun n34 =>
 ldI h28 (.n h.next) 3 fun n36 =>
 (h28.ld (.n h.next) 4).bind fun w37 =>
 (AV.asB w37).bind fun b38 =>
 ldS h28 (.n h.next) 5 fun l40 =>
 ldS h28 (.n h.next) 6 fun l42 =>
 some ((.tup [(.agg [(.i .i64 n30), (.i .i64 n32), (.i .i64 n34), (.i .i64 n36), (.b b38), (.sl l40.1 l40.2), (.sl l42.1 l42.2)]), (.b false)]), h28)
 else (bif ((decide ((2 : Int) ≤ n10)) && (decide (n10 ≤ (l0.2 : Int)))) then
 (SA.adv l0.1 2 1).bind fun a43 =>
 (k43 [(.sl a43 (n10.toNat - 2))] r26.2).bind fun r44 =>
 (AV.asTup 2 r44.1).bind fun c45 =>
 gtS c45 0 fun l46 =>
 (AV.asB (c45.getD 1 .u)).bind fun b47 =>
 (bif (((decide ((0 : Int) ≤ (IntKind.i64.wrap (n10 + 1)))) && (decide ((IntKind.i64.wrap (n10 + 1)) ≤ (l0.2 : Int)))) && (decide ((l0.2 : Int) ≤ (l0.2 : Int)))) then
 (SA.adv l0.1 (IntKind.i64.wrap (n10 + 1)).toNat 1).bind fun a48 =>
 (k44 [(.sl a48 ((l0.2 : Int).toNat - (IntKind.i64.wrap (n10 + 1)).toNat))] r44.2).bind fun r49 =>
 (AV.asTup 2 r49.1).bind fun c50 =>
 gtS c50 0 fun l51 =>
 (AV.asB (c50.getD 1 .u)).bind fun b52 =>
 ((bif ((!b47) == false) then
 some ([(.b (!b52))], r49.2)
 else some ([(.b true)], r49.2)) : Option (List AV × AH O)).bind fun r53 =>
 (AV.asB (r53.1.getD 0 .u)).bind fun b54 =>
 (bif b54 then
 (r53.2.st (.n h.next) 0 [(.i .i64 0), (.i .i64 0), (.i .i64 0), (.i .i64 0), (.b false), (.sl .nil 0), (.sl .nil 0)]).bind fun h55 =>
 ldI h55 (.n h.next) 0 fun n57 =>
 ldI h55 (.n h.next) 1 fun n59 =>
 ldI h55 (.n h.next) 2 fun n61 =>
 ldI h55 (.n h.next) 3 fun n63 =>
 (h55.ld (.n h.next) 4).bind fun w64 =>
 (AV.asB w64).bind fun b65 =>
 ldS h55 (.n h.next) 5 fun l67 =>
 ldS h55 (.n h.next) 6 fun l69 =>
 some ((.tup [(.agg [(.i .i64 n57), (.i .i64 n59), (.i .i64 n61), (.i .i64 n63), (.b b65), (.sl l67.1 l67.2), (.sl l69.1 l69.2)]), (.b false)]), h55)
 else let h70 := r53.2.bump 1
 (bif ((decide ((2 : Int) ≤ (l46.2 : Int))) && (decide ((l46.2 : Int) ≤ (l46.2 : Int)))) then
 (SA.adv l46.1 2 1).bind fun a71 =>
 let h72 := h70.put r53.2.next (.cells true 48 [(.i .i64 0), (.i .i64 0), (.i .i64 0), (.i .i64 0), (.b false), (.sl .nil 0), (.sl .nil 0)])
 (h72.st (.n r53.2.next) 0 [(.i .i64 0), (.i .i64 0), (.i .i64 0), (.i .i64 0), (.b false), (.sl a71 ((l46.2 : Int).toNat - 2)), (.sl l51.1 l51.2)]).bind fun h73 =>
 ldS h73 (.n r53.2.next) 5 fun l75 =>
 (bif (decide ((0 : Int) < (l46.2 : Int))) then
 (SA.ref l46.1).bind fun q76 =>
 ldI h73 q76.1 q76.2 fun n78 =>
 (bif (decide ((1 : Int) < (l46.2 : Int))) then
 (SA.ref l46.1).bind fun q79 =>
 ldI h73 q79.1 (q79.2 + 1) fun n81 =>
 (bif (decide ((1 : Int) < (l0.2 : Int))) then
 (SA.ref l0.1).bind fun q82 =>
 (h73.ld q82.1 (q82.2 + 1)).bind fun w83 =>
 (AV.asS w83).bind fun s84 =>
 (h73.st (.n r53.2.next) 0 [(.i .i64 (l75.2 : Int)), (.i .i64 (l51.2 : Int)), (.i .i64 n78), (.i .i64 n81), (.b (s84 == ([108, 97, 114, 103, 101] : List UInt8)))]).bind fun h85 =>
 ldI h85 (.n r53.2.next) 0 fun n87 =>
 ldI h85 (.n r53.2.next) 1 fun n89 =>
 ldI h85 (.n r53.2.next) 2 fun n91 =>
 ldI h85 (.n r53.2.next) 3 fun n93 =>
 (h85.ld (.n r53.2.next) 4).bind fun w94 =>
 (AV.asB w94).bind fun b95 =>
 ldS h85 (.n r53.2.next) 5 fun l97 =>
 ldS h85 (.n r53.2.next) 6 fun l99 =>
 (h85.st (.n h.next) 0 [(.i .i64 n87), (.i .i64 n89), (.i .i64 n91), (.i .i64 n93), (.b b95), (.sl l97.1 l97.2), (.sl l99.1 l99.2)]).bind fun h100 =>
 ldI h100 (.n h.next) 0 fun n102 =>
 ldI h100 (.n h.next) 1 fun n104 =>
 ldI h100 (.n h.next) 2 fun n106 =>
 ldI h100 (.n h.next) 3 fun n108 =>
 (h100.ld (.n h.next) 4).bind fun w109 =>
 (AV.asB w109).bind fun b110 =>
 ldS h100 (.n h.next) 5 fun l112 =>
 ldS h100 (.n h.next) 6 fun l114 =>
 some ((.tup [(.agg [(.i .i64 n102), (.i .i64 n104), (.i .i64 n106), (.i .i64 n108), (.b b110), (.sl l112.1 l112.2), (.sl l114.1 l114.2)]), (.b true)]), h100)
 else none)
 else none)
 else none)
 else none))
 else none)
 else none))
 else none
def lines_readNode : Sm O := frz (lines_readNode_c lines_all lines_raws)
theorem lines_readNode_ent : Entered Tryd.prog 23 := Tryd.call23
theorem lines_readNode_run (k43 k44 : Sm O) : run (O := O) Tryd.prog [(43, k43), (44, k44)] Tryd.f23 (.n .z (.n (.n .z (.n .z (.n (.n .z (.n (.lp false 0 [(4, .one (.i .i64)), (14, .one (.i .i64))] [(4, .one (.i .i64))] (.n .z (.n .z (.n (.n (.n .z (.n .z (.n (.n .z (.n .z .z)) .z))) .z) .z)))) .z)) (.n (.n (.g [(2, 4, [(31, .one .b)]), (8, 10, [(43, .one .b)]), (13, 4, [(42, .one .b)])]) (.n .z .z)) (.n .z (.n .z (.n (.n (.g [(2, 2, [(65, .one .b)])]) (.n .z .z)) (.n .z (.n (.d [] [0, 1, 2, 3, 4, 5, 6, 7, 8, 9, 10, 11, 12, 13, 14, 15, 16, 17, 18] [0, 1, 3, 0, 8, 31, 0, 64, 192, 0, 512, 1536, 0, 4096, 12288, 28672, 65535, 131071, 262143]) .z))))))))) .z)) = lines_readNode_c k43 k44 := by kernel_rfl
theorem lines_readNode_sound : FSound RO Tryd.prog 23 (lines_readNode) :=
   have h : FSound RO Tryd.prog 23 (lines_readNode_c lines_all lines_raws) := (lines_readNode_run lines_all lines_raws) ▸ run_sound (gcons lines_all_ent (lines_all_sound) <| gcons lines_raws_ent (lines_raws_sound) <| gnil) mixed Tryd.func23 (by kernel_rfl) _
   h.frz
def lines_readNumbers_c (k21 k43 : Sm O) : Sm O := fun xs h =>
 bif Nat.beq xs.length 2 then
 (AV.asS (xs.getD 0 .u)).bind fun s0 =>
 (AV.asS (xs.getD 1 .u)).bind fun s1 =>
 (k21 [(.s s0), (.s ([32] : List UInt8))] h).bind fun r2 =>
 (AV.asSl r2.1).bind fun l3 =>
 (bif (decide ((0 : Int) < (l3.2 : Int))) then
 (SA.ref l3.1).bind fun q4 =>
 (r2.2.ld q4.1 q4.2).bind fun w5 =>
 (AV.asS w5).bind fun s6 =>
 (bif (!(s6 == s1)) then
 some ((.tup [(.sl .nil 0), (.b false)]), r2.2)
 else (bif ((decide ((1 : Int) ≤ (l3.2 : Int))) && (decide ((l3.2 : Int) ≤ (l3.2 : Int)))) then
 (SA.adv l3.1 1 1).bind fun a7 =>
 (k43 [(.sl a7 ((l3.2 : Int).toNat - 1))] r2.2).bind fun r8 =>
 (AV.asTup 2 r8.1).bind fun c9 =>
 gtS c9 0 fun l10 =>
 (AV.asB (c9.getD 1 .u)).bind fun b11 =>
 some ((.tup [(.sl l10.1 l10.2), (.b b11)]), r8.2)
 else none))
 else none)
 else none
def lines_readNumbers : Sm O := frz (lines_readNumbers_c strings_Split lines_all)
theorem lines_readNumbers_ent : Entered Tryd.prog 24 := Tryd.call24
theorem lines_readNumbers_run (k21 k43 : Sm O) : run (O := O) Tryd.prog [(21, k21), (43, k43)] Tryd.f24 (.n .z (.n .z (.n (.n .z (.n .z .z)) .z))) = lines_readNumbers_c k21 k43 := by kernel_rfl
theorem lines_readNumbers_sound : FSound RO Tryd.prog 24 (lines_readNumbers) :=
   have h : FSound RO Tryd.prog 24 (lines_readNumbers_c strings_Split lines_all) := (lines_readNumbers_run strings_Split lines_all) ▸ run_sound (gcons strings_Split_ent (strings_Split_sound) <| gcons lines_all_ent (lines_all_sound) <| gnil) mixed Tryd.func24 (by kernel_rfl) _
   h.frz
def canon_within_1_c : Sm O := fun xs h =>
 bif Nat.beq xs.length 3 then
 gtI xs 0 fun n0 =>
 (AV.asPS (xs.getD 1 .u)).bind fun q1 =>
 ldI h q1.1 q1.2 fun n3 =>
 ((bif ((decide (n0 < n3)) == false) then
 (AV.asPS (xs.getD 2 .u)).bind fun q4 =>
 ldI h q4.1 q4.2 fun n6 =>
 some ([(.b (decide (n0 > n6)))], h)
 else some ([(.b true)], h)) : Option (List AV × AH O)).bind fun r7 =>
 (AV.asB (r7.1.getD 0 .u)).bind fun b8 =>
 some ((.b b8), r7.2)
 else none
def canon_within_1 : Sm O := canon_within_1_c
theorem canon_within_1_ent : Entered Tryd.prog 50 := Tryd.call50
theorem canon_within_1_run : run (O := O) Tryd.prog [] Tryd.f50 (.n .z (.n (.g [(3, 3, [(12, .one .b)])]) .z)) = canon_within_1_c  := by kernel_rfl
theorem canon_within_1_sound : FSound RO Tryd.prog 50 canon_within_1 := sdf canon_within_1_run (gnil) Tryd.func50 (by kernel_rfl)
def slices_IndexFunc___int_int__L1 (l0 : SA × Nat) (k50 : Sm O) (f1 : Option (Fn × List AV × List AV)) : List AV × AH O → Option ((List AV × AH O) ⊕ ((List AV × AH O) ⊕ (AV × AH O))) := (fun r2 =>
 (AV.asI .i64 (r2.1.getD 0 .u)).bind fun n3 =>
 (bif (decide (n3 < (l0.2 : Int))) then
 (bif ((decide ((0 : Int) ≤ n3)) && (decide (n3 < (l0.2 : Int)))) then
 (SA.ref l0.1).bind fun q4 =>
 ldI r2.2 q4.1 (q4.2 + (n3.toNat * 1)) fun n6 =>
 (callV [(50, k50)] f1 [(.i .i64 n6)] r2.2).bind fun r7 =>
 (AV.asB r7.1).bind fun b8 =>
 (bif b8 then
 ((some ((.i .i64 n3), r7.2) : Option (AV × AH O)).map fun r => Sum.inr (Sum.inr r))
 else some (Sum.inl ([(.i .i64 (IntKind.i64.wrap (n3 + 1)))], r7.2)))
 else none)
 else some (Sum.inr (Sum.inl ([], r2.2)))))
def slices_IndexFunc___int_int__c (k50 : Sm O) : Sm O := fun xs h =>
 bif Nat.beq xs.length 2 then
 gtS xs 0 fun l0 =>
 (AV.asF (xs.getD 1 .u)).bind fun f1 =>
 bindS (S := List AV × AH O) (R := (AV × AH O)) (loopF (S := List AV × AH O) (T := (List AV × AH O) ⊕ (AV × AH O)) (slices_IndexFunc___int_int__L1 l0 k50 f1) ([(.i .i64 0)], h)) fun r9 =>
 some ((.i .i64 (-1)), r9.2)
 else none
def slices_IndexFunc___int_int_ : Sm O := slices_IndexFunc___int_int__c canon_within_1
theorem slices_IndexFunc___int_int__ent : Entered Tryd.prog 59 := Tryd.call59
theorem slices_IndexFunc___int_int__run (k50 : Sm O) : run (O := O) Tryd.prog [(50, k50)] Tryd.f59 (.n .z (.n (.n .z (.n (.lp true 0 [(8, .one (.i .i64))] [] (.n .z (.n .z (.n (.n (.n .z (.n .z (.n .z .z))) .z) .z)))) .z)) .z)) = slices_IndexFunc___int_int__c k50 := by kernel_rfl
theorem slices_IndexFunc___int_int__sound : FSound RO Tryd.prog 59 slices_IndexFunc___int_int_ := sdf (slices_IndexFunc___int_int__run _) (gcons canon_within_1_ent canon_within_1_sound <| gnil) Tryd.func59 (by kernel_rfl)
def slices_ContainsFunc___int_int__c (k59 : Sm O) : Sm O := fun xs h =>
 bif Nat.beq xs.length 2 then
 gtS xs 0 fun l0 =>
 (AV.asF (xs.getD 1 .u)).bind fun f1 =>
 (k59 [(.sl l0.1 l0.2), (.fn f1)] h).bind fun r2 =>
 (AV.asI .i64 r2.1).bind fun n3 =>
 some ((.b (decide (n3 ≥ 0))), r2.2)
 else none
def slices_ContainsFunc___int_int_ : Sm O := slices_ContainsFunc___int_int__c slices_IndexFunc___int_int_
theorem slices_ContainsFunc___int_int__ent : Entered Tryd.prog 49 := Tryd.call49
theorem slices_ContainsFunc___int_int__run (k59 : Sm O) : run (O := O) Tryd.prog [(59, k59)] Tryd.f49 (.n .z .z) = slices_ContainsFunc___int_int__c k59 := by kernel_rfl
theorem slices_ContainsFunc___int_int__sound : FSound RO Tryd.prog 49 slices_ContainsFunc___int_int_ := sdf (slices_ContainsFunc___int_int__run _) (gcons slices_IndexFunc___int_int__ent slices_IndexFunc___int_int__sound <| gnil) Tryd.func49 (by kernel_rfl)
def canon_within_c (k50 k49 : Sm O) : Sm O := fun xs h =>
 bif Nat.beq xs.length 3 then
 gtS xs 0 fun l0 =>
 gtI xs 1 fun n1 =>
 gtI xs 2 fun n2 =>
 let h3 := h.bump 2
 let h4 := h3.put h.next (.cells true 3 [(.i .i64 n1)])
 let h5 := h4.put (h.next + 1) (.cells true 3 [(.i .i64 n2)])
 (k49 [(.sl l0.1 l0.2), (.fn (some (.func 50, [], [(.p (some ((.n h.next), 0))), (.p (some ((.n (h.next + 1)), 0)))])))] h5).bind fun r6 =>
 (AV.asB r6.1).bind fun b7 =>
 some ((.b (!b7)), r6.2)
 else none
def canon_within : Sm O := canon_within_c canon_within_1 slices_ContainsFunc___int_int_
theorem canon_within_ent : Entered Tryd.prog 33 := Tryd.call33
theorem canon_within_run (k50 k49 : Sm O) : run (O := O) Tryd.prog [(50, k50), (49, k49)] Tryd.f33 (.n .z .z) = canon_within_c k50 k49 := by kernel_rfl
theorem canon_within_sound : FSound RO Tryd.prog 33 canon_within := sdf (canon_within_run _ _) (gcons canon_within_1_ent canon_within_1_sound <| gcons slices_ContainsFunc___int_int__ent slices_ContainsFunc___int_int__sound <| gnil) Tryd.func33 (by kernel_rfl)
def canon_Right_1_L1 (l0 : SA × Nat) (xs : List AV) : List AV × AH O → Option ((List AV × AH O) ⊕ ((List AV × AH O) ⊕ (AV × AH O))) := (fun r1 =>
 (AV.asI .i64 (r1.1.getD 0 .u)).bind fun n2 =>
 (bif (decide (n2 < (l0.2 : Int))) then
 (bif ((decide ((0 : Int) ≤ n2)) && (decide (n2 < (l0.2 : Int)))) then
 (SA.ref l0.1).bind fun q3 =>
 ldI r1.2 q3.1 (q3.2 + (n2.toNat * 1)) fun n5 =>
 (AV.asPS (xs.getD 1 .u)).bind fun q6 =>
 ldI r1.2 q6.1 q6.2 fun n8 =>
 (bif (decide (n5 > (IntKind.i64.wrap (n8 + 1)))) then
 ((some ((.b false), r1.2) : Option (AV × AH O)).map fun r => Sum.inr (Sum.inr r))
 else (AV.asPS (xs.getD 1 .u)).bind fun q9 =>
 ldI r1.2 q9.1 q9.2 fun n11 =>
 (AV.asPS (xs.getD 1 .u)).bind fun q12 =>
 (r1.2.st q12.1 q12.2 [(.i .i64 (if n5 > n11 then n5 else n11))]).bind fun h13 =>
 some (Sum.inl ([(.i .i64 (IntKind.i64.wrap (n2 + 1)))], h13)))
 else none)
 else some (Sum.inr (Sum.inl ([], r1.2)))))
def canon_Right_1_c : Sm O := fun xs h =>
 bif Nat.beq xs.length 2 then
 gtS xs 0 fun l0 =>
 bindS (S := List AV × AH O) (R := (AV × AH O)) (loopF (S := List AV × AH O) (T := (List AV × AH O) ⊕ (AV × AH O)) (canon_Right_1_L1 l0 xs) ([(.i .i64 0)], h)) fun r14 =>
 some ((.b true), r14.2)
 else none
def canon_Right_1 : Sm O := canon_Right_1_c
theorem canon_Right_1_ent : Entered Tryd.prog 34 := Tryd.call34
theorem canon_Right_1_run : run (O := O) Tryd.prog [] Tryd.f34 (.n .z (.n (.n .z (.n (.lp true 0 [(8, .one (.i .i64))] [] (.n .z (.n .z (.n (.n (.n .z (.n (.n .z (.n .z .z)) .z)) .z) .z)))) .z)) .z)) = canon_Right_1_c  := by kernel_rfl
theorem canon_Right_1_sound : FSound RO Tryd.prog 34 canon_Right_1 := sdf canon_Right_1_run (gnil) Tryd.func34 (by kernel_rfl)
def header_within_c : Sm O := fun xs h =>
 bif Nat.beq xs.length 2 then
 gtI xs 0 fun n0 =>
 gtI xs 1 fun n1 =>
 ((bif ((decide (n0 ≥ 0)) == true) then
 some ([(.b (decide (n0 ≤ n1)))], h)
 else some ([(.b false)], h)) : Option (List AV × AH O)).bind fun r2 =>
 (AV.asB (r2.1.getD 0 .u)).bind fun b3 =>
 some ((.b b3), r2.2)
 else none
def header_within : Sm O := header_within_c
theorem header_within_ent : Entered Tryd.prog 51 := Tryd.call51
theorem header_within_run : run (O := O) Tryd.prog [] Tryd.f51 (.n .z (.n (.g [(2, 3, [(11, .one .b)])]) .z)) = header_within_c  := by kernel_rfl
theorem header_within_sound : FSound RO Tryd.prog 51 header_within := sdf header_within_run (gnil) Tryd.func51 (by kernel_rfl)
def header_Check_c (k51 : Sm O) : Sm O := fun xs h =>
 bif Nat.beq xs.length 1 then
 (AV.asAgg 5 (xs.getD 0 .u)).bind fun c0 =>
 gtI c0 0 fun n1 =>
 gtI c0 1 fun n2 =>
 gtI c0 2 fun n3 =>
 gtI c0 3 fun n4 =>
 (AV.asB (c0.getD 4 .u)).bind fun b5 =>
 let h6 := h.bump 1
 let h7 := h6.put h.next (.cells true 45 [(.i .i64 n1), (.i .i64 n2), (.i .i64 n3), (.i .i64 n4), (.b b5)])
 ldI h7 (.n h.next) 0 fun n9 =>
 (k51 [(.i .i64 n9), (.i .i64 4095)] h7).bind fun r10 =>
 (AV.asB r10.1).bind fun b11 =>
 ((bif ((!b11) == false) then
 ldI r10.2 (.n h.next) 1 fun n13 =>
 (k51 [(.i .i64 n13), (.i .i64 4095)] r10.2).bind fun r14 =>
 (AV.asB r14.1).bind fun b15 =>
 some ([(.b (!b15))], r14.2)
 else some ([(.b true)], r10.2)) : Option (List AV × AH O)).bind fun r16 =>
 (AV.asB (r16.1.getD 0 .u)).bind fun b17 =>
 (bif b17 then
 some ((.i .i64 20), r16.2)
 else ldI r16.2 (.n h.next) 2 fun n19 =>
 (k51 [(.i .i64 n19), (.i .i64 31)] r16.2).bind fun r20 =>
 (AV.asB r20.1).bind fun b21 =>
 (bif (!b21) then
 some ((.i .i64 21), r20.2)
 else ldI r20.2 (.n h.next) 3 fun n23 =>
 (k51 [(.i .i64 n23), (.i .i64 7)] r20.2).bind fun r24 =>
 (AV.asB r24.1).bind fun b25 =>
 (bif (!b25) then
 some ((.i .i64 2), r24.2)
 else some ((.i .i64 0), r24.2))))
 else none
def header_Check : Sm O := header_Check_c header_within
theorem header_Check_ent : Entered Tryd.prog 35 := Tryd.call35
theorem header_Check_run (k51 : Sm O) : run (O := O) Tryd.prog [(51, k51)] Tryd.f35 (.n .z (.n (.n (.n (.g [(5, 5, [(15, .one .b)])]) (.n .z (.n .z (.n .z (.n .z (.n .z .z)))))) .z) .z)) = header_Check_c k51 := by kernel_rfl
theorem header_Check_sound : FSound RO Tryd.prog 35 header_Check := sdf (header_Check_run _) (gcons header_within_ent header_within_sound <| gnil) Tryd.func35 (by kernel_rfl)
def canon_Right_L1 (l26 : SA × Nat) (r16 : List AV × AH O) (k35 : Sm O) (k33 : Sm O) (l7 : SA × Nat) (k34 : Sm O) : List AV × AH O → Option ((List AV × AH O) ⊕ ((List AV × AH O) ⊕ (AV × AH O))) := (fun r27 =>
 (AV.asI .i64 (r27.1.getD 0 .u)).bind fun n28 =>
 (bif (decide (n28 < (l26.2 : Int))) then
 let h29 := r27.2.bump 1
 (bif ((decide ((0 : Int) ≤ n28)) && (decide (n28 < (l26.2 : Int)))) then
 (SA.ref l26.1).bind fun q30 =>
 ldI h29 q30.1 (q30.2 + (n28.toNat * 7)) fun n32 =>
 ldI h29 q30.1 ((q30.2 + (n28.toNat * 7)) + 1) fun n34 =>
 ldI h29 q30.1 (((q30.2 + (n28.toNat * 7)) + 1) + 1) fun n36 =>
 ldI h29 q30.1 ((((q30.2 + (n28.toNat * 7)) + 1) + 1) + 1) fun n38 =>
 (h29.ld q30.1 (((((q30.2 + (n28.toNat * 7)) + 1) + 1) + 1) + 1)).bind fun w39 =>
 (AV.asB w39).bind fun b40 =>
 ldS h29 q30.1 ((((((q30.2 + (n28.toNat * 7)) + 1) + 1) + 1) + 1) + 1) fun l42 =>
 ldS h29 q30.1 (((((((q30.2 + (n28.toNat * 7)) + 1) + 1) + 1) + 1) + 1) + 1) fun l44 =>
 let h45 := h29.put r27.2.next (.cells true 48 [(.i .i64 0), (.i .i64 0), (.i .i64 0), (.i .i64 0), (.b false), (.sl .nil 0), (.sl .nil 0)])
 (h45.st (.n r27.2.next) 0 [(.i .i64 n32), (.i .i64 n34), (.i .i64 n36), (.i .i64 n38), (.b b40), (.sl l42.1 l42.2), (.sl l44.1 l44.2)]).bind fun h46 =>
 ldI h46 (.n r16.2.next) 0 fun n48 =>
 ((bif ((decide (n28 ≥ n48)) == false) then
 ldI h46 (.n r27.2.next) 0 fun n50 =>
 ldI h46 (.n r27.2.next) 1 fun n52 =>
 ldI h46 (.n r27.2.next) 2 fun n54 =>
 ldI h46 (.n r27.2.next) 3 fun n56 =>
 (h46.ld (.n r27.2.next) 4).bind fun w57 =>
 (AV.asB w57).bind fun b58 =>
 (k35 [(.agg [(.i .i64 n50), (.i .i64 n52), (.i .i64 n54), (.i .i64 n56), (.b b58)])] h46).bind fun r59 =>
 (AV.asI .i64 r59.1).bind fun n60 =>
 some ([(.b ((n60 : Int) != 0))], r59.2)
 else some ([(.b true)], h46)) : Option (List AV × AH O)).bind fun r61 =>
 (AV.asB (r61.1.getD 0 .u)).bind fun b62 =>
 ((bif (b62 == false) then
 ldS r61.2 (.n r27.2.next) 5 fun l64 =>
 ldI r61.2 (.n r27.2.next) 0 fun n66 =>
 some ([(.b (((l64.2 : Int) : Int) != n66))], r61.2)
 else some ([(.b true)], r61.2)) : Option (List AV × AH O)).bind fun r67 =>
 (AV.asB (r67.1.getD 0 .u)).bind fun b68 =>
 ((bif (b68 == false) then
 ldS r67.2 (.n r27.2.next) 6 fun l70 =>
 ldI r67.2 (.n r27.2.next) 1 fun n72 =>
 some ([(.b (((l70.2 : Int) : Int) != n72))], r67.2)
 else some ([(.b true)], r67.2)) : Option (List AV × AH O)).bind fun r73 =>
 (AV.asB (r73.1.getD 0 .u)).bind fun b74 =>
 (bif b74 then
 ((some ((.b false), r73.2) : Option (AV × AH O)).map fun r => Sum.inr (Sum.inr r))
 else ldS r73.2 (.n r27.2.next) 5 fun l76 =>
 (k33 [(.sl l76.1 l76.2), (.i .i64 0), (.i .i64 (l7.2 : Int))] r73.2).bind fun r77 =>
 (AV.asB r77.1).bind fun b78 =>
 ((bif ((!b78) == false) then
 ldS r77.2 (.n r27.2.next) 5 fun l80 =>
 (k34 [(.sl l80.1 l80.2), (.p (some ((.n r16.2.next), 0)))] r77.2).bind fun r81 =>
 (AV.asB r81.1).bind fun b82 =>
 some ([(.b (!b82))], r81.2)
 else some ([(.b true)], r77.2)) : Option (List AV × AH O)).bind fun r83 =>
 (AV.asB (r83.1.getD 0 .u)).bind fun b84 =>
 (bif b84 then
 ((some ((.b false), r83.2) : Option (AV × AH O)).map fun r => Sum.inr (Sum.inr r))
 else some (Sum.inl ([(.i .i64 (IntKind.i64.wrap (n28 + 1)))], r83.2))))
 else none)
 else some (Sum.inr (Sum.inl ([], r27.2)))))
def canon_Right_c (k33 k34 k35 : Sm O) : Sm O := fun xs h =>
 bif Nat.beq xs.length 1 then
 (AV.asAgg 3 (xs.getD 0 .u)).bind fun c0 =>
 gtS c0 0 fun l1 =>
 gtS c0 1 fun l2 =>
 gtS c0 2 fun l3 =>
 let h4 := h.bump 1
 let h5 := h4.put h.next (.cells true 25 [(.sl l1.1 l1.2), (.sl l2.1 l2.2), (.sl l3.1 l3.2)])
 ldS h5 (.n h.next) 0 fun l7 =>
 ldS h5 (.n h.next) 1 fun l9 =>
 (k33 [(.sl l9.1 l9.2), (.i .i64 1), (.i .i64 (l7.2 : Int))] h5).bind fun r10 =>
 (AV.asB r10.1).bind fun b11 =>
 ((bif ((!b11) == false) then
 ldS r10.2 (.n h.next) 2 fun l13 =>
 (k33 [(.sl l13.1 l13.2), (.i .i64 0), (.i .i64 (l7.2 : Int))] r10.2).bind fun r14 =>
 (AV.asB r14.1).bind fun b15 =>
 some ([(.b (!b15))], r14.2)
 else some ([(.b true)], r10.2)) : Option (List AV × AH O)).bind fun r16 =>
 (AV.asB (r16.1.getD 0 .u)).bind fun b17 =>
 (bif b17 then
 some ((.b false), r16.2)
 else let h18 := r16.2.bump 1
 let h19 := h18.put r16.2.next (.cells true 3 [(.i .i64 0)])
 (h19.st (.n r16.2.next) 0 [(.i .i64 0)]).bind fun h20 =>
 ldS h20 (.n h.next) 1 fun l22 =>
 (k34 [(.sl l22.1 l22.2), (.p (some ((.n r16.2.next), 0)))] h20).bind fun r23 =>
 (AV.asB r23.1).bind fun b24 =>
 (bif (!b24) then
 some ((.b false), r23.2)
 else ldS r23.2 (.n h.next) 0 fun l26 =>
 bindS (S := List AV × AH O) (R := (AV × AH O)) (loopF (S := List AV × AH O) (T := (List AV × AH O) ⊕ (AV × AH O)) (canon_Right_L1 l26 r16 k35 k33 l7 k34) ([(.i .i64 0)], r23.2)) fun r85 =>
 some ((.b true), r85.2)))
 else none
def canon_Right : Sm O := canon_Right_c canon_within canon_Right_1 header_Check
theorem canon_Right_ent : Entered Tryd.prog 14 := Tryd.call14
theorem canon_Right_run (k33 k34 k35 : Sm O) : run (O := O) Tryd.prog [(33, k33), (34, k34), (35, k35)] Tryd.f14 (.n .z (.n .z (.n (.n (.g [(5, 5, [(22, .one .b)])]) (.n .z .z)) (.n .z (.n .z (.n (.n .z (.n .z .z)) (.n (.n .z (.n (.lp true 0 [(32, .one (.i .i64))] [] (.n .z (.n .z (.n (.n (.n .z (.n (.n (.g [(3, 4, [(45, .one .b)]), (9, 8, [(55, .one .b)]), (19, 8, [(65, .one .b)])]) (.n .z .z)) (.n (.g [(5, 5, [(77, .one .b)])]) (.n .z .z)))) .z) .z)))) .z)) .z))))))) = canon_Right_c k33 k34 k35 := by kernel_rfl
theorem canon_Right_sound : FSound RO Tryd.prog 14 canon_Right := sdf (canon_Right_run _ _ _) (gcons canon_within_ent canon_within_sound <| gcons canon_Right_1_ent canon_Right_1_sound <| gcons header_Check_ent header_Check_sound <| gnil) Tryd.func14 (by kernel_rfl)
def lines_Parse_L2 (r64 : List AV × AH O) (l4 : SA × Nat) (h : AH O) (k24 : Sm O) (r3 : AV × AH O) : List AV × AH O → Option ((List AV × AH O) ⊕ ((List AV × AH O) ⊕ (AV × AH O))) := (fun r68 =>
 (AV.asI .i64 (r68.1.getD 0 .u)).bind fun n69 =>
 (AV.asI .i64 (r68.1.getD 1 .u)).bind fun n70 =>
 (bif (decide (n70 < 2)) then
 (bif ((decide ((0 : Int) ≤ n70)) && (decide (n70 < 2))) then
 (r68.2.ld (.n r64.2.next) (0 + (n70.toNat * 1))).bind fun w71 =>
 (AV.asS w71).bind fun s72 =>
 (bif (decide (n69 ≥ (l4.2 : Int))) then
 (r68.2.st (.n h.next) 0 [(.sl .nil 0), (.sl .nil 0), (.sl .nil 0)]).bind fun h73 =>
 (((h73.ld (.n h.next) 0).bind fun w74 =>
 (AV.asSl w74).bind fun l75 =>
 ldS h73 (.n h.next) 1 fun l77 =>
 ldS h73 (.n h.next) 2 fun l79 =>
 some ((.tup [(.agg [(.sl l75.1 l75.2), (.sl l77.1 l77.2), (.sl l79.1 l79.2)]), (.i .i64 (IntKind.i64.wrap (n69 + 1))), (.i .i64 61)]), h73) : Option (AV × AH O)).map fun r => Sum.inr (Sum.inr r))
 else (bif ((decide ((0 : Int) ≤ n69)) && (decide (n69 < (l4.2 : Int)))) then
 (SA.ref l4.1).bind fun q80 =>
 (r68.2.ld q80.1 (q80.2 + (n69.toNat * 1))).bind fun w81 =>
 (AV.asS w81).bind fun s82 =>
 (k24 [(.s s82), (.s s72)] r68.2).bind fun r83 =>
 (AV.asTup 2 r83.1).bind fun c84 =>
 gtS c84 0 fun l85 =>
 (AV.asB (c84.getD 1 .u)).bind fun b86 =>
 (bif (!b86) then
 (r83.2.st (.n h.next) 0 [(.sl .nil 0), (.sl .nil 0), (.sl .nil 0)]).bind fun h87 =>
 (((h87.ld (.n h.next) 0).bind fun w88 =>
 (AV.asSl w88).bind fun l89 =>
 ldS h87 (.n h.next) 1 fun l91 =>
 ldS h87 (.n h.next) 2 fun l93 =>
 some ((.tup [(.agg [(.sl l89.1 l89.2), (.sl l91.1 l91.2), (.sl l93.1 l93.2)]), (.i .i64 (IntKind.i64.wrap (n69 + 1))), (.i .i64 61)]), h87) : Option (AV × AH O)).map fun r => Sum.inr (Sum.inr r))
 else let c94 : Bool := (s72 == ([114, 111, 111, 116, 115] : List UInt8))
 ((bif c94 then
 (r83.2.st (.n r3.2.next) 1 [(.sl l85.1 l85.2)]).bind fun h95 =>
 some ([], h95)
 else (r83.2.st (.n r3.2.next) 2 [(.sl l85.1 l85.2)]).bind fun h96 =>
 some ([], h96)) : Option (List AV × AH O)).bind fun r97 =>
 some (Sum.inl ([(.i .i64 (IntKind.i64.wrap (n69 + 1))), (.i .i64 (IntKind.i64.wrap (n70 + 1)))], r97.2)))
 else none))
 else none)
 else some (Sum.inr (Sum.inl ([(.i .i64 n69)], r68.2)))))
def lines_Parse_L1 (l4 : SA × Nat) (k22 : Sm O) (k21 : Sm O) (k23 : Sm O) (h : AH O) (r3 : AV × AH O) : List AV × AH O → Option ((List AV × AH O) ⊕ ((List AV × AH O) ⊕ (AV × AH O))) := (fun r7 =>
 (AV.asI .i64 (r7.1.getD 0 .u)).bind fun n8 =>
 ((bif ((decide (n8 < (l4.2 : Int))) == true) then
 (bif ((decide ((0 : Int) ≤ n8)) && (decide (n8 < (l4.2 : Int)))) then
 (SA.ref l4.1).bind fun q9 =>
 (r7.2.ld q9.1 (q9.2 + (n8.toNat * 1))).bind fun w10 =>
 (AV.asS w10).bind fun s11 =>
 (k22 [(.s s11), (.s ([110, 111, 100, 101] : List UInt8))] r7.2).bind fun r12 =>
 (AV.asB r12.1).bind fun b13 =>
 some ([(.b b13)], r12.2)
 else none)
 else some ([(.b false)], r7.2)) : Option (List AV × AH O)).bind fun r14 =>
 (AV.asB (r14.1.getD 0 .u)).bind fun b15 =>
 (bif b15 then
 let h16 := r14.2.bump 1
 (bif ((decide ((0 : Int) ≤ n8)) && (decide (n8 < (l4.2 : Int)))) then
 (SA.ref l4.1).bind fun q17 =>
 (h16.ld q17.1 (q17.2 + (n8.toNat * 1))).bind fun w18 =>
 (AV.asS w18).bind fun s19 =>
 (k21 [(.s s19), (.s ([32] : List UInt8))] h16).bind fun r20 =>
 (AV.asSl r20.1).bind fun l21 =>
 (k23 [(.sl l21.1 l21.2)] r20.2).bind fun r22 =>
 (AV.asTup 2 r22.1).bind fun c23 =>
 (AV.asAgg 7 (c23.getD 0 .u)).bind fun c24 =>
 gtI c24 0 fun n25 =>
 gtI c24 1 fun n26 =>
 gtI c24 2 fun n27 =>
 gtI c24 3 fun n28 =>
 (AV.asB (c24.getD 4 .u)).bind fun b29 =>
 gtS c24 5 fun l30 =>
 gtS c24 6 fun l31 =>
 (AV.asB (c23.getD 1 .u)).bind fun b32 =>
 let h33 := r22.2.put r14.2.next (.cells true 48 [(.i .i64 0), (.i .i64 0), (.i .i64 0), (.i .i64 0), (.b false), (.sl .nil 0), (.sl .nil 0)])
 (h33.st (.n r14.2.next) 0 [(.i .i64 n25), (.i .i64 n26), (.i .i64 n27), (.i .i64 n28), (.b b29), (.sl l30.1 l30.2), (.sl l31.1 l31.2)]).bind fun h34 =>
 (bif (!b32) then
 (h34.st (.n h.next) 0 [(.sl .nil 0), (.sl .nil 0), (.sl .nil 0)]).bind fun h35 =>
 (((h35.ld (.n h.next) 0).bind fun w36 =>
 (AV.asSl w36).bind fun l37 =>
 ldS h35 (.n h.next) 1 fun l39 =>
 ldS h35 (.n h.next) 2 fun l41 =>
 some ((.tup [(.agg [(.sl l37.1 l37.2), (.sl l39.1 l39.2), (.sl l41.1 l41.2)]), (.i .i64 (IntKind.i64.wrap (n8 + 1))), (.i .i64 61)]), h35) : Option (AV × AH O)).map fun r => Sum.inr (Sum.inr r))
 else let h42 := h34.bump 2
 ldS h42 (.n r3.2.next) 0 fun l44 =>
 ldI h42 (.n r14.2.next) 0 fun n46 =>
 ldI h42 (.n r14.2.next) 1 fun n48 =>
 ldI h42 (.n r14.2.next) 2 fun n50 =>
 ldI h42 (.n r14.2.next) 3 fun n52 =>
 (h42.ld (.n r14.2.next) 4).bind fun w53 =>
 (AV.asB w53).bind fun b54 =>
 ldS h42 (.n r14.2.next) 5 fun l56 =>
 ldS h42 (.n r14.2.next) 6 fun l58 =>
 let h59 := h42.put h34.next (.cells true 48 [(.i .i64 n46), (.i .i64 n48), (.i .i64 n50), (.i .i64 n52), (.b b54), (.sl l56.1 l56.2), (.sl l58.1 l58.2)])
 (h59.rdSl (.loc (.n h34.next) 0 7) 1 7).bind fun new60 =>
 (bif (Nat.ble ((l44.2 + 1) * 89) 35184372088832) then
 (h59.appSl (h34.next + 1) 48 7 l44.1 l44.2 1 new60).bind fun r61 =>
 (AV.asSl r61.1).bind fun l62 =>
 (r61.2.st (.n r3.2.next) 0 [(.sl l62.1 l62.2)]).bind fun h63 =>
 some (Sum.inl ([(.i .i64 (IntKind.i64.wrap (n8 + 1)))], h63))
 else none))
 else none)
 else some (Sum.inr (Sum.inl ([(.i .i64 n8)], r14.2)))))
def lines_Parse_c (k21 k22 k23 k24 k14 : Sm O) : Sm O := fun xs h =>
 bif Nat.beq xs.length 1 then
 (AV.asS (xs.getD 0 .u)).bind fun s0 =>
 let h1 := h.bump 1
 let h2 := h1.put h.next (.cells true 25 [(.sl .nil 0), (.sl .nil 0), (.sl .nil 0)])
 (k21 [(.s s0), (.s ([10] : List UInt8))] h2).bind fun r3 =>
 (AV.asSl r3.1).bind fun l4 =>
 let h5 := r3.2.bump 1
 let h6 := h5.put r3.2.next (.cells true 25 [(.sl .nil 0), (.sl .nil 0), (.sl .nil 0)])
 bindS (S := List AV × AH O) (R := (AV × AH O)) (loopF (S := List AV × AH O) (T := (List AV × AH O) ⊕ (AV × AH O)) (lines_Parse_L1 l4 k22 k21 k23 h r3) ([(.i .i64 0)], h6)) fun r64 =>
 (AV.asI .i64 (r64.1.getD 0 .u)).bind fun n65 =>
 let h66 := r64.2.bump 1
 let h67 := h66.put r64.2.next (.cells true 9 [(.s ([114, 111, 111, 116, 115] : List UInt8)), (.s ([119, 101, 97, 107] : List UInt8))])
 bindS (S := List AV × AH O) (R := (AV × AH O)) (loopF (S := List AV × AH O) (T := (List AV × AH O) ⊕ (AV × AH O)) (lines_Parse_L2 r64 l4 h k24 r3) ([(.i .i64 n65), (.i .i64 0)], h67)) fun r98 =>
 (AV.asI .i64 (r98.1.getD 0 .u)).bind fun n99 =>
 let c100 : Bool := ((n99 : Int) != (IntKind.i64.wrap ((l4.2 : Int) - 1)))
 ((bif (c100 == false) then
 (bif ((decide ((0 : Int) ≤ n99)) && (decide (n99 < (l4.2 : Int)))) then
 (SA.ref l4.1).bind fun q101 =>
 (r98.2.ld q101.1 (q101.2 + (n99.toNat * 1))).bind fun w102 =>
 (AV.asS w102).bind fun s103 =>
 some ([(.b (!(s103 == ([] : List UInt8))))], r98.2)
 else none)
 else some ([(.b true)], r98.2)) : Option (List AV × AH O)).bind fun r104 =>
 (AV.asB (r104.1.getD 0 .u)).bind fun b105 =>
 (bif b105 then
 (r104.2.st (.n h.next) 0 [(.sl .nil 0), (.sl .nil 0), (.sl .nil 0)]).bind fun h106 =>
 ldS h106 (.n h.next) 0 fun l108 =>
 ldS h106 (.n h.next) 1 fun l110 =>
 ldS h106 (.n h.next) 2 fun l112 =>
 some ((.tup [(.agg [(.sl l108.1 l108.2), (.sl l110.1 l110.2), (.sl l112.1 l112.2)]), (.i .i64 (IntKind.i64.wrap (n99 + 1))), (.i .i64 61)]), h106)
 else ldS r104.2 (.n r3.2.next) 0 fun l114 =>
 ldS r104.2 (.n r3.2.next) 1 fun l116 =>
 ldS r104.2 (.n r3.2.next) 2 fun l118 =>
 (k14 [(.agg [(.sl l114.1 l114.2), (.sl l116.1 l116.2), (.sl l118.1 l118.2)])] r104.2).bind fun r119 =>
 (AV.asB r119.1).bind fun b120 =>
 (bif (!b120) then
 (r119.2.st (.n h.next) 0 [(.sl .nil 0), (.sl .nil 0), (.sl .nil 0)]).bind fun h121 =>
 ldS h121 (.n h.next) 0 fun l123 =>
 ldS h121 (.n h.next) 1 fun l125 =>
 ldS h121 (.n h.next) 2 fun l127 =>
 some ((.tup [(.agg [(.sl l123.1 l123.2), (.sl l125.1 l125.2), (.sl l127.1 l127.2)]), (.i .i64 0), (.i .i64 5)]), h121)
 else ldS r119.2 (.n r3.2.next) 0 fun l129 =>
 ldS r119.2 (.n r3.2.next) 1 fun l131 =>
 ldS r119.2 (.n r3.2.next) 2 fun l133 =>
 (r119.2.st (.n h.next) 0 [(.sl l129.1 l129.2), (.sl l131.1 l131.2), (.sl l133.1 l133.2)]).bind fun h134 =>
 ldS h134 (.n h.next) 0 fun l136 =>
 ldS h134 (.n h.next) 1 fun l138 =>
 ldS h134 (.n h.next) 2 fun l140 =>
 some ((.tup [(.agg [(.sl l136.1 l136.2), (.sl l138.1 l138.2), (.sl l140.1 l140.2)]), (.i .i64 0), (.i .i64 0)]), h134)))
 else none
def lines_Parse : Sm O := frz (lines_Parse_c strings_Split strings_HasPrefix lines_readNode lines_readNumbers canon_Right)
theorem lines_Parse_ent : Entered Tryd.prog 10 := Tryd.call10
theorem lines_Parse_run (k21 k22 k23 k24 k14 : Sm O) : run (O := O) Tryd.prog [(21, k21), (22, k22), (23, k23), (24, k24), (14, k14)] Tryd.f10 (.n .z (.n .z (.n .z (.n .z (.n (.n (.lp true 0 [(7, .one (.i .i64))] [(7, .one (.i .i64))] (.n (.n (.g [(4, 5, [(26, .one .b)])]) .z) (.n (.n (.n .z (.n (.n .z (.n .z .z)) .z)) .z) .z))) .z) (.n (.n .z (.n (.lp true 2 [(7, .one (.i .i64)), (51, .one (.i .i64))] [(7, .one (.i .i64))] (.n .z (.n .z (.n (.n (.n .z (.n (.n .z (.n .z .z)) (.n .z (.n (.n .z (.n .z .z)) (.n (.n .z (.j false [] .z .z)) .z))))) .z) .z)))) .z)) (.n (.n (.n (.g [(5, 5, [(97, .one .b)])]) (.n .z (.n .z (.n .z .z)))) .z) .z))))))) = lines_Parse_c k21 k22 k23 k24 k14 := by kernel_rfl
theorem lines_Parse_sound : FSound RO Tryd.prog 10 (lines_Parse) :=
   have h : FSound RO Tryd.prog 10 (lines_Parse_c strings_Split strings_HasPrefix lines_readNode lines_readNumbers canon_Right) := (lines_Parse_run strings_Split strings_HasPrefix lines_readNode lines_readNumbers canon_Right) ▸ run_sound (gcons strings_Split_ent (strings_Split_sound) <| gcons strings_HasPrefix_ent (strings_HasPrefix_sound) <| gcons lines_readNode_ent (lines_readNode_sound) <| gcons lines_readNumbers_ent (lines_readNumbers_sound) <| gcons canon_Right_ent (canon_Right_sound) <| gnil) mixed Tryd.func10 (by kernel_rfl) _
   h.frz
def digits_Text_L1 (h : AH O) : List AV × AH O → Option ((List AV × AH O) ⊕ (List AV × AH O)) := (fun r3 =>
 (AV.asI .i64 (r3.1.getD 0 .u)).bind fun n4 =>
 (AV.asI .i64 (r3.1.getD 1 .u)).bind fun n5 =>
 let v6 : Int := (if (IntKind.i64.wrap (0 - (Int.tmod n5 10))) > (Int.tmod n5 10) then (IntKind.i64.wrap (0 - (Int.tmod n5 10))) else (Int.tmod n5 10))
 (bif ((decide ((0 : Int) ≤ (IntKind.i64.wrap (n4 - 1)))) && (decide ((IntKind.i64.wrap (n4 - 1)) < 20))) then
 (r3.2.st (.n h.next) (0 + ((IntKind.i64.wrap (n4 - 1)).toNat * 1)) [(.i .u8 (IntKind.u8.wrap (IntKind.i64.wrap (48 + v6))))]).bind fun h7 =>
 let c8 : Bool := (((IntKind.i64.wrap (Int.tdiv n5 10)) : Int) == 0)
 (bif c8 then
 some (Sum.inr ([(.i .i64 (IntKind.i64.wrap (n4 - 1)))], h7))
 else some (Sum.inl ([(.i .i64 (IntKind.i64.wrap (n4 - 1))), (.i .i64 (IntKind.i64.wrap (Int.tdiv n5 10)))], h7)))
 else none))
def digits_Text_c : Sm O := fun xs h =>
 bif Nat.beq xs.length 1 then
 gtI xs 0 fun n0 =>
 let h1 := h.bump 1
 let h2 := h1.put h.next (.cells true 99 [(.i .u8 0), (.i .u8 0), (.i .u8 0), (.i .u8 0), (.i .u8 0), (.i .u8 0), (.i .u8 0), (.i .u8 0), (.i .u8 0), (.i .u8 0), (.i .u8 0), (.i .u8 0), (.i .u8 0), (.i .u8 0), (.i .u8 0), (.i .u8 0), (.i .u8 0), (.i .u8 0), (.i .u8 0), (.i .u8 0)])
 (loopF (S := List AV × AH O) (T := List AV × AH O) (digits_Text_L1 h) ([(.i .i64 20), (.i .i64 n0)], h2)).bind fun r9 =>
 (AV.asI .i64 (r9.1.getD 0 .u)).bind fun n10 =>
 (bif (decide (n0 < 0)) then
 (bif ((((decide ((0 : Int) ≤ n10)) && (decide (n10 < 20))) && true) && true) then
 (r9.2.rdSl (.ar (.n h.next) (0 + (n10.toNat * 1)) 1) (20 - n10.toNat) 1).bind fun c11 =>
 (asBytes c11).bind fun s12 =>
 (bif (Nat.ble (([45] : List UInt8).length + s12.length) 9223372036854775807) then
 some ((.s (([45] : List UInt8) ++ s12)), r9.2)
 else none)
 else none)
 else (bif ((((decide ((0 : Int) ≤ n10)) && (decide (n10 < 20))) && true) && true) then
 (r9.2.rdSl (.ar (.n h.next) (0 + (n10.toNat * 1)) 1) (20 - n10.toNat) 1).bind fun c13 =>
 (asBytes c13).bind fun s14 =>
 some ((.s s14), r9.2)
 else none))
 else none
def digits_Text : Sm O := digits_Text_c
theorem digits_Text_ent : Entered Tryd.prog 37 := Tryd.call37
theorem digits_Text_run : run (O := O) Tryd.prog [] Tryd.f37 (.n .z (.n .z (.n .z (.n (.n .z (.n (.lp false 0 [(4, .one (.i .i64)), (5, .one (.i .i64))] [(4, .one (.i .i64))] (.n (.n (.n .z (.n .z (.n .z (.n .z .z)))) .z) .z)) .z)) (.n (.n .z (.n .z .z)) .z))))) = digits_Text_c  := by kernel_rfl
theorem digits_Text_sound : FSound RO Tryd.prog 37 digits_Text := sdf digits_Text_run (gnil) Tryd.func37 (by kernel_rfl)
def digits_Hex_L1 (n0 : Int) (h : AH O) : List AV × AH O → Option ((List AV × AH O) ⊕ (List AV × AH O)) := (fun r3 =>
 (AV.asI .i64 (r3.1.getD 0 .u)).bind fun n4 =>
 (bif (decide (n4 < 16)) then
 let v5 : Int := (IntKind.i64.wrap (60 - (IntKind.i64.wrap (4 * n4))))
 (bif (decide (v5 < 0)) then
 none
 else let v6 : Int := (ibits .and .u64 (Int.fdiv n0 (2 ^ min v5.toNat 64)) 15)
 (bif (decide ((0 : Int) ≤ v6)) then
 (([48, 49, 50, 51, 52, 53, 54, 55, 56, 57, 97, 98, 99, 100, 101, 102] : List UInt8)[v6.toNat]?).bind fun y7 =>
 (bif ((decide ((0 : Int) ≤ n4)) && (decide (n4 < 16))) then
 (r3.2.st (.n h.next) (0 + (n4.toNat * 1)) [(.i .u8 (y7.toNat : Int))]).bind fun h8 =>
 some (Sum.inl ([(.i .i64 (IntKind.i64.wrap (n4 + 1)))], h8))
 else none)
 else none))
 else some (Sum.inr ([], r3.2))))
def digits_Hex_c : Sm O := fun xs h =>
 bif Nat.beq xs.length 1 then
 gtU xs 0 fun n0 =>
 let h1 := h.bump 1
 let h2 := h1.put h.next (.cells true 100 [(.i .u8 0), (.i .u8 0), (.i .u8 0), (.i .u8 0), (.i .u8 0), (.i .u8 0), (.i .u8 0), (.i .u8 0), (.i .u8 0), (.i .u8 0), (.i .u8 0), (.i .u8 0), (.i .u8 0), (.i .u8 0), (.i .u8 0), (.i .u8 0)])
 (loopF (S := List AV × AH O) (T := List AV × AH O) (digits_Hex_L1 n0 h) ([(.i .i64 0)], h2)).bind fun r9 =>
 (r9.2.rdSl (.ar (.n h.next) 0 1) (16 - 0) 1).bind fun c10 =>
 (asBytes c10).bind fun s11 =>
 some ((.s s11), r9.2)
 else none
def digits_Hex : Sm O := digits_Hex_c
theorem digits_Hex_ent : Entered Tryd.prog 38 := Tryd.call38
theorem digits_Hex_run : run (O := O) Tryd.prog [] Tryd.f38 (.n .z (.n .z (.n (.n .z (.n (.lp false 0 [(5, .one (.i .i64))] [] (.n .z (.n .z (.n (.n .z .z) .z)))) .z)) .z))) = digits_Hex_c  := by kernel_rfl
theorem digits_Hex_sound : FSound RO Tryd.prog 38 digits_Hex := sdf digits_Hex_run (gnil) Tryd.func38 (by kernel_rfl)
def lines_node_L2 (l47 : SA × Nat) (k38 : Sm O) : List AV × AH O → Option ((List AV × AH O) ⊕ (List AV × AH O)) := (fun r48 =>
 (AV.asSl (r48.1.getD 0 .u)).bind fun l49 =>
 (AV.asI .i64 (r48.1.getD 1 .u)).bind fun n50 =>
 (bif (decide (n50 < (l47.2 : Int))) then
 (bif ((decide ((0 : Int) ≤ n50)) && (decide (n50 < (l47.2 : Int)))) then
 (SA.ref l47.1).bind fun q51 =>
 ldU r48.2 q51.1 (q51.2 + (n50.toNat * 1)) fun n53 =>
 let h54 := r48.2.bump 2
 (k38 [(.i .u64 n53)] h54).bind fun r55 =>
 (AV.asS r55.1).bind fun s56 =>
 let h57 := r55.2.put r48.2.next (.cells true 9 [(.s s56)])
 (h57.rdSl (.loc (.n r48.2.next) 0 1) 1 1).bind fun new58 =>
 (bif (Nat.ble ((l49.2 + 1) * 17) 35184372088832) then
 (h57.appSl (r48.2.next + 1) 9 1 l49.1 l49.2 1 new58).bind fun r59 =>
 (AV.asSl r59.1).bind fun l60 =>
 some (Sum.inl ([(.sl l60.1 l60.2), (.i .i64 (IntKind.i64.wrap (n50 + 1)))], r59.2))
 else none)
 else none)
 else some (Sum.inr ([(.sl l49.1 l49.2)], r48.2))))
def lines_node_L1 (l25 : SA × Nat) (k37 : Sm O) : List AV × AH O → Option ((List AV × AH O) ⊕ (List AV × AH O)) := (fun r26 =>
 (AV.asSl (r26.1.getD 0 .u)).bind fun l27 =>
 (AV.asI .i64 (r26.1.getD 1 .u)).bind fun n28 =>
 (bif (decide (n28 < (l25.2 : Int))) then
 (bif ((decide ((0 : Int) ≤ n28)) && (decide (n28 < (l25.2 : Int)))) then
 (SA.ref l25.1).bind fun q29 =>
 ldI r26.2 q29.1 (q29.2 + (n28.toNat * 1)) fun n31 =>
 let h32 := r26.2.bump 2
 (k37 [(.i .i64 n31)] h32).bind fun r33 =>
 (AV.asS r33.1).bind fun s34 =>
 let h35 := r33.2.put r26.2.next (.cells true 9 [(.s s34)])
 (h35.rdSl (.loc (.n r26.2.next) 0 1) 1 1).bind fun new36 =>
 (bif (Nat.ble ((l27.2 + 1) * 17) 35184372088832) then
 (h35.appSl (r26.2.next + 1) 9 1 l27.1 l27.2 1 new36).bind fun r37 =>
 (AV.asSl r37.1).bind fun l38 =>
 some (Sum.inl ([(.sl l38.1 l38.2), (.i .i64 (IntKind.i64.wrap (n28 + 1)))], r37.2))
 else none)
 else none)
 else some (Sum.inr ([(.sl l27.1 l27.2)], r26.2))))
def lines_node_c (k37 k38 k39 : Sm O) : Sm O := fun xs h =>
 bif Nat.beq xs.length 1 then
 (AV.asAgg 7 (xs.getD 0 .u)).bind fun c0 =>
 gtI c0 0 fun n1 =>
 gtI c0 1 fun n2 =>
 gtI c0 2 fun n3 =>
 gtI c0 3 fun n4 =>
 (AV.asB (c0.getD 4 .u)).bind fun b5 =>
 gtS c0 5 fun l6 =>
 gtS c0 6 fun l7 =>
 let h8 := h.bump 1
 let h9 := h8.put h.next (.cells true 48 [(.i .i64 n1), (.i .i64 n2), (.i .i64 n3), (.i .i64 n4), (.b b5), (.sl l6.1 l6.2), (.sl l7.1 l7.2)])
 (h9.ld (.n h.next) 4).bind fun w10 =>
 (AV.asB w10).bind fun b11 =>
 ((bif b11 then
 some ([(.s ([108, 97, 114, 103, 101] : List UInt8))], h9)
 else some ([(.s ([115, 109, 97, 108, 108] : List UInt8))], h9)) : Option (List AV × AH O)).bind fun r12 =>
 (AV.asS (r12.1.getD 0 .u)).bind fun s13 =>
 let h14 := r12.2.bump 1
 ldI h14 (.n h.next) 2 fun n16 =>
 ldI h14 (.n h.next) 3 fun n18 =>
 (k37 [(.i .i64 n16)] h14).bind fun r19 =>
 (AV.asS r19.1).bind fun s20 =>
 (chkE (r19.2.ld (.n h.next) 3) (some (.i .i64 n18))).bind fun _ =>
 (k37 [(.i .i64 n18)] r19.2).bind fun r21 =>
 (AV.asS r21.1).bind fun s22 =>
 let h23 := r21.2.put r12.2.next (.cells true 9 [(.s ([110, 111, 100, 101] : List UInt8)), (.s s13), (.s s20), (.s s22)])
 ldS h23 (.n h.next) 5 fun l25 =>
 (loopF (S := List AV × AH O) (T := List AV × AH O) (lines_node_L1 l25 k37) ([(.sl (.loc (.n r12.2.next) 0 1) 4), (.i .i64 0)], h23)).bind fun r39 =>
 (AV.asSl (r39.1.getD 0 .u)).bind fun l40 =>
 let h41 := r39.2.bump 2
 let h42 := h41.put r39.2.next (.cells true 9 [(.s ([58] : List UInt8))])
 (h42.rdSl (.loc (.n r39.2.next) 0 1) 1 1).bind fun new43 =>
 (bif (Nat.ble ((l40.2 + 1) * 17) 35184372088832) then
 (h42.appSl (r39.2.next + 1) 9 1 l40.1 l40.2 1 new43).bind fun r44 =>
 (AV.asSl r44.1).bind fun l45 =>
 ldS r44.2 (.n h.next) 6 fun l47 =>
 (loopF (S := List AV × AH O) (T := List AV × AH O) (lines_node_L2 l47 k38) ([(.sl l45.1 l45.2), (.i .i64 0)], r44.2)).bind fun r61 =>
 (AV.asSl (r61.1.getD 0 .u)).bind fun l62 =>
 (k39 [(.sl l62.1 l62.2), (.s ([32] : List UInt8))] r61.2).bind fun r63 =>
 (AV.asS r63.1).bind fun s64 =>
 some ((.s s64), r63.2)
 else none)
 else none
def lines_node : Sm O := lines_node_c digits_Text digits_Hex strings_Join
theorem lines_node_ent : Entered Tryd.prog 16 := Tryd.call16
theorem lines_node_run (k37 k38 k39 : Sm O) : run (O := O) Tryd.prog [(37, k37), (38, k38), (39, k39)] Tryd.f16 (.n .z (.n .z (.n (.n .z (.j false [(3, .one .s)] .z .z)) (.n (.d [] [0, 1, 2, 3, 5, 6, 7, 4, 8, 9, 10] [0, 0, 2, 6, 14, 0, 32, 96, 254, 511, 1023]) (.n (.n .z (.n (.lp false 0 [(4, .one .sl), (25, .one (.i .i64))] [(4, .one .sl)] (.n .z (.n .z (.n (.n .z .z) .z)))) .z)) (.n .z (.n (.n .z (.n (.lp false 2 [(4, .one .sl), (41, .one (.i .i64))] [(4, .one .sl)] (.n .z (.n .z (.n (.n .z .z) .z)))) .z)) .z))))))) = lines_node_c k37 k38 k39 := by kernel_rfl
theorem lines_node_sound : FSound RO Tryd.prog 16 lines_node := sdf (lines_node_run _ _ _) (gcons digits_Text_ent digits_Text_sound <| gcons digits_Hex_ent digits_Hex_sound <| gcons strings_Join_ent strings_Join_sound <| gnil) Tryd.func16 (by kernel_rfl)
def __strings_Builder__WriteString_c (k36 : Sm O) : Sm O := fun xs h =>
 bif Nat.beq xs.length 2 then
 (AV.asP (xs.getD 0 .u)).bind fun p0 =>
 (AV.asS (xs.getD 1 .u)).bind fun s1 =>
 (k36 [(.p p0)] h).bind fun r2 =>
 (AV.asTup 0 r2.1).bind fun c3 =>
 let h4 := r2.2.bump 1
 Option.bind p0 fun q5 =>
 ldS h4 q5.1 (q5.2 + 1) fun l7 =>
 (bif (Nat.ble ((l7.2 + s1.length) * 2) 35184372088832) then
 (h4.appSl r2.2.next 5 1 l7.1 l7.2 s1.length (s1.map fun c => (.i .u8 c.toNat : AV))).bind fun r8 =>
 (AV.asSl r8.1).bind fun l9 =>
 Option.bind p0 fun q10 =>
 (r8.2.st q10.1 (q10.2 + 1) [(.sl l9.1 l9.2)]).bind fun h11 =>
 some ((.tup [(.i .i64 (s1.length : Int)), .nifc]), h11)
 else none)
 else none
def __strings_Builder__WriteString : Sm O := __strings_Builder__WriteString_c __strings_Builder__copyCheck
theorem __strings_Builder__WriteString_ent : Entered Tryd.prog 15 := Tryd.call15
theorem __strings_Builder__WriteString_run (k36 : Sm O) : run (O := O) Tryd.prog [(36, k36)] Tryd.f15 (.n .z (.n .z (.n .z .z))) = __strings_Builder__WriteString_c k36 := by kernel_rfl
theorem __strings_Builder__WriteString_sound : FSound RO Tryd.prog 15 __strings_Builder__WriteString := sdf (__strings_Builder__WriteString_run _) (gcons __strings_Builder__copyCheck_ent __strings_Builder__copyCheck_sound <| gnil) Tryd.func15 (by kernel_rfl)
def __strings_Builder__WriteByte_c (k36 : Sm O) : Sm O := fun xs h =>
 bif Nat.beq xs.length 2 then
 (AV.asP (xs.getD 0 .u)).bind fun p0 =>
 (AV.asI .u8 (xs.getD 1 .u)).bind fun n1 =>
 (k36 [(.p p0)] h).bind fun r2 =>
 (AV.asTup 0 r2.1).bind fun c3 =>
 let h4 := r2.2.bump 2
 Option.bind p0 fun q5 =>
 ldS h4 q5.1 (q5.2 + 1) fun l7 =>
 let h8 := h4.put r2.2.next (.cells true 5 [(.i .u8 n1)])
 (h8.rdSl (.loc (.n r2.2.next) 0 1) 1 1).bind fun new9 =>
 (bif (Nat.ble ((l7.2 + 1) * 2) 35184372088832) then
 (h8.appSl (r2.2.next + 1) 5 1 l7.1 l7.2 1 new9).bind fun r10 =>
 (AV.asSl r10.1).bind fun l11 =>
 Option.bind p0 fun q12 =>
 (r10.2.st q12.1 (q12.2 + 1) [(.sl l11.1 l11.2)]).bind fun h13 =>
 some (.nifc, h13)
 else none)
 else none
def __strings_Builder__WriteByte : Sm O := __strings_Builder__WriteByte_c __strings_Builder__copyCheck
theorem __strings_Builder__WriteByte_ent : Entered Tryd.prog 17 := Tryd.call17
theorem __strings_Builder__WriteByte_run (k36 : Sm O) : run (O := O) Tryd.prog [(36, k36)] Tryd.f17 (.n .z (.n .z (.n .z .z))) = __strings_Builder__WriteByte_c k36 := by kernel_rfl
theorem __strings_Builder__WriteByte_sound : FSound RO Tryd.prog 17 __strings_Builder__WriteByte := sdf (__strings_Builder__WriteByte_run _) (gcons __strings_Builder__copyCheck_ent __strings_Builder__copyCheck_sound <| gnil) Tryd.func17 (by kernel_rfl)
def digits_List_L1 (l0 : SA × Nat) (k17 : Sm O) (h : AH O) (k37 : Sm O) (k15 : Sm O) : List AV × AH O → Option ((List AV × AH O) ⊕ (List AV × AH O)) := (fun r3 =>
 (AV.asI .i64 (r3.1.getD 0 .u)).bind fun n4 =>
 (bif (decide (n4 < (l0.2 : Int))) then
 (bif ((decide ((0 : Int) ≤ n4)) && (decide (n4 < (l0.2 : Int)))) then
 (SA.ref l0.1).bind fun q5 =>
 ldI r3.2 q5.1 (q5.2 + (n4.toNat * 1)) fun n7 =>
 ((bif (decide (n4 > 0)) then
 (k17 [(.p (some ((.n h.next), 0))), (.i .u8 32)] r3.2).bind fun r8 =>
 some ([], r8.2)
 else some ([], r3.2)) : Option (List AV × AH O)).bind fun r9 =>
 (k37 [(.i .i64 n7)] r9.2).bind fun r10 =>
 (AV.asS r10.1).bind fun s11 =>
 (k15 [(.p (some ((.n h.next), 0))), (.s s11)] r10.2).bind fun r12 =>
 (AV.asTup 2 r12.1).bind fun c13 =>
 gtI c13 0 fun n14 =>
 some (Sum.inl ([(.i .i64 (IntKind.i64.wrap (n4 + 1)))], r12.2))
 else none)
 else some (Sum.inr ([], r3.2))))
def digits_List_c (k17 k37 k15 k19 : Sm O) : Sm O := fun xs h =>
 bif Nat.beq xs.length 1 then
 gtS xs 0 fun l0 =>
 let h1 := h.bump 1
 let h2 := h1.put h.next (.cells true 54 [(.p none), (.sl .nil 0)])
 (loopF (S := List AV × AH O) (T := List AV × AH O) (digits_List_L1 l0 k17 h k37 k15) ([(.i .i64 0)], h2)).bind fun r15 =>
 (k19 [(.p (some ((.n h.next), 0)))] r15.2).bind fun r16 =>
 (AV.asS r16.1).bind fun s17 =>
 some ((.s s17), r16.2)
 else none
def digits_List : Sm O := digits_List_c __strings_Builder__WriteByte digits_Text __strings_Builder__WriteString __strings_Builder__String
theorem digits_List_ent : Entered Tryd.prog 40 := Tryd.call40
theorem digits_List_run (k17 k37 k15 k19 : Sm O) : run (O := O) Tryd.prog [(17, k17), (37, k37), (15, k15), (19, k19)] Tryd.f40 (.n .z (.n .z (.n (.n .z (.n (.lp false 0 [(8, .one (.i .i64))] [] (.n .z (.n .z (.n (.n (.n .z (.n (.n .z (.j false [] .z .z)) .z)) .z) .z)))) .z)) .z))) = digits_List_c k17 k37 k15 k19 := by kernel_rfl
theorem digits_List_sound : FSound RO Tryd.prog 40 digits_List := sdf (digits_List_run _ _ _ _) (gcons __strings_Builder__WriteByte_ent __strings_Builder__WriteByte_sound <| gcons digits_Text_ent digits_Text_sound <| gcons __strings_Builder__WriteString_ent __strings_Builder__WriteString_sound <| gcons __strings_Builder__String_ent __strings_Builder__String_sound <| gnil) Tryd.func40 (by kernel_rfl)
def lines_numbers_c (k40 : Sm O) : Sm O := fun xs h =>
 bif Nat.beq xs.length 2 then
 (AV.asS (xs.getD 0 .u)).bind fun s0 =>
 gtS xs 1 fun l1 =>
 (bif (((l1.2 : Int) : Int) == 0) then
 some ((.s s0), h)
 else (bif (Nat.ble (s0.length + ([32] : List UInt8).length) 9223372036854775807) then
 (k40 [(.sl l1.1 l1.2)] h).bind fun r2 =>
 (AV.asS r2.1).bind fun s3 =>
 (bif (Nat.ble ((s0 ++ ([32] : List UInt8)).length + s3.length) 9223372036854775807) then
 some ((.s ((s0 ++ ([32] : List UInt8)) ++ s3)), r2.2)
 else none)
 else none))
 else none
def lines_numbers : Sm O := lines_numbers_c digits_List
theorem lines_numbers_ent : Entered Tryd.prog 18 := Tryd.call18
theorem lines_numbers_run (k40 : Sm O) : run (O := O) Tryd.prog [(40, k40)] Tryd.f18 (.n .z (.n (.n .z (.n .z .z)) .z)) = lines_numbers_c k40 := by kernel_rfl
theorem lines_numbers_sound : FSound RO Tryd.prog 18 lines_numbers := sdf (lines_numbers_run _) (gcons digits_List_ent digits_List_sound <| gnil) Tryd.func18 (by kernel_rfl)
def lines_Text_L1 (l17 : SA × Nat) (k16 : Sm O) (k15 : Sm O) (r12 : AV × AH O) (k17 : Sm O) : List AV × AH O → Option ((List AV × AH O) ⊕ (List AV × AH O)) := (fun r18 =>
 (AV.asI .i64 (r18.1.getD 0 .u)).bind fun n19 =>
 (bif (decide (n19 < (l17.2 : Int))) then
 let h20 := r18.2.bump 1
 (bif ((decide ((0 : Int) ≤ n19)) && (decide (n19 < (l17.2 : Int)))) then
 (SA.ref l17.1).bind fun q21 =>
 ldI h20 q21.1 (q21.2 + (n19.toNat * 7)) fun n23 =>
 ldI h20 q21.1 ((q21.2 + (n19.toNat * 7)) + 1) fun n25 =>
 ldI h20 q21.1 (((q21.2 + (n19.toNat * 7)) + 1) + 1) fun n27 =>
 ldI h20 q21.1 ((((q21.2 + (n19.toNat * 7)) + 1) + 1) + 1) fun n29 =>
 (h20.ld q21.1 (((((q21.2 + (n19.toNat * 7)) + 1) + 1) + 1) + 1)).bind fun w30 =>
 (AV.asB w30).bind fun b31 =>
 ldS h20 q21.1 ((((((q21.2 + (n19.toNat * 7)) + 1) + 1) + 1) + 1) + 1) fun l33 =>
 ldS h20 q21.1 (((((((q21.2 + (n19.toNat * 7)) + 1) + 1) + 1) + 1) + 1) + 1) fun l35 =>
 let h36 := h20.put r18.2.next (.cells true 48 [(.i .i64 0), (.i .i64 0), (.i .i64 0), (.i .i64 0), (.b false), (.sl .nil 0), (.sl .nil 0)])
 (h36.st (.n r18.2.next) 0 [(.i .i64 n23), (.i .i64 n25), (.i .i64 n27), (.i .i64 n29), (.b b31), (.sl l33.1 l33.2), (.sl l35.1 l35.2)]).bind fun h37 =>
 ldI h37 (.n r18.2.next) 0 fun n39 =>
 ldI h37 (.n r18.2.next) 1 fun n41 =>
 ldI h37 (.n r18.2.next) 2 fun n43 =>
 ldI h37 (.n r18.2.next) 3 fun n45 =>
 (h37.ld (.n r18.2.next) 4).bind fun w46 =>
 (AV.asB w46).bind fun b47 =>
 ldS h37 (.n r18.2.next) 5 fun l49 =>
 ldS h37 (.n r18.2.next) 6 fun l51 =>
 (k16 [(.agg [(.i .i64 n39), (.i .i64 n41), (.i .i64 n43), (.i .i64 n45), (.b b47), (.sl l49.1 l49.2), (.sl l51.1 l51.2)])] h37).bind fun r52 =>
 (AV.asS r52.1).bind fun s53 =>
 (k15 [(.p (some ((.n r12.2.next), 0))), (.s s53)] r52.2).bind fun r54 =>
 (AV.asTup 2 r54.1).bind fun c55 =>
 gtI c55 0 fun n56 =>
 (k17 [(.p (some ((.n r12.2.next), 0))), (.i .u8 10)] r54.2).bind fun r57 =>
 some (Sum.inl ([(.i .i64 (IntKind.i64.wrap (n19 + 1)))], r57.2))
 else none)
 else some (Sum.inr ([], r18.2))))
def lines_Text_c (k14 k16 k15 k17 k18 k19 : Sm O) : Sm O := fun xs h =>
 bif Nat.beq xs.length 1 then
 (AV.asAgg 3 (xs.getD 0 .u)).bind fun c0 =>
 gtS c0 0 fun l1 =>
 gtS c0 1 fun l2 =>
 gtS c0 2 fun l3 =>
 let h4 := h.bump 1
 let h5 := h4.put h.next (.cells true 25 [(.sl l1.1 l1.2), (.sl l2.1 l2.2), (.sl l3.1 l3.2)])
 ldS h5 (.n h.next) 0 fun l7 =>
 ldS h5 (.n h.next) 1 fun l9 =>
 ldS h5 (.n h.next) 2 fun l11 =>
 (k14 [(.agg [(.sl l7.1 l7.2), (.sl l9.1 l9.2), (.sl l11.1 l11.2)])] h5).bind fun r12 =>
 (AV.asB r12.1).bind fun b13 =>
 (bif (!b13) then
 some ((.s ([] : List UInt8)), r12.2)
 else let h14 := r12.2.bump 1
 let h15 := h14.put r12.2.next (.cells true 54 [(.p none), (.sl .nil 0)])
 ldS h15 (.n h.next) 0 fun l17 =>
 (loopF (S := List AV × AH O) (T := List AV × AH O) (lines_Text_L1 l17 k16 k15 r12 k17) ([(.i .i64 0)], h15)).bind fun r58 =>
 ldS r58.2 (.n h.next) 1 fun l60 =>
 (k18 [(.s ([114, 111, 111, 116, 115] : List UInt8)), (.sl l60.1 l60.2)] r58.2).bind fun r61 =>
 (AV.asS r61.1).bind fun s62 =>
 (k15 [(.p (some ((.n r12.2.next), 0))), (.s s62)] r61.2).bind fun r63 =>
 (AV.asTup 2 r63.1).bind fun c64 =>
 gtI c64 0 fun n65 =>
 (k17 [(.p (some ((.n r12.2.next), 0))), (.i .u8 10)] r63.2).bind fun r66 =>
 ldS r66.2 (.n h.next) 2 fun l68 =>
 (k18 [(.s ([119, 101, 97, 107] : List UInt8)), (.sl l68.1 l68.2)] r66.2).bind fun r69 =>
 (AV.asS r69.1).bind fun s70 =>
 (k15 [(.p (some ((.n r12.2.next), 0))), (.s s70)] r69.2).bind fun r71 =>
 (AV.asTup 2 r71.1).bind fun c72 =>
 gtI c72 0 fun n73 =>
 (k17 [(.p (some ((.n r12.2.next), 0))), (.i .u8 10)] r71.2).bind fun r74 =>
 (k19 [(.p (some ((.n r12.2.next), 0)))] r74.2).bind fun r75 =>
 (AV.asS r75.1).bind fun s76 =>
 some ((.s s76), r75.2))
 else none
def lines_Text : Sm O := lines_Text_c canon_Right lines_node __strings_Builder__WriteString __strings_Builder__WriteByte lines_numbers __strings_Builder__String
theorem lines_Text_ent : Entered Tryd.prog 8 := Tryd.call8
theorem lines_Text_run (k14 k16 k15 k17 k18 k19 : Sm O) : run (O := O) Tryd.prog [(14, k14), (16, k16), (15, k15), (17, k17), (18, k18), (19, k19)] Tryd.f8 (.n .z (.n (.n .z (.n .z .z)) (.n .z (.n (.n .z (.n (.lp false 0 [(12, .one (.i .i64))] [] (.n .z (.n .z (.n (.n (.n .z .z) .z) .z)))) .z)) (.n .z (.n .z (.n .z (.n .z .z)))))))) = lines_Text_c k14 k16 k15 k17 k18 k19 := by kernel_rfl
theorem lines_Text_sound : FSound RO Tryd.prog 8 lines_Text := sdf (lines_Text_run _ _ _ _ _ _) (gcons canon_Right_ent canon_Right_sound <| gcons lines_node_ent lines_node_sound <| gcons __strings_Builder__WriteString_ent __strings_Builder__WriteString_sound <| gcons __strings_Builder__WriteByte_ent __strings_Builder__WriteByte_sound <| gcons lines_numbers_ent lines_numbers_sound <| gcons __strings_Builder__String_ent __strings_Builder__String_sound <| gnil) Tryd.func8 (by kernel_rfl)
def haymowref02_Same_L1 (l0 : SA × Nat) (l1 : SA × Nat) : List AV × AH O → Option ((List AV × AH O) ⊕ ((List AV × AH O) ⊕ (AV × AH O))) := (fun r2 =>
 (AV.asI .i64 (r2.1.getD 0 .u)).bind fun n3 =>
 (bif (decide (n3 < (l0.2 : Int))) then
 (bif ((decide ((0 : Int) ≤ n3)) && (decide (n3 < (l0.2 : Int)))) then
 (SA.ref l0.1).bind fun q4 =>
 ldI r2.2 q4.1 (q4.2 + (n3.toNat * 1)) fun n6 =>
 (bif ((decide ((0 : Int) ≤ n3)) && (decide (n3 < (l1.2 : Int)))) then
 (SA.ref l1.1).bind fun q7 =>
 ldI r2.2 q7.1 (q7.2 + (n3.toNat * 1)) fun n9 =>
 (bif ((n6 : Int) != n9) then
 ((some ((.b false), r2.2) : Option (AV × AH O)).map fun r => Sum.inr (Sum.inr r))
 else some (Sum.inl ([(.i .i64 (IntKind.i64.wrap (n3 + 1)))], r2.2)))
 else none)
 else none)
 else some (Sum.inr (Sum.inl ([], r2.2)))))
def haymowref02_Same_c : Sm O := fun xs h =>
 bif Nat.beq xs.length 2 then
 gtS xs 0 fun l0 =>
 gtS xs 1 fun l1 =>
 (bif (((l0.2 : Int) : Int) != (l1.2 : Int)) then
 some ((.b false), h)
 else bindS (S := List AV × AH O) (R := (AV × AH O)) (loopF (S := List AV × AH O) (T := (List AV × AH O) ⊕ (AV × AH O)) (haymowref02_Same_L1 l0 l1) ([(.i .i64 0)], h)) fun r10 =>
 some ((.b true), r10.2))
 else none
def haymowref02_Same : Sm O := haymowref02_Same_c
theorem haymowref02_Same_ent : Entered Tryd.prog 27 := Tryd.call27
theorem haymowref02_Same_run : run (O := O) Tryd.prog [] Tryd.f27 (.n .z (.n (.n .z (.n .z .z)) (.n (.n .z (.n (.lp true 0 [(5, .one (.i .i64))] [] (.n (.n .z .z) (.n (.n (.n (.d [] [0, 1, 2, 3, 4, 5, 6, 7, 8] [0, 0, 3, 7, 0, 0, 48, 112, 255]) (.n .z .z)) .z) .z))) .z)) .z))) = haymowref02_Same_c  := by kernel_rfl
theorem haymowref02_Same_sound : FSound RO Tryd.prog 27 haymowref02_Same := sdf haymowref02_Same_run (gnil) Tryd.func27 (by kernel_rfl)
def haymowref05_Same_L1 (l0 : SA × Nat) (l1 : SA × Nat) : List AV × AH O → Option ((List AV × AH O) ⊕ ((List AV × AH O) ⊕ (AV × AH O))) := (fun r2 =>
 (AV.asI .i64 (r2.1.getD 0 .u)).bind fun n3 =>
 (bif (decide (n3 < (l0.2 : Int))) then
 (bif ((decide ((0 : Int) ≤ n3)) && (decide (n3 < (l0.2 : Int)))) then
 (SA.ref l0.1).bind fun q4 =>
 ldU r2.2 q4.1 (q4.2 + (n3.toNat * 1)) fun n6 =>
 (bif ((decide ((0 : Int) ≤ n3)) && (decide (n3 < (l1.2 : Int)))) then
 (SA.ref l1.1).bind fun q7 =>
 ldU r2.2 q7.1 (q7.2 + (n3.toNat * 1)) fun n9 =>
 (bif ((n6 : Int) != n9) then
 ((some ((.b false), r2.2) : Option (AV × AH O)).map fun r => Sum.inr (Sum.inr r))
 else some (Sum.inl ([(.i .i64 (IntKind.i64.wrap (n3 + 1)))], r2.2)))
 else none)
 else none)
 else some (Sum.inr (Sum.inl ([], r2.2)))))
def haymowref05_Same_c : Sm O := fun xs h =>
 bif Nat.beq xs.length 2 then
 gtS xs 0 fun l0 =>
 gtS xs 1 fun l1 =>
 (bif (((l0.2 : Int) : Int) != (l1.2 : Int)) then
 some ((.b false), h)
 else bindS (S := List AV × AH O) (R := (AV × AH O)) (loopF (S := List AV × AH O) (T := (List AV × AH O) ⊕ (AV × AH O)) (haymowref05_Same_L1 l0 l1) ([(.i .i64 0)], h)) fun r10 =>
 some ((.b true), r10.2))
 else none
def haymowref05_Same : Sm O := haymowref05_Same_c
theorem haymowref05_Same_ent : Entered Tryd.prog 28 := Tryd.call28
theorem haymowref05_Same_run : run (O := O) Tryd.prog [] Tryd.f28 (.n .z (.n (.n .z (.n .z .z)) (.n (.n .z (.n (.lp true 0 [(5, .one (.i .i64))] [] (.n (.n .z .z) (.n (.n (.n (.d [] [0, 1, 2, 3, 4, 5, 6, 7, 8] [0, 0, 3, 7, 0, 0, 48, 112, 255]) (.n .z .z)) .z) .z))) .z)) .z))) = haymowref05_Same_c  := by kernel_rfl
theorem haymowref05_Same_sound : FSound RO Tryd.prog 28 haymowref05_Same := sdf haymowref05_Same_run (gnil) Tryd.func28 (by kernel_rfl)
def law40_Is_L1 (h : AH O) (k27 : Sm O) (k28 : Sm O) : List AV × AH O → Option ((List AV × AH O) ⊕ ((List AV × AH O) ⊕ (AV × AH O))) := (fun r31 =>
 (AV.asI .i64 (r31.1.getD 0 .u)).bind fun n32 =>
 ldS r31.2 (.n (h.next + 1)) 0 fun l34 =>
 (bif (decide (n32 < (l34.2 : Int))) then
 ldS r31.2 (.n h.next) 0 fun l36 =>
 (bif ((decide ((0 : Int) ≤ n32)) && (decide (n32 < (l36.2 : Int)))) then
 (SA.ref l36.1).bind fun q37 =>
 ldI r31.2 q37.1 (q37.2 + (n32.toNat * 7)) fun n39 =>
 ldI r31.2 q37.1 ((q37.2 + (n32.toNat * 7)) + 1) fun n41 =>
 ldI r31.2 q37.1 (((q37.2 + (n32.toNat * 7)) + 1) + 1) fun n43 =>
 ldI r31.2 q37.1 ((((q37.2 + (n32.toNat * 7)) + 1) + 1) + 1) fun n45 =>
 (r31.2.ld q37.1 (((((q37.2 + (n32.toNat * 7)) + 1) + 1) + 1) + 1)).bind fun w46 =>
 (AV.asB w46).bind fun b47 =>
 ldS r31.2 (.n (h.next + 1)) 0 fun l49 =>
 (bif ((decide ((0 : Int) ≤ n32)) && (decide (n32 < (l49.2 : Int)))) then
 (SA.ref l49.1).bind fun q50 =>
 ldI r31.2 q50.1 (q50.2 + (n32.toNat * 7)) fun n52 =>
 ldI r31.2 q50.1 ((q50.2 + (n32.toNat * 7)) + 1) fun n54 =>
 ldI r31.2 q50.1 (((q50.2 + (n32.toNat * 7)) + 1) + 1) fun n56 =>
 ldI r31.2 q50.1 ((((q50.2 + (n32.toNat * 7)) + 1) + 1) + 1) fun n58 =>
 (r31.2.ld q50.1 (((((q50.2 + (n32.toNat * 7)) + 1) + 1) + 1) + 1)).bind fun w59 =>
 (AV.asB w59).bind fun b60 =>
 ((bif ((!((((n39 : Int) == n52) && (((n41 : Int) == n54) && true)) && (((n43 : Int) == n56) && (((n45 : Int) == n58) && ((b47 == b60) && true))))) == false) then
 ldS r31.2 (.n h.next) 0 fun l62 =>
 (bif ((decide ((0 : Int) ≤ n32)) && (decide (n32 < (l62.2 : Int)))) then
 (SA.ref l62.1).bind fun q63 =>
 ldS r31.2 q63.1 ((q63.2 + (n32.toNat * 7)) + 5) fun l65 =>
 ldS r31.2 (.n (h.next + 1)) 0 fun l67 =>
 (bif ((decide ((0 : Int) ≤ n32)) && (decide (n32 < (l67.2 : Int)))) then
 (SA.ref l67.1).bind fun q68 =>
 ldS r31.2 q68.1 ((q68.2 + (n32.toNat * 7)) + 5) fun l70 =>
 (k27 [(.sl l65.1 l65.2), (.sl l70.1 l70.2)] r31.2).bind fun r71 =>
 (AV.asB r71.1).bind fun b72 =>
 some ([(.b (!b72))], r71.2)
 else none)
 else none)
 else some ([(.b true)], r31.2)) : Option (List AV × AH O)).bind fun r73 =>
 (AV.asB (r73.1.getD 0 .u)).bind fun b74 =>
 ((bif (b74 == false) then
 ldS r73.2 (.n h.next) 0 fun l76 =>
 (bif ((decide ((0 : Int) ≤ n32)) && (decide (n32 < (l76.2 : Int)))) then
 (SA.ref l76.1).bind fun q77 =>
 ldS r73.2 q77.1 ((q77.2 + (n32.toNat * 7)) + 6) fun l79 =>
 ldS r73.2 (.n (h.next + 1)) 0 fun l81 =>
 (bif ((decide ((0 : Int) ≤ n32)) && (decide (n32 < (l81.2 : Int)))) then
 (SA.ref l81.1).bind fun q82 =>
 ldS r73.2 q82.1 ((q82.2 + (n32.toNat * 7)) + 6) fun l84 =>
 (k28 [(.sl l79.1 l79.2), (.sl l84.1 l84.2)] r73.2).bind fun r85 =>
 (AV.asB r85.1).bind fun b86 =>
 some ([(.b (!b86))], r85.2)
 else none)
 else none)
 else some ([(.b true)], r73.2)) : Option (List AV × AH O)).bind fun r87 =>
 (AV.asB (r87.1.getD 0 .u)).bind fun b88 =>
 (bif b88 then
 ((some ((.b false), r87.2) : Option (AV × AH O)).map fun r => Sum.inr (Sum.inr r))
 else some (Sum.inl ([(.i .i64 (IntKind.i64.wrap (n32 + 1)))], r87.2)))
 else none)
 else none)
 else some (Sum.inr (Sum.inl ([], r31.2)))))
def law40_Is_c (k27 k28 : Sm O) : Sm O := fun xs h =>
 bif Nat.beq xs.length 2 then
 (AV.asAgg 3 (xs.getD 0 .u)).bind fun c0 =>
 gtS c0 0 fun l1 =>
 gtS c0 1 fun l2 =>
 gtS c0 2 fun l3 =>
 (AV.asAgg 3 (xs.getD 1 .u)).bind fun c4 =>
 gtS c4 0 fun l5 =>
 gtS c4 1 fun l6 =>
 gtS c4 2 fun l7 =>
 let h8 := h.bump 2
 let h9 := h8.put h.next (.cells true 25 [(.sl l1.1 l1.2), (.sl l2.1 l2.2), (.sl l3.1 l3.2)])
 let h10 := h9.put (h.next + 1) (.cells true 30 [(.sl l5.1 l5.2), (.sl l6.1 l6.2), (.sl l7.1 l7.2)])
 ldS h10 (.n h.next) 0 fun l12 =>
 ldS h10 (.n (h.next + 1)) 0 fun l14 =>
 ((bif ((((l12.2 : Int) : Int) != (l14.2 : Int)) == false) then
 ldS h10 (.n h.next) 1 fun l16 =>
 ldS h10 (.n (h.next + 1)) 1 fun l18 =>
 (k27 [(.sl l16.1 l16.2), (.sl l18.1 l18.2)] h10).bind fun r19 =>
 (AV.asB r19.1).bind fun b20 =>
 some ([(.b (!b20))], r19.2)
 else some ([(.b true)], h10)) : Option (List AV × AH O)).bind fun r21 =>
 (AV.asB (r21.1.getD 0 .u)).bind fun b22 =>
 ((bif (b22 == false) then
 ldS r21.2 (.n h.next) 2 fun l24 =>
 ldS r21.2 (.n (h.next + 1)) 2 fun l26 =>
 (k27 [(.sl l24.1 l24.2), (.sl l26.1 l26.2)] r21.2).bind fun r27 =>
 (AV.asB r27.1).bind fun b28 =>
 some ([(.b (!b28))], r27.2)
 else some ([(.b true)], r21.2)) : Option (List AV × AH O)).bind fun r29 =>
 (AV.asB (r29.1.getD 0 .u)).bind fun b30 =>
 (bif b30 then
 some ((.b false), r29.2)
 else bindS (S := List AV × AH O) (R := (AV × AH O)) (loopF (S := List AV × AH O) (T := (List AV × AH O) ⊕ (AV × AH O)) (law40_Is_L1 h k27 k28) ([(.i .i64 0)], r29.2)) fun r89 =>
 some ((.b true), r89.2))
 else none
def law40_Is : Sm O := law40_Is_c haymowref02_Same haymowref05_Same
theorem law40_Is_ent : Entered Tryd.prog 12 := Tryd.call12
theorem law40_Is_run (k27 k28 : Sm O) : run (O := O) Tryd.prog [(27, k27), (28, k28)] Tryd.f12 (.n .z (.n (.n (.g [(7, 6, [(20, .one .b)]), (15, 6, [(28, .one .b)])]) (.n .z .z)) (.n (.n .z (.n (.lp true 0 [(5, .one (.i .i64))] [] (.n (.n .z .z) (.n (.n (.n (.d [(13, 14, [(64, .one .b)]), (29, 14, [(80, .one .b)])] [0, 1, 2, 3, 4, 5, 6, 7, 8, 9, 10, 11, 12, 13, 14, 15, 16, 17, 18, 19, 20, 21, 22, 23, 24, 25, 26, 27, 28, 29, 30, 31, 32, 33, 34, 35, 36, 37, 38, 39, 40, 41, 42, 43, 44] [0, 1, 0, 7, 15, 31, 0, 64, 0, 448, 960, 1984, 4095, 8191, 16383, 32767, 16383, 131071, 262143, 524287, 16383, 1064959, 16383, 7356415, 15745023, 32522239, 67108863, 134217727, 268435455, 536870911, 1073741823, 2147483647, 1073741823, 8589934591, 17179869183, 34359738367, 1073741823, 69793218559, 1073741823, 482110078975, 1031865892863, 2131377520639, 4398046511103, 8796093022207, 17592186044415]) (.n .z .z)) .z) .z))) .z)) .z))) = law40_Is_c k27 k28 := by kernel_rfl
theorem law40_Is_sound : FSound RO Tryd.prog 12 law40_Is := sdf (law40_Is_run _ _) (gcons haymowref02_Same_ent haymowref02_Same_sound <| gcons haymowref05_Same_ent haymowref05_Same_sound <| gnil) Tryd.func12 (by kernel_rfl)
def law46_awake_c (k10 k8 k12 : Sm O) : Sm O := fun xs h =>
 bif Nat.beq xs.length 0 then
 let h0 := h.bump 1
 (k10 [(.s ([114, 111, 111, 116, 115, 10, 119, 101, 97, 107, 10] : List UInt8))] h0).bind fun r1 =>
 (AV.asTup 3 r1.1).bind fun c2 =>
 (AV.asAgg 3 (c2.getD 0 .u)).bind fun c3 =>
 gtS c3 0 fun l4 =>
 gtS c3 1 fun l5 =>
 gtS c3 2 fun l6 =>
 gtI c2 1 fun n7 =>
 gtI c2 2 fun n8 =>
 let h9 := r1.2.put h.next (.cells true 25 [(.sl .nil 0), (.sl .nil 0), (.sl .nil 0)])
 (h9.st (.n h.next) 0 [(.sl l4.1 l4.2), (.sl l5.1 l5.2), (.sl l6.1 l6.2)]).bind fun h10 =>
 (k8 [(.agg [(.sl .nil 0), (.sl .nil 0), (.sl .nil 0)])] h10).bind fun r11 =>
 (AV.asS r11.1).bind fun s12 =>
 let c13 : Bool := (s12 == ([114, 111, 111, 116, 115, 10, 119, 101, 97, 107, 10] : List UInt8))
 ((bif (c13 == true) then
 some ([(.b ((n7 : Int) == 0))], r11.2)
 else some ([(.b false)], r11.2)) : Option (List AV × AH O)).bind fun r14 =>
 (AV.asB (r14.1.getD 0 .u)).bind fun b15 =>
 ((bif (b15 == true) then
 some ([(.b ((n8 : Int) == 0))], r14.2)
 else some ([(.b false)], r14.2)) : Option (List AV × AH O)).bind fun r16 =>
 (AV.asB (r16.1.getD 0 .u)).bind fun b17 =>
 ((bif (b17 == true) then
 ldS r16.2 (.n h.next) 0 fun l19 =>
 ldS r16.2 (.n h.next) 1 fun l21 =>
 ldS r16.2 (.n h.next) 2 fun l23 =>
 (k12 [(.agg [(.sl l19.1 l19.2), (.sl l21.1 l21.2), (.sl l23.1 l23.2)]), (.agg [(.sl .nil 0), (.sl .nil 0), (.sl .nil 0)])] r16.2).bind fun r24 =>
 (AV.asB r24.1).bind fun b25 =>
 some ([(.b b25)], r24.2)
 else some ([(.b false)], r16.2)) : Option (List AV × AH O)).bind fun r26 =>
 (AV.asB (r26.1.getD 0 .u)).bind fun b27 =>
 some ((.b b27), r26.2)
 else none
def law46_awake : Sm O := law46_awake_c lines_Parse lines_Text law40_Is
theorem law46_awake_ent : Entered Tryd.prog 5 := Tryd.call5
theorem law46_awake_run (k10 k8 k12 : Sm O) : run (O := O) Tryd.prog [(10, k10), (8, k8), (12, k12)] Tryd.f5 (.n .z (.n .z (.n (.g [(3, 2, [(15, .one .b)]), (7, 2, [(19, .one .b)]), (11, 3, [(24, .one .b)])]) .z))) = law46_awake_c k10 k8 k12 := by kernel_rfl
theorem law46_awake_sound : FSound RO Tryd.prog 5 law46_awake := sdf (law46_awake_run _ _ _) (gcons lines_Parse_ent lines_Parse_sound <| gcons lines_Text_ent lines_Text_sound <| gcons law40_Is_ent law40_Is_sound <| gnil) Tryd.func5 (by kernel_rfl)
def haymowref12_Check_c : Sm O := fun xs h =>
 bif Nat.beq xs.length 1 then
 (AV.asAgg 5 (xs.getD 0 .u)).bind fun c0 =>
 gtI c0 0 fun n1 =>
 gtI c0 1 fun n2 =>
 gtI c0 2 fun n3 =>
 gtI c0 3 fun n4 =>
 (AV.asB (c0.getD 4 .u)).bind fun b5 =>
 let h6 := h.bump 1
 let h7 := h6.put h.next (.cells true 45 [(.i .i64 n1), (.i .i64 n2), (.i .i64 n3), (.i .i64 n4), (.b b5)])
 ldI h7 (.n h.next) 0 fun n9 =>
 ldI h7 (.n h.next) 1 fun n11 =>
 ((bif ((decide (n9 < 0)) == false) then
 some ([(.b (decide (n9 > 4095)))], h7)
 else some ([(.b true)], h7)) : Option (List AV × AH O)).bind fun r12 =>
 (AV.asB (r12.1.getD 0 .u)).bind fun b13 =>
 ((bif (b13 == false) then
 some ([(.b (decide (n11 < 0)))], r12.2)
 else some ([(.b true)], r12.2)) : Option (List AV × AH O)).bind fun r14 =>
 (AV.asB (r14.1.getD 0 .u)).bind fun b15 =>
 ((bif (b15 == false) then
 some ([(.b (decide (n11 > 4095)))], r14.2)
 else some ([(.b true)], r14.2)) : Option (List AV × AH O)).bind fun r16 =>
 (AV.asB (r16.1.getD 0 .u)).bind fun b17 =>
 (bif b17 then
 some ((.i .i64 20), r16.2)
 else ldI r16.2 (.n h.next) 2 fun n19 =>
 ((bif ((decide (n19 < 0)) == false) then
 ldI r16.2 (.n h.next) 2 fun n21 =>
 some ([(.b (decide (n21 > 31)))], r16.2)
 else some ([(.b true)], r16.2)) : Option (List AV × AH O)).bind fun r22 =>
 (AV.asB (r22.1.getD 0 .u)).bind fun b23 =>
 (bif b23 then
 some ((.i .i64 21), r22.2)
 else ldI r22.2 (.n h.next) 3 fun n25 =>
 ((bif ((decide (n25 < 0)) == false) then
 ldI r22.2 (.n h.next) 3 fun n27 =>
 some ([(.b (decide (n27 > 7)))], r22.2)
 else some ([(.b true)], r22.2)) : Option (List AV × AH O)).bind fun r28 =>
 (AV.asB (r28.1.getD 0 .u)).bind fun b29 =>
 (bif b29 then
 some ((.i .i64 2), r28.2)
 else some ((.i .i64 0), r28.2))))
 else none
def haymowref12_Check : Sm O := haymowref12_Check_c
theorem haymowref12_Check_ent : Entered Tryd.prog 20 := Tryd.call20
theorem haymowref12_Check_run : run (O := O) Tryd.prog [] Tryd.f20 (.n .z (.n (.d [] [0, 1, 2, 3, 4, 5, 6, 7] [0, 1, 3, 0, 8, 24, 7, 127]) (.n (.n (.g [(2, 2, [(16, .one .b)]), (6, 2, [(20, .one .b)]), (10, 2, [(24, .one .b)])]) (.n .z .z)) (.n (.n (.g [(3, 3, [(32, .one .b)])]) (.n .z .z)) (.n (.n (.g [(3, 3, [(40, .one .b)])]) (.n .z .z)) .z))))) = haymowref12_Check_c  := by kernel_rfl
theorem haymowref12_Check_sound : FSound RO Tryd.prog 20 haymowref12_Check := sdf haymowref12_Check_run (gnil) Tryd.func20 (by kernel_rfl)
def haymowref40_Right_L4 (h : AH O) : List AV × AH O → Option ((List AV × AH O) ⊕ ((List AV × AH O) ⊕ (AV × AH O))) := (fun r124 =>
 (AV.asI .i64 (r124.1.getD 0 .u)).bind fun n125 =>
 ldS r124.2 (.n h.next) 2 fun l127 =>
 (bif (decide (n125 < (l127.2 : Int))) then
 ldS r124.2 (.n h.next) 2 fun l129 =>
 (bif ((decide ((0 : Int) ≤ n125)) && (decide (n125 < (l129.2 : Int)))) then
 (SA.ref l129.1).bind fun q130 =>
 ldI r124.2 q130.1 (q130.2 + (n125.toNat * 1)) fun n132 =>
 ((bif ((decide (n132 < 0)) == false) then
 ldS r124.2 (.n h.next) 2 fun l134 =>
 (bif ((decide ((0 : Int) ≤ n125)) && (decide (n125 < (l134.2 : Int)))) then
 (SA.ref l134.1).bind fun q135 =>
 ldI r124.2 q135.1 (q135.2 + (n125.toNat * 1)) fun n137 =>
 ldS r124.2 (.n h.next) 0 fun l139 =>
 some ([(.b (decide (n137 > (l139.2 : Int))))], r124.2)
 else none)
 else some ([(.b true)], r124.2)) : Option (List AV × AH O)).bind fun r140 =>
 (AV.asB (r140.1.getD 0 .u)).bind fun b141 =>
 (bif b141 then
 ((some ((.b false), r140.2) : Option (AV × AH O)).map fun r => Sum.inr (Sum.inr r))
 else some (Sum.inl ([(.i .i64 (IntKind.i64.wrap (n125 + 1)))], r140.2)))
 else none)
 else some (Sum.inr (Sum.inl ([], r124.2)))))
def haymowref40_Right_L3 (r39 : List AV × AH O) (h : AH O) : List AV × AH O → Option ((List AV × AH O) ⊕ ((List AV × AH O) ⊕ ((List AV × AH O) ⊕ ((List AV × AH O) ⊕ (AV × AH O))))) := (fun r90 =>
 (AV.asI .i64 (r90.1.getD 0 .u)).bind fun n91 =>
 (AV.asI .i64 (r90.1.getD 1 .u)).bind fun n92 =>
 ldS r90.2 (.n r39.2.next) 5 fun l94 =>
 (bif (decide (n92 < (l94.2 : Int))) then
 ldS r90.2 (.n r39.2.next) 5 fun l96 =>
 (bif ((decide ((0 : Int) ≤ n92)) && (decide (n92 < (l96.2 : Int)))) then
 (SA.ref l96.1).bind fun q97 =>
 ldI r90.2 q97.1 (q97.2 + (n92.toNat * 1)) fun n99 =>
 ((bif ((decide (n99 < 0)) == false) then
 ldS r90.2 (.n r39.2.next) 5 fun l101 =>
 (bif ((decide ((0 : Int) ≤ n92)) && (decide (n92 < (l101.2 : Int)))) then
 (SA.ref l101.1).bind fun q102 =>
 ldI r90.2 q102.1 (q102.2 + (n92.toNat * 1)) fun n104 =>
 ldS r90.2 (.n h.next) 0 fun l106 =>
 some ([(.b (decide (n104 > (l106.2 : Int))))], r90.2)
 else none)
 else some ([(.b true)], r90.2)) : Option (List AV × AH O)).bind fun r107 =>
 (AV.asB (r107.1.getD 0 .u)).bind fun b108 =>
 ((bif (b108 == false) then
 ldS r107.2 (.n r39.2.next) 5 fun l110 =>
 (bif ((decide ((0 : Int) ≤ n92)) && (decide (n92 < (l110.2 : Int)))) then
 (SA.ref l110.1).bind fun q111 =>
 ldI r107.2 q111.1 (q111.2 + (n92.toNat * 1)) fun n113 =>
 some ([(.b (decide (n113 > (IntKind.i64.wrap (n91 + 1)))))], r107.2)
 else none)
 else some ([(.b true)], r107.2)) : Option (List AV × AH O)).bind fun r114 =>
 (AV.asB (r114.1.getD 0 .u)).bind fun b115 =>
 (bif b115 then
 ((((some ((.b false), r114.2) : Option (AV × AH O)).map fun r => Sum.inr (Sum.inr r)) : Option ((List AV × AH O) ⊕ ((List AV × AH O) ⊕ (AV × AH O)))).map fun r => Sum.inr (Sum.inr r))
 else ldS r114.2 (.n r39.2.next) 5 fun l117 =>
 (bif ((decide ((0 : Int) ≤ n92)) && (decide (n92 < (l117.2 : Int)))) then
 (SA.ref l117.1).bind fun q118 =>
 ldI r114.2 q118.1 (q118.2 + (n92.toNat * 1)) fun n120 =>
 some (Sum.inl ([(.i .i64 (if n120 > n91 then n120 else n91)), (.i .i64 (IntKind.i64.wrap (n92 + 1)))], r114.2))
 else none))
 else none)
 else some (Sum.inr (Sum.inl ([(.i .i64 n91)], r90.2)))))
def haymowref40_Right_L2 (h : AH O) (k20 : Sm O) : List AV × AH O → Option ((List AV × AH O) ⊕ ((List AV × AH O) ⊕ (AV × AH O))) := (fun r39 =>
 (AV.asI .i64 (r39.1.getD 0 .u)).bind fun n40 =>
 (AV.asI .i64 (r39.1.getD 1 .u)).bind fun n41 =>
 ldS r39.2 (.n h.next) 0 fun l43 =>
 (bif (decide (n41 < (l43.2 : Int))) then
 let h44 := r39.2.bump 1
 ldS h44 (.n h.next) 0 fun l46 =>
 (bif ((decide ((0 : Int) ≤ n41)) && (decide (n41 < (l46.2 : Int)))) then
 (SA.ref l46.1).bind fun q47 =>
 ldI h44 q47.1 (q47.2 + (n41.toNat * 7)) fun n49 =>
 ldI h44 q47.1 ((q47.2 + (n41.toNat * 7)) + 1) fun n51 =>
 ldI h44 q47.1 (((q47.2 + (n41.toNat * 7)) + 1) + 1) fun n53 =>
 ldI h44 q47.1 ((((q47.2 + (n41.toNat * 7)) + 1) + 1) + 1) fun n55 =>
 (h44.ld q47.1 (((((q47.2 + (n41.toNat * 7)) + 1) + 1) + 1) + 1)).bind fun w56 =>
 (AV.asB w56).bind fun b57 =>
 ldS h44 q47.1 ((((((q47.2 + (n41.toNat * 7)) + 1) + 1) + 1) + 1) + 1) fun l59 =>
 ldS h44 q47.1 (((((((q47.2 + (n41.toNat * 7)) + 1) + 1) + 1) + 1) + 1) + 1) fun l61 =>
 let h62 := h44.put r39.2.next (.cells true 50 [(.i .i64 0), (.i .i64 0), (.i .i64 0), (.i .i64 0), (.b false), (.sl .nil 0), (.sl .nil 0)])
 (h62.st (.n r39.2.next) 0 [(.i .i64 n49), (.i .i64 n51), (.i .i64 n53), (.i .i64 n55), (.b b57), (.sl l59.1 l59.2), (.sl l61.1 l61.2)]).bind fun h63 =>
 ((bif ((decide (n40 ≤ n41)) == false) then
 ldI h63 (.n r39.2.next) 0 fun n65 =>
 ldI h63 (.n r39.2.next) 1 fun n67 =>
 ldI h63 (.n r39.2.next) 2 fun n69 =>
 ldI h63 (.n r39.2.next) 3 fun n71 =>
 (h63.ld (.n r39.2.next) 4).bind fun w72 =>
 (AV.asB w72).bind fun b73 =>
 (k20 [(.agg [(.i .i64 n65), (.i .i64 n67), (.i .i64 n69), (.i .i64 n71), (.b b73)])] h63).bind fun r74 =>
 (AV.asI .i64 r74.1).bind fun n75 =>
 some ([(.b ((n75 : Int) != 0))], r74.2)
 else some ([(.b true)], h63)) : Option (List AV × AH O)).bind fun r76 =>
 (AV.asB (r76.1.getD 0 .u)).bind fun b77 =>
 ((bif (b77 == false) then
 ldS r76.2 (.n r39.2.next) 5 fun l79 =>
 ldI r76.2 (.n r39.2.next) 0 fun n81 =>
 some ([(.b (((l79.2 : Int) : Int) != n81))], r76.2)
 else some ([(.b true)], r76.2)) : Option (List AV × AH O)).bind fun r82 =>
 (AV.asB (r82.1.getD 0 .u)).bind fun b83 =>
 ((bif (b83 == false) then
 ldS r82.2 (.n r39.2.next) 6 fun l85 =>
 ldI r82.2 (.n r39.2.next) 1 fun n87 =>
 some ([(.b (((l85.2 : Int) : Int) != n87))], r82.2)
 else some ([(.b true)], r82.2)) : Option (List AV × AH O)).bind fun r88 =>
 (AV.asB (r88.1.getD 0 .u)).bind fun b89 =>
 (bif b89 then
 ((some ((.b false), r88.2) : Option (AV × AH O)).map fun r => Sum.inr (Sum.inr r))
 else bindS (S := List AV × AH O) (R := ((List AV × AH O) ⊕ ((List AV × AH O) ⊕ (AV × AH O)))) (loopF (S := List AV × AH O) (T := (List AV × AH O) ⊕ ((List AV × AH O) ⊕ ((List AV × AH O) ⊕ (AV × AH O)))) (haymowref40_Right_L3 r39 h) ([(.i .i64 n40), (.i .i64 0)], r88.2)) fun r121 =>
 (AV.asI .i64 (r121.1.getD 0 .u)).bind fun n122 =>
 some (Sum.inl ([(.i .i64 n122), (.i .i64 (IntKind.i64.wrap (n41 + 1)))], r121.2)))
 else none)
 else some (Sum.inr (Sum.inl ([], r39.2)))))
def haymowref40_Right_L1 (h : AH O) : List AV × AH O → Option ((List AV × AH O) ⊕ ((List AV × AH O) ⊕ (AV × AH O))) := (fun r6 =>
 (AV.asI .i64 (r6.1.getD 0 .u)).bind fun n7 =>
 (AV.asI .i64 (r6.1.getD 1 .u)).bind fun n8 =>
 ldS r6.2 (.n h.next) 1 fun l10 =>
 (bif (decide (n8 < (l10.2 : Int))) then
 ldS r6.2 (.n h.next) 1 fun l12 =>
 (bif ((decide ((0 : Int) ≤ n8)) && (decide (n8 < (l12.2 : Int)))) then
 (SA.ref l12.1).bind fun q13 =>
 ldI r6.2 q13.1 (q13.2 + (n8.toNat * 1)) fun n15 =>
 ((bif ((decide (n15 < 1)) == false) then
 ldS r6.2 (.n h.next) 1 fun l17 =>
 (bif ((decide ((0 : Int) ≤ n8)) && (decide (n8 < (l17.2 : Int)))) then
 (SA.ref l17.1).bind fun q18 =>
 ldI r6.2 q18.1 (q18.2 + (n8.toNat * 1)) fun n20 =>
 ldS r6.2 (.n h.next) 0 fun l22 =>
 some ([(.b (decide (n20 > (l22.2 : Int))))], r6.2)
 else none)
 else some ([(.b true)], r6.2)) : Option (List AV × AH O)).bind fun r23 =>
 (AV.asB (r23.1.getD 0 .u)).bind fun b24 =>
 ((bif (b24 == false) then
 ldS r23.2 (.n h.next) 1 fun l26 =>
 (bif ((decide ((0 : Int) ≤ n8)) && (decide (n8 < (l26.2 : Int)))) then
 (SA.ref l26.1).bind fun q27 =>
 ldI r23.2 q27.1 (q27.2 + (n8.toNat * 1)) fun n29 =>
 some ([(.b (decide (n29 > (IntKind.i64.wrap (n7 + 1)))))], r23.2)
 else none)
 else some ([(.b true)], r23.2)) : Option (List AV × AH O)).bind fun r30 =>
 (AV.asB (r30.1.getD 0 .u)).bind fun b31 =>
 (bif b31 then
 ((some ((.b false), r30.2) : Option (AV × AH O)).map fun r => Sum.inr (Sum.inr r))
 else ldS r30.2 (.n h.next) 1 fun l33 =>
 (bif ((decide ((0 : Int) ≤ n8)) && (decide (n8 < (l33.2 : Int)))) then
 (SA.ref l33.1).bind fun q34 =>
 ldI r30.2 q34.1 (q34.2 + (n8.toNat * 1)) fun n36 =>
 some (Sum.inl ([(.i .i64 (if n36 > n7 then n36 else n7)), (.i .i64 (IntKind.i64.wrap (n8 + 1)))], r30.2))
 else none))
 else none)
 else some (Sum.inr (Sum.inl ([(.i .i64 n7)], r6.2)))))
def haymowref40_Right_c (k20 : Sm O) : Sm O := fun xs h =>
 bif Nat.beq xs.length 1 then
 (AV.asAgg 3 (xs.getD 0 .u)).bind fun c0 =>
 gtS c0 0 fun l1 =>
 gtS c0 1 fun l2 =>
 gtS c0 2 fun l3 =>
 let h4 := h.bump 1
 let h5 := h4.put h.next (.cells true 30 [(.sl l1.1 l1.2), (.sl l2.1 l2.2), (.sl l3.1 l3.2)])
 bindS (S := List AV × AH O) (R := (AV × AH O)) (loopF (S := List AV × AH O) (T := (List AV × AH O) ⊕ (AV × AH O)) (haymowref40_Right_L1 h) ([(.i .i64 0), (.i .i64 0)], h5)) fun r37 =>
 (AV.asI .i64 (r37.1.getD 0 .u)).bind fun n38 =>
 bindS (S := List AV × AH O) (R := (AV × AH O)) (loopF (S := List AV × AH O) (T := (List AV × AH O) ⊕ (AV × AH O)) (haymowref40_Right_L2 h k20) ([(.i .i64 n38), (.i .i64 0)], r37.2)) fun r123 =>
 bindS (S := List AV × AH O) (R := (AV × AH O)) (loopF (S := List AV × AH O) (T := (List AV × AH O) ⊕ (AV × AH O)) (haymowref40_Right_L4 h) ([(.i .i64 0)], r123.2)) fun r142 =>
 some ((.b true), r142.2)
 else none
def haymowref40_Right : Sm O := haymowref40_Right_c haymowref12_Check
theorem haymowref40_Right_ent : Entered Tryd.prog 9 := Tryd.call9
theorem haymowref40_Right_run (k20 : Sm O) : run (O := O) Tryd.prog [(20, k20)] Tryd.f9 (.n .z (.n .z (.n (.n .z (.n (.lp true 0 [(3, .one (.i .i64)), (4, .one (.i .i64))] [(3, .one (.i .i64))] (.n (.n .z .z) (.n (.n (.n (.n (.d [(6, 9, [(32, .one .b)]), (17, 8, [(42, .one .b)])] [0, 1, 2, 3, 4, 5, 6, 7, 8, 9, 10, 11, 12, 13, 14, 15, 16, 17, 18, 19, 20, 21, 22, 23, 24, 25, 26] [0, 1, 0, 7, 15, 31, 63, 127, 255, 127, 1023, 2047, 127, 4223, 12415, 32767, 65535, 131071, 262143, 524287, 262143, 2097151, 4194303, 262143, 8650751, 33554431, 67108863]) (.n .z .z)) .z) .z) .z))) .z)) (.n (.n .z (.n (.lp true 2 [(3, .one (.i .i64)), (5, .one (.i .i64))] [] (.n (.n .z .z) (.n (.n (.n .z (.n (.n (.g [(3, 4, [(70, .one .b)]), (9, 8, [(80, .one .b)]), (19, 8, [(90, .one .b)])]) (.n .z .z)) (.n .z (.n (.lp true 4 [(3, .one (.i .i64)), (7, .one (.i .i64))] [(3, .one (.i .i64))] (.n (.n .z .z) (.n (.n (.n (.n (.d [(6, 9, [(114, .one .b)]), (17, 8, [(124, .one .b)])] [0, 1, 2, 3, 4, 5, 6, 7, 8, 9, 10, 11, 12, 13, 14, 15, 16, 17, 18, 19, 20, 21, 22, 23, 24, 25, 26] [0, 1, 0, 7, 15, 31, 63, 127, 255, 127, 1023, 2047, 127, 4223, 12415, 32767, 65535, 131071, 262143, 524287, 262143, 2097151, 4194303, 262143, 8650751, 33554431, 67108863]) (.n .z .z)) .z) .z) .z))) .z)))) .z) .z))) .z)) (.n (.n .z (.n (.lp true 6 [(8, .one (.i .i64))] [] (.n (.n .z .z) (.n (.n (.n (.d [(6, 9, [(155, .one .b)])] [0, 1, 2, 3, 4, 5, 6, 7, 8, 9, 10, 11, 12, 13, 14, 15, 16] [0, 1, 0, 7, 15, 31, 63, 127, 255, 127, 1023, 2047, 127, 4223, 12415, 32767, 65535]) (.n .z .z)) .z) .z))) .z)) .z))))) = haymowref40_Right_c k20 := by kernel_rfl
theorem haymowref40_Right_sound : FSound RO Tryd.prog 9 haymowref40_Right := sdf (haymowref40_Right_run _) (gcons haymowref12_Check_ent haymowref12_Check_sound <| gnil) Tryd.func9 (by kernel_rfl)
def haymowref03_Cut_L1 (s0 : List UInt8) (n1 : Int) : List AV × AH O → Option ((List AV × AH O) ⊕ (List AV × AH O)) := (fun r2 =>
 (AV.asSl (r2.1.getD 0 .u)).bind fun l3 =>
 (AV.asI .i64 (r2.1.getD 1 .u)).bind fun n4 =>
 (AV.asI .i64 (r2.1.getD 2 .u)).bind fun n5 =>
 (bif (decide (n5 < (s0.length : Int))) then
 (bif (decide ((0 : Int) ≤ n5)) then
 (s0[n5.toNat]?).bind fun y6 =>
 ((bif (((y6.toNat : Int) : Int) == n1) then
 let h7 := r2.2.bump 2
 (bif (((decide ((0 : Int) ≤ n4)) && (decide (n4 ≤ n5))) && (decide (n5 ≤ (s0.length : Int)))) then
 let h8 := h7.put r2.2.next (.cells true 9 [(.s ((s0.drop n4.toNat).take (n5.toNat - n4.toNat)))])
 (h8.rdSl (.loc (.n r2.2.next) 0 1) 1 1).bind fun new9 =>
 (bif (Nat.ble ((l3.2 + 1) * 17) 35184372088832) then
 (h8.appSl (r2.2.next + 1) 9 1 l3.1 l3.2 1 new9).bind fun r10 =>
 (AV.asSl r10.1).bind fun l11 =>
 some ([(.sl l11.1 l11.2), (.i .i64 (IntKind.i64.wrap (n5 + 1)))], r10.2)
 else none)
 else none)
 else some ([(.sl l3.1 l3.2), (.i .i64 n4)], r2.2)) : Option (List AV × AH O)).bind fun r12 =>
 (AV.asSl (r12.1.getD 0 .u)).bind fun l13 =>
 (AV.asI .i64 (r12.1.getD 1 .u)).bind fun n14 =>
 some (Sum.inl ([(.sl l13.1 l13.2), (.i .i64 n14), (.i .i64 (IntKind.i64.wrap (n5 + 1)))], r12.2))
 else none)
 else some (Sum.inr ([(.sl l3.1 l3.2), (.i .i64 n4)], r2.2))))
def haymowref03_Cut_c : Sm O := fun xs h =>
 bif Nat.beq xs.length 2 then
 (AV.asS (xs.getD 0 .u)).bind fun s0 =>
 (AV.asI .u8 (xs.getD 1 .u)).bind fun n1 =>
 (loopF (S := List AV × AH O) (T := List AV × AH O) (haymowref03_Cut_L1 s0 n1) ([(.sl .nil 0), (.i .i64 0), (.i .i64 0)], h)).bind fun r15 =>
 (AV.asSl (r15.1.getD 0 .u)).bind fun l16 =>
 (AV.asI .i64 (r15.1.getD 1 .u)).bind fun n17 =>
 let h18 := r15.2.bump 2
 (bif (((decide ((0 : Int) ≤ n17)) && (decide (n17 ≤ (s0.length : Int)))) && (decide ((s0.length : Int) ≤ (s0.length : Int)))) then
 let h19 := h18.put r15.2.next (.cells true 9 [(.s ((s0.drop n17.toNat).take ((s0.length : Int).toNat - n17.toNat)))])
 (h19.rdSl (.loc (.n r15.2.next) 0 1) 1 1).bind fun new20 =>
 (bif (Nat.ble ((l16.2 + 1) * 17) 35184372088832) then
 (h19.appSl (r15.2.next + 1) 9 1 l16.1 l16.2 1 new20).bind fun r21 =>
 (AV.asSl r21.1).bind fun l22 =>
 some ((.sl l22.1 l22.2), r21.2)
 else none)
 else none)
 else none
def haymowref03_Cut : Sm O := frz (haymowref03_Cut_c)
theorem haymowref03_Cut_ent : Entered Tryd.prog 29 := Tryd.call29
theorem haymowref03_Cut_run : run (O := O) Tryd.prog [] Tryd.f29 (.n .z (.n .z (.n .z (.n (.n .z (.n (.lp false 0 [(5, .one .sl), (6, .one (.i .i64)), (7, .one (.i .i64))] [(5, .one .sl), (6, .one (.i .i64))] (.n (.n .z .z) (.n (.n (.n .z (.j false [(5, .one .sl), (6, .one (.i .i64))] .z .z)) .z) .z))) .z)) .z)))) = haymowref03_Cut_c  := by kernel_rfl
theorem haymowref03_Cut_sound : FSound RO Tryd.prog 29 (haymowref03_Cut) :=
   have h : FSound RO Tryd.prog 29 (haymowref03_Cut_c) := (haymowref03_Cut_run) ▸ run_sound (gnil) mixed Tryd.func29 (by kernel_rfl) _
   h.frz
def haymowref46_begins_c : Sm O := fun xs h =>
 bif Nat.beq xs.length 1 then
 (AV.asS (xs.getD 0 .u)).bind fun s0 =>
 ((bif ((decide ((s0.length : Int) ≥ 4)) == true) then
 (bif (decide ((4 : Int) ≤ (s0.length : Int))) then
 let c1 : Bool := (((s0.drop 0).take (4 - 0)) == ([110, 111, 100, 101] : List UInt8))
 some ([(.b c1)], h)
 else none)
 else some ([(.b false)], h)) : Option (List AV × AH O)).bind fun r2 =>
 (AV.asB (r2.1.getD 0 .u)).bind fun b3 =>
 some ((.b b3), r2.2)
 else none
def haymowref46_begins : Sm O := haymowref46_begins_c
theorem haymowref46_begins_ent : Entered Tryd.prog 30 := Tryd.call30
theorem haymowref46_begins_run : run (O := O) Tryd.prog [] Tryd.f30 (.n .z (.n (.g [(3, 3, [(10, .one .b)])]) .z)) = haymowref46_begins_c  := by kernel_rfl
theorem haymowref46_begins_sound : FSound RO Tryd.prog 30 haymowref46_begins := sdf haymowref46_begins_run (gnil) Tryd.func30 (by kernel_rfl)
def haymowref03_Read_L2 (s5 : List UInt8) : List AV × AH O → Option ((List AV × AH O) ⊕ (List AV × AH O)) := (fun r18 =>
 (AV.asI .u64 (r18.1.getD 0 .u)).bind fun n19 =>
 (AV.asI .i64 (r18.1.getD 1 .u)).bind fun n20 =>
 (bif (decide (n20 < (s5.length : Int))) then
 (bif (decide ((0 : Int) ≤ n20)) then
 (s5[n20.toNat]?).bind fun y21 =>
 let v22 : Int := (IntKind.u64.wrap ((IntKind.u64.wrap (n19 * 10)) + (IntKind.u64.wrap (y21.toNat : Int))))
 some (Sum.inl ([(.i .u64 (IntKind.u64.wrap (v22 - 48))), (.i .i64 (IntKind.i64.wrap (n20 + 1)))], r18.2))
 else none)
 else some (Sum.inr ([(.i .u64 n19)], r18.2))))
def haymowref03_Read_L1 (s5 : List UInt8) : List AV × AH O → Option ((List AV × AH O) ⊕ ((List AV × AH O) ⊕ (AV × AH O))) := (fun r11 =>
 (AV.asI .i64 (r11.1.getD 0 .u)).bind fun n12 =>
 (bif (decide (n12 < (s5.length : Int))) then
 (bif (decide ((0 : Int) ≤ n12)) then
 (s5[n12.toNat]?).bind fun y13 =>
 ((bif ((decide ((y13.toNat : Int) < 48)) == false) then
 (bif (decide ((0 : Int) ≤ n12)) then
 (s5[n12.toNat]?).bind fun y14 =>
 some ([(.b (decide ((y14.toNat : Int) > 57)))], r11.2)
 else none)
 else some ([(.b true)], r11.2)) : Option (List AV × AH O)).bind fun r15 =>
 (AV.asB (r15.1.getD 0 .u)).bind fun b16 =>
 (bif b16 then
 ((some ((.tup [(.i .i64 0), (.i .i64 5)]), r15.2) : Option (AV × AH O)).map fun r => Sum.inr (Sum.inr r))
 else some (Sum.inl ([(.i .i64 (IntKind.i64.wrap (n12 + 1)))], r15.2)))
 else none)
 else some (Sum.inr (Sum.inl ([], r11.2)))))
def haymowref03_Read_c : Sm O := fun xs h =>
 bif Nat.beq xs.length 1 then
 (AV.asS (xs.getD 0 .u)).bind fun s0 =>
 ((bif ((decide ((s0.length : Int) > 0)) == true) then
 (s0[0]?).bind fun y1 =>
 some ([(.b (((y1.toNat : Int) : Int) == 45))], h)
 else some ([(.b false)], h)) : Option (List AV × AH O)).bind fun r2 =>
 (AV.asB (r2.1.getD 0 .u)).bind fun b3 =>
 ((bif b3 then
 (bif ((decide ((1 : Int) ≤ (s0.length : Int))) && (decide ((s0.length : Int) ≤ (s0.length : Int)))) then
 some ([(.s ((s0.drop 1).take ((s0.length : Int).toNat - 1)))], r2.2)
 else none)
 else some ([(.s s0)], r2.2)) : Option (List AV × AH O)).bind fun r4 =>
 (AV.asS (r4.1.getD 0 .u)).bind fun s5 =>
 ((bif ((((s5.length : Int) : Int) == 0) == false) then
 (s5[0]?).bind fun y6 =>
 ((bif ((((y6.toNat : Int) : Int) == 48) == true) then
 some ([(.b (decide ((s0.length : Int) > 1)))], r4.2)
 else some ([(.b false)], r4.2)) : Option (List AV × AH O)).bind fun r7 =>
 (AV.asB (r7.1.getD 0 .u)).bind fun b8 =>
 some ([(.b b8)], r7.2)
 else some ([(.b true)], r4.2)) : Option (List AV × AH O)).bind fun r9 =>
 (AV.asB (r9.1.getD 0 .u)).bind fun b10 =>
 (bif b10 then
 some ((.tup [(.i .i64 0), (.i .i64 5)]), r9.2)
 else bindS (S := List AV × AH O) (R := (AV × AH O)) (loopF (S := List AV × AH O) (T := (List AV × AH O) ⊕ (AV × AH O)) (haymowref03_Read_L1 s5) ([(.i .i64 0)], r9.2)) fun r17 =>
 (bif (decide ((s5.length : Int) > 19)) then
 some ((.tup [(.i .i64 0), (.i .i64 2)]), r17.2)
 else (loopF (S := List AV × AH O) (T := List AV × AH O) (haymowref03_Read_L2 s5) ([(.i .u64 0), (.i .i64 0)], r17.2)).bind fun r23 =>
 (AV.asI .u64 (r23.1.getD 0 .u)).bind fun n24 =>
 (bif (((s5.length : Int) : Int) == (s0.length : Int)) then
 (bif (decide (n24 > 9223372036854775807)) then
 some ((.tup [(.i .i64 0), (.i .i64 2)]), r23.2)
 else some ((.tup [(.i .i64 (IntKind.i64.wrap n24)), (.i .i64 0)]), r23.2))
 else (bif (decide (n24 > 9223372036854775808)) then
 some ((.tup [(.i .i64 0), (.i .i64 2)]), r23.2)
 else some ((.tup [(.i .i64 (IntKind.i64.wrap (IntKind.u64.wrap (0 - n24)))), (.i .i64 0)]), r23.2)))))
 else none
def haymowref03_Read : Sm O := haymowref03_Read_c
theorem haymowref03_Read_ent : Entered Tryd.prog 48 := Tryd.call48
theorem haymowref03_Read_run : run (O := O) Tryd.prog [] Tryd.f48 (.n .z (.n .z (.n (.n (.g [(3, 3, [(16, .one .b)])]) (.j false [(4, .one .s)] .z .z)) (.n (.n (.g [(3, 8, [(31, .one .b)]), (7, 3, [(30, .one .b)])]) (.n .z .z)) (.n (.n .z (.n (.lp true 0 [(5, .one (.i .i64))] [] (.n (.n .z .z) (.n (.n (.n (.g [(4, 4, [(47, .one .b)])]) (.n .z .z)) .z) .z))) .z)) (.n (.n .z (.n .z .z)) (.n .z (.n (.n .z (.n (.lp false 2 [(6, .one (.i .u64)), (7, .one (.i .i64))] [(6, .one (.i .u64))] (.n (.n .z .z) (.n .z .z))) .z)) (.n (.n .z (.n (.n (.n .z (.n .z .z)) .z) .z)) (.n (.n .z (.n .z .z)) .z)))))))))) = haymowref03_Read_c  := by kernel_rfl
theorem haymowref03_Read_sound : FSound RO Tryd.prog 48 haymowref03_Read := sdf haymowref03_Read_run (gnil) Tryd.func48 (by kernel_rfl)
def haymowref46_numbers_L1 (l0 : SA × Nat) (k48 : Sm O) : List AV × AH O → Option ((List AV × AH O) ⊕ ((List AV × AH O) ⊕ (AV × AH O))) := (fun r1 =>
 (AV.asSl (r1.1.getD 0 .u)).bind fun l2 =>
 (AV.asI .i64 (r1.1.getD 1 .u)).bind fun n3 =>
 (bif (decide (n3 < (l0.2 : Int))) then
 (bif ((decide ((0 : Int) ≤ n3)) && (decide (n3 < (l0.2 : Int)))) then
 (SA.ref l0.1).bind fun q4 =>
 (r1.2.ld q4.1 (q4.2 + (n3.toNat * 1))).bind fun w5 =>
 (AV.asS w5).bind fun s6 =>
 (k48 [(.s s6)] r1.2).bind fun r7 =>
 (AV.asTup 2 r7.1).bind fun c8 =>
 gtI c8 0 fun n9 =>
 gtI c8 1 fun n10 =>
 (bif ((n10 : Int) != 0) then
 ((some ((.tup [(.sl .nil 0), (.b false)]), r7.2) : Option (AV × AH O)).map fun r => Sum.inr (Sum.inr r))
 else let h11 := r7.2.bump 2
 let h12 := h11.put r7.2.next (.cells true 3 [(.i .i64 n9)])
 (h12.rdSl (.loc (.n r7.2.next) 0 1) 1 1).bind fun new13 =>
 (bif (Nat.ble ((l2.2 + 1) * 9) 35184372088832) then
 (h12.appSl (r7.2.next + 1) 3 1 l2.1 l2.2 1 new13).bind fun r14 =>
 (AV.asSl r14.1).bind fun l15 =>
 some (Sum.inl ([(.sl l15.1 l15.2), (.i .i64 (IntKind.i64.wrap (n3 + 1)))], r14.2))
 else none))
 else none)
 else some (Sum.inr (Sum.inl ([(.sl l2.1 l2.2)], r1.2)))))
def haymowref46_numbers_c (k48 : Sm O) : Sm O := fun xs h =>
 bif Nat.beq xs.length 1 then
 gtS xs 0 fun l0 =>
 bindS (S := List AV × AH O) (R := (AV × AH O)) (loopF (S := List AV × AH O) (T := (List AV × AH O) ⊕ (AV × AH O)) (haymowref46_numbers_L1 l0 k48) ([(.sl .nil 0), (.i .i64 0)], h)) fun r16 =>
 (AV.asSl (r16.1.getD 0 .u)).bind fun l17 =>
 some ((.tup [(.sl l17.1 l17.2), (.b true)]), r16.2)
 else none
def haymowref46_numbers : Sm O := frz (haymowref46_numbers_c haymowref03_Read)
theorem haymowref46_numbers_ent : Entered Tryd.prog 32 := Tryd.call32
theorem haymowref46_numbers_run (k48 : Sm O) : run (O := O) Tryd.prog [(48, k48)] Tryd.f32 (.n .z (.n .z (.n (.n .z (.n (.lp true 0 [(4, .one .sl), (5, .one (.i .i64))] [(4, .one .sl)] (.n (.n .z .z) (.n (.n (.n .z (.n (.n .z (.n .z .z)) .z)) .z) .z))) .z)) .z))) = haymowref46_numbers_c k48 := by kernel_rfl
theorem haymowref46_numbers_sound : FSound RO Tryd.prog 32 (haymowref46_numbers) :=
   have h : FSound RO Tryd.prog 32 (haymowref46_numbers_c haymowref03_Read) := (haymowref46_numbers_run haymowref03_Read) ▸ run_sound (gcons haymowref03_Read_ent (haymowref03_Read_sound) <| gnil) mixed Tryd.func32 (by kernel_rfl) _
   h.frz
def haymowref03_ReadHex_L1 (s0 : List UInt8) : List AV × AH O → Option ((List AV × AH O) ⊕ ((List AV × AH O) ⊕ (AV × AH O))) := (fun r1 =>
 (AV.asI .u64 (r1.1.getD 0 .u)).bind fun n2 =>
 (AV.asI .i64 (r1.1.getD 1 .u)).bind fun n3 =>
 (bif (decide (n3 < 16)) then
 (bif (decide ((0 : Int) ≤ n3)) then
 (s0[n3.toNat]?).bind fun y4 =>
 ((bif ((decide ((y4.toNat : Int) ≥ 48)) == true) then
 some ([(.b (decide ((y4.toNat : Int) ≤ 57)))], r1.2)
 else some ([(.b false)], r1.2)) : Option (List AV × AH O)).bind fun r5 =>
 (AV.asB (r5.1.getD 0 .u)).bind fun b6 =>
 bindS (S := List AV × AH O) (R := ((List AV × AH O) ⊕ ((List AV × AH O) ⊕ (AV × AH O)))) ((bif b6 then
 let v7 : Int := (IntKind.u64.wrap ((IntKind.u64.wrap (n2 * 16)) + (IntKind.u64.wrap (y4.toNat : Int))))
 some (Sum.inl ([(.i .u64 (IntKind.u64.wrap (v7 - 48)))], r5.2))
 else ((bif ((decide ((y4.toNat : Int) ≥ 97)) == true) then
 some ([(.b (decide ((y4.toNat : Int) ≤ 102)))], r5.2)
 else some ([(.b false)], r5.2)) : Option (List AV × AH O)).bind fun r8 =>
 (AV.asB (r8.1.getD 0 .u)).bind fun b9 =>
 (bif b9 then
 let v10 : Int := (IntKind.u64.wrap ((IntKind.u64.wrap (n2 * 16)) + (IntKind.u64.wrap (y4.toNat : Int))))
 some (Sum.inl ([(.i .u64 (IntKind.u64.wrap (v10 - 87)))], r8.2))
 else ((((some ((.tup [(.i .u64 0), (.b false)]), r8.2) : Option (AV × AH O)).map fun r => Sum.inr (Sum.inr r)) : Option ((List AV × AH O) ⊕ ((List AV × AH O) ⊕ (AV × AH O)))).map Sum.inr)))) fun r11 =>
 (AV.asI .u64 (r11.1.getD 0 .u)).bind fun n12 =>
 some (Sum.inl ([(.i .u64 n12), (.i .i64 (IntKind.i64.wrap (n3 + 1)))], r11.2))
 else none)
 else some (Sum.inr (Sum.inl ([(.i .u64 n2)], r1.2)))))
def haymowref03_ReadHex_c : Sm O := fun xs h =>
 bif Nat.beq xs.length 1 then
 (AV.asS (xs.getD 0 .u)).bind fun s0 =>
 (bif (((s0.length : Int) : Int) != 16) then
 some ((.tup [(.i .u64 0), (.b false)]), h)
 else bindS (S := List AV × AH O) (R := (AV × AH O)) (loopF (S := List AV × AH O) (T := (List AV × AH O) ⊕ (AV × AH O)) (haymowref03_ReadHex_L1 s0) ([(.i .u64 0), (.i .i64 0)], h)) fun r13 =>
 (AV.asI .u64 (r13.1.getD 0 .u)).bind fun n14 =>
 some ((.tup [(.i .u64 n14), (.b true)]), r13.2))
 else none
def haymowref03_ReadHex : Sm O := haymowref03_ReadHex_c
theorem haymowref03_ReadHex_ent : Entered Tryd.prog 47 := Tryd.call47
theorem haymowref03_ReadHex_run : run (O := O) Tryd.prog [] Tryd.f47 (.n .z (.n (.n .z (.n .z .z)) (.n .z (.n (.n .z (.n (.lp true 0 [(4, .one (.i .u64)), (5, .one (.i .i64))] [(4, .one (.i .u64))] (.n (.n .z .z) (.n (.n (.n .z (.n (.n (.g [(2, 2, [(23, .one .b)])]) (.j true [(4, .one (.i .u64))] .z (.n (.g [(2, 2, [(36, .one .b)])]) (.n .z .z)))) .z)) .z) .z))) .z)) .z)))) = haymowref03_ReadHex_c  := by kernel_rfl
theorem haymowref03_ReadHex_sound : FSound RO Tryd.prog 47 haymowref03_ReadHex := sdf haymowref03_ReadHex_run (gnil) Tryd.func47 (by kernel_rfl)
def haymowref46_readNode_L2 (l4 : SA × Nat) (k47 : Sm O) (h : AH O) (r49 : AV × AH O) : List AV × AH O → Option ((List AV × AH O) ⊕ ((List AV × AH O) ⊕ (AV × AH O))) := (fun r72 =>
 (AV.asI .i64 (r72.1.getD 0 .u)).bind fun n73 =>
 (bif (decide (n73 < (l4.2 : Int))) then
 (bif ((decide ((0 : Int) ≤ n73)) && (decide (n73 < (l4.2 : Int)))) then
 (SA.ref l4.1).bind fun q74 =>
 (r72.2.ld q74.1 (q74.2 + (n73.toNat * 1))).bind fun w75 =>
 (AV.asS w75).bind fun s76 =>
 (k47 [(.s s76)] r72.2).bind fun r77 =>
 (AV.asTup 2 r77.1).bind fun c78 =>
 gtU c78 0 fun n79 =>
 (AV.asB (c78.getD 1 .u)).bind fun b80 =>
 (bif (!b80) then
 (r77.2.st (.n h.next) 0 [(.i .i64 0), (.i .i64 0), (.i .i64 0), (.i .i64 0), (.b false), (.sl .nil 0), (.sl .nil 0)]).bind fun h81 =>
 (((h81.ld (.n h.next) 0).bind fun w82 =>
 (AV.asI .i64 w82).bind fun n83 =>
 ldI h81 (.n h.next) 1 fun n85 =>
 ldI h81 (.n h.next) 2 fun n87 =>
 ldI h81 (.n h.next) 3 fun n89 =>
 (h81.ld (.n h.next) 4).bind fun w90 =>
 (AV.asB w90).bind fun b91 =>
 ldS h81 (.n h.next) 5 fun l93 =>
 ldS h81 (.n h.next) 6 fun l95 =>
 some ((.tup [(.agg [(.i .i64 n83), (.i .i64 n85), (.i .i64 n87), (.i .i64 n89), (.b b91), (.sl l93.1 l93.2), (.sl l95.1 l95.2)]), (.b false)]), h81) : Option (AV × AH O)).map fun r => Sum.inr (Sum.inr r))
 else let h96 := r77.2.bump 2
 ldS h96 (.n r49.2.next) 6 fun l98 =>
 let h99 := h96.put r77.2.next (.cells true 82 [(.i .u64 n79)])
 (h99.rdSl (.loc (.n r77.2.next) 0 1) 1 1).bind fun new100 =>
 (bif (Nat.ble ((l98.2 + 1) * 9) 35184372088832) then
 (h99.appSl (r77.2.next + 1) 82 1 l98.1 l98.2 1 new100).bind fun r101 =>
 (AV.asSl r101.1).bind fun l102 =>
 (r101.2.st (.n r49.2.next) 6 [(.sl l102.1 l102.2)]).bind fun h103 =>
 some (Sum.inl ([(.i .i64 (IntKind.i64.wrap (n73 + 1)))], h103))
 else none))
 else none)
 else some (Sum.inr (Sum.inl ([], r72.2)))))
def haymowref46_readNode_L1 (l4 : SA × Nat) : List AV × AH O → Option ((List AV × AH O) ⊕ (List AV × AH O)) := (fun r5 =>
 (AV.asI .i64 (r5.1.getD 0 .u)).bind fun n6 =>
 ((bif ((decide (n6 < (l4.2 : Int))) == true) then
 (bif ((decide ((0 : Int) ≤ n6)) && (decide (n6 < (l4.2 : Int)))) then
 (SA.ref l4.1).bind fun q7 =>
 (r5.2.ld q7.1 (q7.2 + (n6.toNat * 1))).bind fun w8 =>
 (AV.asS w8).bind fun s9 =>
 some ([(.b (!(s9 == ([58] : List UInt8))))], r5.2)
 else none)
 else some ([(.b false)], r5.2)) : Option (List AV × AH O)).bind fun r10 =>
 (AV.asB (r10.1.getD 0 .u)).bind fun b11 =>
 (bif b11 then
 some (Sum.inl ([(.i .i64 (IntKind.i64.wrap (n6 + 1)))], r10.2))
 else some (Sum.inr ([(.i .i64 n6)], r10.2))))
def haymowref46_readNode_c (k29 k32 k47 : Sm O) : Sm O := fun xs h =>
 bif Nat.beq xs.length 1 then
 (AV.asS (xs.getD 0 .u)).bind fun s0 =>
 let h1 := h.bump 1
 let h2 := h1.put h.next (.cells true 50 [(.i .i64 0), (.i .i64 0), (.i .i64 0), (.i .i64 0), (.b false), (.sl .nil 0), (.sl .nil 0)])
 (k29 [(.s s0), (.i .u8 32)] h2).bind fun r3 =>
 (AV.asSl r3.1).bind fun l4 =>
 (loopF (S := List AV × AH O) (T := List AV × AH O) (haymowref46_readNode_L1 l4) ([(.i .i64 0)], r3.2)).bind fun r12 =>
 (AV.asI .i64 (r12.1.getD 0 .u)).bind fun n13 =>
 ((bif (((n13 : Int) == (l4.2 : Int)) == false) then
 some ([(.b (decide (n13 < 4)))], r12.2)
 else some ([(.b true)], r12.2)) : Option (List AV × AH O)).bind fun r14 =>
 (AV.asB (r14.1.getD 0 .u)).bind fun b15 =>
 ((bif (b15 == false) then
 (bif (decide ((0 : Int) < (l4.2 : Int))) then
 (SA.ref l4.1).bind fun q16 =>
 (r14.2.ld q16.1 q16.2).bind fun w17 =>
 (AV.asS w17).bind fun s18 =>
 some ([(.b (!(s18 == ([110, 111, 100, 101] : List UInt8))))], r14.2)
 else none)
 else some ([(.b true)], r14.2)) : Option (List AV × AH O)).bind fun r19 =>
 (AV.asB (r19.1.getD 0 .u)).bind fun b20 =>
 ((bif (b20 == false) then
 (bif (decide ((1 : Int) < (l4.2 : Int))) then
 (SA.ref l4.1).bind fun q21 =>
 (r19.2.ld q21.1 (q21.2 + 1)).bind fun w22 =>
 (AV.asS w22).bind fun s23 =>
 let c24 : Bool := (!(s23 == ([108, 97, 114, 103, 101] : List UInt8)))
 ((bif (c24 == true) then
 (bif (decide ((1 : Int) < (l4.2 : Int))) then
 (SA.ref l4.1).bind fun q25 =>
 (r19.2.ld q25.1 (q25.2 + 1)).bind fun w26 =>
 (AV.asS w26).bind fun s27 =>
 let c28 : Bool := (!(s27 == ([115, 109, 97, 108, 108] : List UInt8)))
 some ([(.b c28)], r19.2)
 else none)
 else some ([(.b false)], r19.2)) : Option (List AV × AH O)).bind fun r29 =>
 (AV.asB (r29.1.getD 0 .u)).bind fun b30 =>
 some ([(.b b30)], r29.2)
 else none)
 else some ([(.b true)], r19.2)) : Option (List AV × AH O)).bind fun r31 =>
 (AV.asB (r31.1.getD 0 .u)).bind fun b32 =>
 (bif b32 then
 (r31.2.st (.n h.next) 0 [(.i .i64 0), (.i .i64 0), (.i .i64 0), (.i .i64 0), (.b false), (.sl .nil 0), (.sl .nil 0)]).bind fun h33 =>
 ldI h33 (.n h.next) 0 fun n35 =>
 ldI h33 (.n h.next) 1 fun n37 =>
 ldI h33 (.n h.next) 2 fun n39 =>
 ldI h33 (.n h.next) 3 fun n41 =>
 (h33.ld (.n h.next) 4).bind fun w42 =>
 (AV.asB w42).bind fun b43 =>
 ldS h33 (.n h.next) 5 fun l45 =>
 ldS h33 (.n h.next) 6 fun l47 =>
 some ((.tup [(.agg [(.i .i64 n35), (.i .i64 n37), (.i .i64 n39), (.i .i64 n41), (.b b43), (.sl l45.1 l45.2), (.sl l47.1 l47.2)]), (.b false)]), h33)
 else (bif ((decide ((2 : Int) ≤ n13)) && (decide (n13 ≤ (l4.2 : Int)))) then
 (SA.adv l4.1 2 1).bind fun a48 =>
 (k32 [(.sl a48 (n13.toNat - 2))] r31.2).bind fun r49 =>
 (AV.asTup 2 r49.1).bind fun c50 =>
 gtS c50 0 fun l51 =>
 (AV.asB (c50.getD 1 .u)).bind fun b52 =>
 (bif (!b52) then
 (r49.2.st (.n h.next) 0 [(.i .i64 0), (.i .i64 0), (.i .i64 0), (.i .i64 0), (.b false), (.sl .nil 0), (.sl .nil 0)]).bind fun h53 =>
 ldI h53 (.n h.next) 0 fun n55 =>
 ldI h53 (.n h.next) 1 fun n57 =>
 ldI h53 (.n h.next) 2 fun n59 =>
 ldI h53 (.n h.next) 3 fun n61 =>
 (h53.ld (.n h.next) 4).bind fun w62 =>
 (AV.asB w62).bind fun b63 =>
 ldS h53 (.n h.next) 5 fun l65 =>
 ldS h53 (.n h.next) 6 fun l67 =>
 some ((.tup [(.agg [(.i .i64 n55), (.i .i64 n57), (.i .i64 n59), (.i .i64 n61), (.b b63), (.sl l65.1 l65.2), (.sl l67.1 l67.2)]), (.b false)]), h53)
 else let h68 := r49.2.bump 1
 (bif ((decide ((2 : Int) ≤ (l51.2 : Int))) && (decide ((l51.2 : Int) ≤ (l51.2 : Int)))) then
 (SA.adv l51.1 2 1).bind fun a69 =>
 let h70 := h68.put r49.2.next (.cells true 50 [(.i .i64 0), (.i .i64 0), (.i .i64 0), (.i .i64 0), (.b false), (.sl .nil 0), (.sl .nil 0)])
 (h70.st (.n r49.2.next) 0 [(.i .i64 0), (.i .i64 0), (.i .i64 0), (.i .i64 0), (.b false), (.sl a69 ((l51.2 : Int).toNat - 2)), (.sl .nil 0)]).bind fun h71 =>
 bindS (S := List AV × AH O) (R := (AV × AH O)) (loopF (S := List AV × AH O) (T := (List AV × AH O) ⊕ (AV × AH O)) (haymowref46_readNode_L2 l4 k47 h r49) ([(.i .i64 (IntKind.i64.wrap (n13 + 1)))], h71)) fun r104 =>
 ldS r104.2 (.n r49.2.next) 5 fun l106 =>
 ldS r104.2 (.n r49.2.next) 6 fun l108 =>
 (bif (decide ((0 : Int) < (l51.2 : Int))) then
 (SA.ref l51.1).bind fun q109 =>
 ldI r104.2 q109.1 q109.2 fun n111 =>
 (bif (decide ((1 : Int) < (l51.2 : Int))) then
 (SA.ref l51.1).bind fun q112 =>
 ldI r104.2 q112.1 (q112.2 + 1) fun n114 =>
 (bif (decide ((1 : Int) < (l4.2 : Int))) then
 (SA.ref l4.1).bind fun q115 =>
 (r104.2.ld q115.1 (q115.2 + 1)).bind fun w116 =>
 (AV.asS w116).bind fun s117 =>
 let c118 : Bool := (s117 == ([108, 97, 114, 103, 101] : List UInt8))
 (r104.2.st (.n r49.2.next) 0 [(.i .i64 (l106.2 : Int)), (.i .i64 (l108.2 : Int)), (.i .i64 n111), (.i .i64 n114), (.b c118)]).bind fun h119 =>
 ldI h119 (.n r49.2.next) 0 fun n121 =>
 ldI h119 (.n r49.2.next) 1 fun n123 =>
 ldI h119 (.n r49.2.next) 2 fun n125 =>
 ldI h119 (.n r49.2.next) 3 fun n127 =>
 (h119.ld (.n r49.2.next) 4).bind fun w128 =>
 (AV.asB w128).bind fun b129 =>
 ldS h119 (.n r49.2.next) 5 fun l131 =>
 ldS h119 (.n r49.2.next) 6 fun l133 =>
 (h119.st (.n h.next) 0 [(.i .i64 n121), (.i .i64 n123), (.i .i64 n125), (.i .i64 n127), (.b b129), (.sl l131.1 l131.2), (.sl l133.1 l133.2)]).bind fun h134 =>
 ldI h134 (.n h.next) 0 fun n136 =>
 ldI h134 (.n h.next) 1 fun n138 =>
 ldI h134 (.n h.next) 2 fun n140 =>
 ldI h134 (.n h.next) 3 fun n142 =>
 (h134.ld (.n h.next) 4).bind fun w143 =>
 (AV.asB w143).bind fun b144 =>
 ldS h134 (.n h.next) 5 fun l146 =>
 ldS h134 (.n h.next) 6 fun l148 =>
 some ((.tup [(.agg [(.i .i64 n136), (.i .i64 n138), (.i .i64 n140), (.i .i64 n142), (.b b144), (.sl l146.1 l146.2), (.sl l148.1 l148.2)]), (.b true)]), h134)
 else none)
 else none)
 else none)
 else none))
 else none))
 else none
def haymowref46_readNode : Sm O := frz (haymowref46_readNode_c haymowref03_Cut haymowref46_numbers haymowref03_ReadHex)
theorem haymowref46_readNode_ent : Entered Tryd.prog 31 := Tryd.call31
theorem haymowref46_readNode_run (k29 k32 k47 : Sm O) : run (O := O) Tryd.prog [(29, k29), (32, k32), (47, k47)] Tryd.f31 (.n .z (.n .z (.n .z (.n (.n (.lp false 0 [(5, .one (.i .i64))] [(5, .one (.i .i64))] (.n (.n (.g [(4, 5, [(24, .one .b)])]) .z) .z)) .z) (.n (.n (.g [(4, 2, [(34, .one .b)]), (8, 4, [(40, .one .b)]), (14, 10, [(52, .one .b)]), (19, 4, [(51, .one .b)])]) (.n .z .z)) (.n .z (.n (.n .z (.n .z .z)) (.n .z (.n (.n .z (.n (.lp true 2 [(9, .one (.i .i64))] [] (.n (.n .z .z) (.n (.n (.n .z (.n (.n .z (.n .z .z)) .z)) .z) .z))) .z)) (.n (.d [] [0, 1, 2, 3, 4, 5, 6, 7, 8, 9, 10, 11, 12, 13, 14, 15, 16, 17, 18, 19] [0, 1, 3, 0, 8, 24, 63, 0, 128, 384, 0, 1024, 3072, 0, 8192, 24576, 57344, 131071, 262143, 524287]) .z)))))))))) = haymowref46_readNode_c k29 k32 k47 := by kernel_rfl
theorem haymowref46_readNode_sound : FSound RO Tryd.prog 31 (haymowref46_readNode) :=
   have h : FSound RO Tryd.prog 31 (haymowref46_readNode_c haymowref03_Cut haymowref46_numbers haymowref03_ReadHex) := (haymowref46_readNode_run haymowref03_Cut haymowref46_numbers haymowref03_ReadHex) ▸ run_sound (gcons haymowref03_Cut_ent (haymowref03_Cut_sound) <| gcons haymowref46_numbers_ent (haymowref46_numbers_sound) <| gcons haymowref03_ReadHex_ent (haymowref03_ReadHex_sound) <| gnil) mixed Tryd.func31 (by kernel_rfl) _
   h.frz
def haymowref46_Parse_L2 (l4 : SA × Nat) (r3 : AV × AH O) (h : AH O) (k29 : Sm O) (k32 : Sm O) (h7 : AH O) : List AV × AH O → Option ((List AV × AH O) ⊕ ((List AV × AH O) ⊕ (AV × AH O))) := (fun r80 =>
 (AV.asI .i64 (r80.1.getD 0 .u)).bind fun n81 =>
 (AV.asI .i64 (r80.1.getD 1 .u)).bind fun n82 =>
 (bif (decide (n82 < 2)) then
 (bif (decide (n81 ≥ (l4.2 : Int))) then
 ldS r80.2 (.n r3.2.next) 0 fun l84 =>
 ldS r80.2 (.n r3.2.next) 1 fun l86 =>
 ldS r80.2 (.n r3.2.next) 2 fun l88 =>
 (r80.2.st (.n h.next) 0 [(.sl l84.1 l84.2), (.sl l86.1 l86.2), (.sl l88.1 l88.2)]).bind fun h89 =>
 (((h89.ld (.n h.next) 0).bind fun w90 =>
 (AV.asSl w90).bind fun l91 =>
 ldS h89 (.n h.next) 1 fun l93 =>
 ldS h89 (.n h.next) 2 fun l95 =>
 some ((.tup [(.agg [(.sl l91.1 l91.2), (.sl l93.1 l93.2), (.sl l95.1 l95.2)]), (.i .i64 (IntKind.i64.wrap (n81 + 1))), (.i .i64 61)]), h89) : Option (AV × AH O)).map fun r => Sum.inr (Sum.inr r))
 else (bif ((decide ((0 : Int) ≤ n81)) && (decide (n81 < (l4.2 : Int)))) then
 (SA.ref l4.1).bind fun q96 =>
 (r80.2.ld q96.1 (q96.2 + (n81.toNat * 1))).bind fun w97 =>
 (AV.asS w97).bind fun s98 =>
 (k29 [(.s s98), (.i .u8 32)] r80.2).bind fun r99 =>
 (AV.asSl r99.1).bind fun l100 =>
 (bif ((decide ((1 : Int) ≤ (l100.2 : Int))) && (decide ((l100.2 : Int) ≤ (l100.2 : Int)))) then
 (SA.adv l100.1 1 1).bind fun a101 =>
 (k32 [(.sl a101 ((l100.2 : Int).toNat - 1))] r99.2).bind fun r102 =>
 (AV.asTup 2 r102.1).bind fun c103 =>
 gtS c103 0 fun l104 =>
 (AV.asB (c103.getD 1 .u)).bind fun b105 =>
 ((bif ((!b105) == false) then
 ((bif (((n82 : Int) == 0) == true) then
 (bif (decide ((0 : Int) < (l100.2 : Int))) then
 (SA.ref l100.1).bind fun q106 =>
 (r102.2.ld q106.1 q106.2).bind fun w107 =>
 (AV.asS w107).bind fun s108 =>
 let c109 : Bool := (!(s108 == ([114, 111, 111, 116, 115] : List UInt8)))
 some ([(.b c109)], r102.2)
 else none)
 else some ([(.b false)], r102.2)) : Option (List AV × AH O)).bind fun r110 =>
 (AV.asB (r110.1.getD 0 .u)).bind fun b111 =>
 some ([(.b b111)], r110.2)
 else some ([(.b true)], r102.2)) : Option (List AV × AH O)).bind fun r112 =>
 (AV.asB (r112.1.getD 0 .u)).bind fun b113 =>
 ((bif (b113 == false) then
 ((bif (((n82 : Int) == 1) == true) then
 (bif (decide ((0 : Int) < (l100.2 : Int))) then
 (SA.ref l100.1).bind fun q114 =>
 (r112.2.ld q114.1 q114.2).bind fun w115 =>
 (AV.asS w115).bind fun s116 =>
 some ([(.b (!(s116 == ([119, 101, 97, 107] : List UInt8))))], r112.2)
 else none)
 else some ([(.b false)], r112.2)) : Option (List AV × AH O)).bind fun r117 =>
 (AV.asB (r117.1.getD 0 .u)).bind fun b118 =>
 some ([(.b b118)], r117.2)
 else some ([(.b true)], r112.2)) : Option (List AV × AH O)).bind fun r119 =>
 (AV.asB (r119.1.getD 0 .u)).bind fun b120 =>
 (bif b120 then
 ldS r119.2 (.n r3.2.next) 0 fun l122 =>
 ldS r119.2 (.n r3.2.next) 1 fun l124 =>
 ldS r119.2 (.n r3.2.next) 2 fun l126 =>
 (r119.2.st (.n h.next) 0 [(.sl l122.1 l122.2), (.sl l124.1 l124.2), (.sl l126.1 l126.2)]).bind fun h127 =>
 (((h127.ld (.n h.next) 0).bind fun w128 =>
 (AV.asSl w128).bind fun l129 =>
 ldS h127 (.n h.next) 1 fun l131 =>
 ldS h127 (.n h.next) 2 fun l133 =>
 some ((.tup [(.agg [(.sl l129.1 l129.2), (.sl l131.1 l131.2), (.sl l133.1 l133.2)]), (.i .i64 (IntKind.i64.wrap (n81 + 1))), (.i .i64 61)]), h127) : Option (AV × AH O)).map fun r => Sum.inr (Sum.inr r))
 else ((bif ((n82 : Int) == 0) then
 (r119.2.st (.n h7.next) 1 [(.sl l104.1 l104.2)]).bind fun h134 =>
 some ([], h134)
 else (r119.2.st (.n h7.next) 2 [(.sl l104.1 l104.2)]).bind fun h135 =>
 some ([], h135)) : Option (List AV × AH O)).bind fun r136 =>
 some (Sum.inl ([(.i .i64 (IntKind.i64.wrap (n81 + 1))), (.i .i64 (IntKind.i64.wrap (n82 + 1)))], r136.2)))
 else none)
 else none))
 else some (Sum.inr (Sum.inl ([(.i .i64 n81)], r80.2)))))
def haymowref46_Parse_L1 (l4 : SA × Nat) (k30 : Sm O) (k31 : Sm O) (r3 : AV × AH O) (h : AH O) (h7 : AH O) : List AV × AH O → Option ((List AV × AH O) ⊕ ((List AV × AH O) ⊕ (AV × AH O))) := (fun r17 =>
 (AV.asI .i64 (r17.1.getD 0 .u)).bind fun n18 =>
 ((bif ((decide (n18 < (l4.2 : Int))) == true) then
 (bif ((decide ((0 : Int) ≤ n18)) && (decide (n18 < (l4.2 : Int)))) then
 (SA.ref l4.1).bind fun q19 =>
 (r17.2.ld q19.1 (q19.2 + (n18.toNat * 1))).bind fun w20 =>
 (AV.asS w20).bind fun s21 =>
 (k30 [(.s s21)] r17.2).bind fun r22 =>
 (AV.asB r22.1).bind fun b23 =>
 some ([(.b b23)], r22.2)
 else none)
 else some ([(.b false)], r17.2)) : Option (List AV × AH O)).bind fun r24 =>
 (AV.asB (r24.1.getD 0 .u)).bind fun b25 =>
 (bif b25 then
 let h26 := r24.2.bump 1
 (bif ((decide ((0 : Int) ≤ n18)) && (decide (n18 < (l4.2 : Int)))) then
 (SA.ref l4.1).bind fun q27 =>
 (h26.ld q27.1 (q27.2 + (n18.toNat * 1))).bind fun w28 =>
 (AV.asS w28).bind fun s29 =>
 (k31 [(.s s29)] h26).bind fun r30 =>
 (AV.asTup 2 r30.1).bind fun c31 =>
 (AV.asAgg 7 (c31.getD 0 .u)).bind fun c32 =>
 gtI c32 0 fun n33 =>
 gtI c32 1 fun n34 =>
 gtI c32 2 fun n35 =>
 gtI c32 3 fun n36 =>
 (AV.asB (c32.getD 4 .u)).bind fun b37 =>
 gtS c32 5 fun l38 =>
 gtS c32 6 fun l39 =>
 (AV.asB (c31.getD 1 .u)).bind fun b40 =>
 let h41 := r30.2.put r24.2.next (.cells true 50 [(.i .i64 0), (.i .i64 0), (.i .i64 0), (.i .i64 0), (.b false), (.sl .nil 0), (.sl .nil 0)])
 (h41.st (.n r24.2.next) 0 [(.i .i64 n33), (.i .i64 n34), (.i .i64 n35), (.i .i64 n36), (.b b37), (.sl l38.1 l38.2), (.sl l39.1 l39.2)]).bind fun h42 =>
 (bif (!b40) then
 ldS h42 (.n r3.2.next) 0 fun l44 =>
 ldS h42 (.n r3.2.next) 1 fun l46 =>
 ldS h42 (.n r3.2.next) 2 fun l48 =>
 (h42.st (.n h.next) 0 [(.sl l44.1 l44.2), (.sl l46.1 l46.2), (.sl l48.1 l48.2)]).bind fun h49 =>
 (((h49.ld (.n h.next) 0).bind fun w50 =>
 (AV.asSl w50).bind fun l51 =>
 ldS h49 (.n h.next) 1 fun l53 =>
 ldS h49 (.n h.next) 2 fun l55 =>
 some ((.tup [(.agg [(.sl l51.1 l51.2), (.sl l53.1 l53.2), (.sl l55.1 l55.2)]), (.i .i64 (IntKind.i64.wrap (n18 + 1))), (.i .i64 61)]), h49) : Option (AV × AH O)).map fun r => Sum.inr (Sum.inr r))
 else let h56 := h42.bump 2
 ldS h56 (.n h7.next) 0 fun l58 =>
 ldI h56 (.n r24.2.next) 0 fun n60 =>
 ldI h56 (.n r24.2.next) 1 fun n62 =>
 ldI h56 (.n r24.2.next) 2 fun n64 =>
 ldI h56 (.n r24.2.next) 3 fun n66 =>
 (h56.ld (.n r24.2.next) 4).bind fun w67 =>
 (AV.asB w67).bind fun b68 =>
 ldS h56 (.n r24.2.next) 5 fun l70 =>
 ldS h56 (.n r24.2.next) 6 fun l72 =>
 let h73 := h56.put h42.next (.cells true 50 [(.i .i64 n60), (.i .i64 n62), (.i .i64 n64), (.i .i64 n66), (.b b68), (.sl l70.1 l70.2), (.sl l72.1 l72.2)])
 (h73.rdSl (.loc (.n h42.next) 0 7) 1 7).bind fun new74 =>
 (bif (Nat.ble ((l58.2 + 1) * 89) 35184372088832) then
 (h73.appSl (h42.next + 1) 50 7 l58.1 l58.2 1 new74).bind fun r75 =>
 (AV.asSl r75.1).bind fun l76 =>
 (r75.2.st (.n h7.next) 0 [(.sl l76.1 l76.2)]).bind fun h77 =>
 some (Sum.inl ([(.i .i64 (IntKind.i64.wrap (n18 + 1)))], h77))
 else none))
 else none)
 else some (Sum.inr (Sum.inl ([(.i .i64 n18)], r24.2)))))
def haymowref46_Parse_c (k29 k30 k31 k32 k9 : Sm O) : Sm O := fun xs h =>
 bif Nat.beq xs.length 1 then
 (AV.asS (xs.getD 0 .u)).bind fun s0 =>
 let h1 := h.bump 1
 let h2 := h1.put h.next (.cells true 30 [(.sl .nil 0), (.sl .nil 0), (.sl .nil 0)])
 (k29 [(.s s0), (.i .u8 10)] h2).bind fun r3 =>
 (AV.asSl r3.1).bind fun l4 =>
 let h5 := r3.2.bump 1
 let h6 := h5.put r3.2.next (.cells true 30 [(.sl .nil 0), (.sl .nil 0), (.sl .nil 0)])
 (h6.st (.n r3.2.next) 0 [(.sl .nil 0), (.sl .nil 0), (.sl .nil 0)]).bind fun h7 =>
 let h8 := h7.bump 1
 ldS h8 (.n r3.2.next) 0 fun l10 =>
 ldS h8 (.n r3.2.next) 1 fun l12 =>
 ldS h8 (.n r3.2.next) 2 fun l14 =>
 let h15 := h8.put h7.next (.cells true 30 [(.sl .nil 0), (.sl .nil 0), (.sl .nil 0)])
 (h15.st (.n h7.next) 0 [(.sl l10.1 l10.2), (.sl l12.1 l12.2), (.sl l14.1 l14.2)]).bind fun h16 =>
 bindS (S := List AV × AH O) (R := (AV × AH O)) (loopF (S := List AV × AH O) (T := (List AV × AH O) ⊕ (AV × AH O)) (haymowref46_Parse_L1 l4 k30 k31 r3 h h7) ([(.i .i64 0)], h16)) fun r78 =>
 (AV.asI .i64 (r78.1.getD 0 .u)).bind fun n79 =>
 bindS (S := List AV × AH O) (R := (AV × AH O)) (loopF (S := List AV × AH O) (T := (List AV × AH O) ⊕ (AV × AH O)) (haymowref46_Parse_L2 l4 r3 h k29 k32 h7) ([(.i .i64 n79), (.i .i64 0)], r78.2)) fun r137 =>
 (AV.asI .i64 (r137.1.getD 0 .u)).bind fun n138 =>
 let c139 : Bool := ((n138 : Int) != (IntKind.i64.wrap ((l4.2 : Int) - 1)))
 ((bif (c139 == false) then
 (bif ((decide ((0 : Int) ≤ n138)) && (decide (n138 < (l4.2 : Int)))) then
 (SA.ref l4.1).bind fun q140 =>
 (r137.2.ld q140.1 (q140.2 + (n138.toNat * 1))).bind fun w141 =>
 (AV.asS w141).bind fun s142 =>
 some ([(.b (decide ((s142.length : Int) > 0)))], r137.2)
 else none)
 else some ([(.b true)], r137.2)) : Option (List AV × AH O)).bind fun r143 =>
 (AV.asB (r143.1.getD 0 .u)).bind fun b144 =>
 (bif b144 then
 ldS r143.2 (.n r3.2.next) 0 fun l146 =>
 ldS r143.2 (.n r3.2.next) 1 fun l148 =>
 ldS r143.2 (.n r3.2.next) 2 fun l150 =>
 (r143.2.st (.n h.next) 0 [(.sl l146.1 l146.2), (.sl l148.1 l148.2), (.sl l150.1 l150.2)]).bind fun h151 =>
 ldS h151 (.n h.next) 0 fun l153 =>
 ldS h151 (.n h.next) 1 fun l155 =>
 ldS h151 (.n h.next) 2 fun l157 =>
 some ((.tup [(.agg [(.sl l153.1 l153.2), (.sl l155.1 l155.2), (.sl l157.1 l157.2)]), (.i .i64 (IntKind.i64.wrap (n138 + 1))), (.i .i64 61)]), h151)
 else ldS r143.2 (.n h7.next) 0 fun l159 =>
 ldS r143.2 (.n h7.next) 1 fun l161 =>
 ldS r143.2 (.n h7.next) 2 fun l163 =>
 (k9 [(.agg [(.sl l159.1 l159.2), (.sl l161.1 l161.2), (.sl l163.1 l163.2)])] r143.2).bind fun r164 =>
 (AV.asB r164.1).bind fun b165 =>
 (bif (!b165) then
 ldS r164.2 (.n r3.2.next) 0 fun l167 =>
 ldS r164.2 (.n r3.2.next) 1 fun l169 =>
 ldS r164.2 (.n r3.2.next) 2 fun l171 =>
 (r164.2.st (.n h.next) 0 [(.sl l167.1 l167.2), (.sl l169.1 l169.2), (.sl l171.1 l171.2)]).bind fun h172 =>
 ldS h172 (.n h.next) 0 fun l174 =>
 ldS h172 (.n h.next) 1 fun l176 =>
 ldS h172 (.n h.next) 2 fun l178 =>
 some ((.tup [(.agg [(.sl l174.1 l174.2), (.sl l176.1 l176.2), (.sl l178.1 l178.2)]), (.i .i64 0), (.i .i64 5)]), h172)
 else ldS r164.2 (.n h7.next) 0 fun l180 =>
 ldS r164.2 (.n h7.next) 1 fun l182 =>
 ldS r164.2 (.n h7.next) 2 fun l184 =>
 (r164.2.st (.n h.next) 0 [(.sl l180.1 l180.2), (.sl l182.1 l182.2), (.sl l184.1 l184.2)]).bind fun h185 =>
 ldS h185 (.n h.next) 0 fun l187 =>
 ldS h185 (.n h.next) 1 fun l189 =>
 ldS h185 (.n h.next) 2 fun l191 =>
 some ((.tup [(.agg [(.sl l187.1 l187.2), (.sl l189.1 l189.2), (.sl l191.1 l191.2)]), (.i .i64 0), (.i .i64 0)]), h185)))
 else none
def haymowref46_Parse : Sm O := frz (haymowref46_Parse_c haymowref03_Cut haymowref46_begins haymowref46_readNode haymowref46_numbers haymowref40_Right)
theorem haymowref46_Parse_ent : Entered Tryd.prog 13 := Tryd.call13
theorem haymowref46_Parse_run (k29 k30 k31 k32 k9 : Sm O) : run (O := O) Tryd.prog [(29, k29), (30, k30), (31, k31), (32, k32), (9, k9)] Tryd.f13 (.n .z (.n .z (.n .z (.n .z (.n .z (.n (.n (.lp true 0 [(8, .one (.i .i64))] [(8, .one (.i .i64))] (.n (.n (.g [(4, 5, [(29, .one .b)])]) .z) (.n (.n .z (.n (.n .z (.n .z .z)) .z)) .z))) .z) (.n (.n .z (.n (.lp true 2 [(8, .one (.i .i64)), (11, .one (.i .i64))] [(8, .one (.i .i64))] (.n (.n .z .z) (.n (.n (.n (.n .z (.n .z .z)) (.n .z (.n .z (.n (.n (.g [(2, 8, [(84, .one .b)]), (5, 4, [(83, .one .b)]), (12, 8, [(94, .one .b)]), (15, 4, [(93, .one .b)])]) (.n .z .z)) (.n (.n .z (.j false [] .z .z)) .z))))) .z) .z))) .z)) (.n (.n (.g [(5, 6, [(118, .one .b)])]) (.n .z .z)) (.n (.n .z (.n .z .z)) .z))))))))) = haymowref46_Parse_c k29 k30 k31 k32 k9 := by kernel_rfl
theorem haymowref46_Parse_sound : FSound RO Tryd.prog 13 (haymowref46_Parse) :=
   have h : FSound RO Tryd.prog 13 (haymowref46_Parse_c haymowref03_Cut haymowref46_begins haymowref46_readNode haymowref46_numbers haymowref40_Right) := (haymowref46_Parse_run haymowref03_Cut haymowref46_begins haymowref46_readNode haymowref46_numbers haymowref40_Right) ▸ run_sound (gcons haymowref03_Cut_ent (haymowref03_Cut_sound) <| gcons haymowref46_begins_ent (haymowref46_begins_sound) <| gcons haymowref46_readNode_ent (haymowref46_readNode_sound) <| gcons haymowref46_numbers_ent (haymowref46_numbers_sound) <| gcons haymowref40_Right_ent (haymowref40_Right_sound) <| gnil) mixed Tryd.func13 (by kernel_rfl) _
   h.frz
def law46_LinesParses_c (k5 k10 k13 k12 k8 : Sm O) : Sm O := fun xs h =>
 bif Nat.beq xs.length 1 then
 (AV.asS (xs.getD 0 .u)).bind fun s0 =>
 (k5 [] h).bind fun r1 =>
 (AV.asB r1.1).bind fun b2 =>
 (bif (!b2) then
 some ((.b false), r1.2)
 else (bif (decide ((s0.length : Int) > 1200)) then
 some ((.b true), r1.2)
 else let h3 := r1.2.bump 1
 (k10 [(.s s0)] h3).bind fun r4 =>
 (AV.asTup 3 r4.1).bind fun c5 =>
 (AV.asAgg 3 (c5.getD 0 .u)).bind fun c6 =>
 gtS c6 0 fun l7 =>
 gtS c6 1 fun l8 =>
 gtS c6 2 fun l9 =>
 gtI c5 1 fun n10 =>
 gtI c5 2 fun n11 =>
 let h12 := r4.2.put r1.2.next (.cells true 25 [(.sl .nil 0), (.sl .nil 0), (.sl .nil 0)])
 (h12.st (.n r1.2.next) 0 [(.sl l7.1 l7.2), (.sl l8.1 l8.2), (.sl l9.1 l9.2)]).bind fun h13 =>
 let h14 := h13.bump 1
 (k13 [(.s s0)] h14).bind fun r15 =>
 (AV.asTup 3 r15.1).bind fun c16 =>
 (AV.asAgg 3 (c16.getD 0 .u)).bind fun c17 =>
 gtS c17 0 fun l18 =>
 gtS c17 1 fun l19 =>
 gtS c17 2 fun l20 =>
 gtI c16 1 fun n21 =>
 gtI c16 2 fun n22 =>
 let h23 := r15.2.put h13.next (.cells true 30 [(.sl .nil 0), (.sl .nil 0), (.sl .nil 0)])
 (h23.st (.n h13.next) 0 [(.sl l18.1 l18.2), (.sl l19.1 l19.2), (.sl l20.1 l20.2)]).bind fun h24 =>
 ldS h24 (.n r1.2.next) 0 fun l26 =>
 ldS h24 (.n r1.2.next) 1 fun l28 =>
 ldS h24 (.n r1.2.next) 2 fun l30 =>
 ldS h24 (.n h13.next) 0 fun l32 =>
 ldS h24 (.n h13.next) 1 fun l34 =>
 ldS h24 (.n h13.next) 2 fun l36 =>
 (k12 [(.agg [(.sl l26.1 l26.2), (.sl l28.1 l28.2), (.sl l30.1 l30.2)]), (.agg [(.sl l32.1 l32.2), (.sl l34.1 l34.2), (.sl l36.1 l36.2)])] h24).bind fun r37 =>
 (AV.asB r37.1).bind fun b38 =>
 ((bif ((!b38) == false) then
 some ([(.b ((n10 : Int) != n21))], r37.2)
 else some ([(.b true)], r37.2)) : Option (List AV × AH O)).bind fun r39 =>
 (AV.asB (r39.1.getD 0 .u)).bind fun b40 =>
 ((bif (b40 == false) then
 some ([(.b ((n11 : Int) != n22))], r39.2)
 else some ([(.b true)], r39.2)) : Option (List AV × AH O)).bind fun r41 =>
 (AV.asB (r41.1.getD 0 .u)).bind fun b42 =>
 (bif b42 then
 some ((.b false), r41.2)
 else ((bif (((n11 : Int) != 0) == false) then
 ldS r41.2 (.n r1.2.next) 0 fun l44 =>
 ldS r41.2 (.n r1.2.next) 1 fun l46 =>
 ldS r41.2 (.n r1.2.next) 2 fun l48 =>
 (k8 [(.agg [(.sl l44.1 l44.2), (.sl l46.1 l46.2), (.sl l48.1 l48.2)])] r41.2).bind fun r49 =>
 (AV.asS r49.1).bind fun s50 =>
 some ([(.b (s50 == s0))], r49.2)
 else some ([(.b true)], r41.2)) : Option (List AV × AH O)).bind fun r51 =>
 (AV.asB (r51.1.getD 0 .u)).bind fun b52 =>
 some ((.b b52), r51.2))))
 else none
def law46_LinesParses : Sm O := law46_LinesParses_c law46_awake lines_Parse haymowref46_Parse law40_Is lines_Text
theorem law46_LinesParses_run (k5 k10 k13 k12 k8 : Sm O) : run (O := O) Tryd.prog [(5, k5), (10, k10), (13, k13), (12, k12), (8, k8)] Tryd.f4 (.n .z (.n (.n .z (.n .z .z)) (.n (.n .z (.n .z .z)) (.n .z (.n .z (.n (.n (.g [(4, 3, [(34, .one .b)]), (9, 3, [(39, .one .b)])]) (.n .z .z)) (.n (.g [(2, 4, [(47, .one .b)])]) .z))))))) = law46_LinesParses_c k5 k10 k13 k12 k8 := by kernel_rfl
theorem law46_LinesParses_sound : FSound RO Tryd.prog 4 law46_LinesParses := sdf (law46_LinesParses_run _ _ _ _ _) (gcons law46_awake_ent law46_awake_sound <| gcons lines_Parse_ent lines_Parse_sound <| gcons haymowref46_Parse_ent haymowref46_Parse_sound <| gcons law40_Is_ent law40_Is_sound <| gcons lines_Text_ent lines_Text_sound <| gnil) Tryd.func4 (by kernel_rfl)
end
end Go.Abs.Tryd
