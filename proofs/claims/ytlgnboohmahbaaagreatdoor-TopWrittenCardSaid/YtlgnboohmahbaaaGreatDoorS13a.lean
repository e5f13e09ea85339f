/-
  What functions of the program do. No conditions.
-/
import Derived.Test.YtlgnboohmahbaaaGreatDoorAbsExtern
import Derived.Test.YtlgnboohmahbaaaGreatDoorAbsWord
import Derived.Test.YtlgnboohmahbaaaGreatDoorS10s
import Derived.Test.YtlgnboohmahbaaaGreatDoorProg
import Derived.KernelRfl
set_option linter.unusedVariables false
set_option linter.unusedSimpArgs false
set_option linter.constructorNameAsVariable false
set_option maxRecDepth 100000
namespace Go.Abs.Tryz
open Go Go.Abs Go.Proofs
noncomputable section
variable {O:Type} {RO:O → Loc → (Nat → Option Obj) → Prop}
theorem mixed:Tryz.prog.follows .mixedOrders=true:=by kernel_rfl
theorem bt {G:List (FuncId × Sm O)} {f:FuncId} {fn:Func} {an:Di} {s:Sm O} (e:run Tryz.prog G fn an=s) (hG:dJ RO Tryz.prog G) (hf:Tryz.prog.funcs[f]? = some fn) (hk:aib fn=true):ae RO Tryz.prog f s:=e▸aU hG mixed hf hk an
def fO:Sm O:=fun xs h=>
 bif Nat.beq xs.length 3 then
 kG xs 0 fun n0=>
 (AV.lN (xs.getD 1 .u)).bind fun q1=>
 bI h q1.1 q1.2 fun n3=>
 ((bif ((decide (n0<n3)) == false) then
 (AV.lN (xs.getD 2 .u)).bind fun q4=>
 bI h q4.1 q4.2 fun n6=>
 some ([(.b (decide (n0 > n6)))],h)
 else some ([(.b true)],h)):Option (List AV × AH O)).bind fun r7=>
 (AV.aV (r7.1.getD 0 .u)).bind fun b8=>
 some ((.b b8),r7.2)
 else none
def cW:Sm O:=fO
theorem rW:aa Tryz.prog 42:=Tryz.call42
theorem FB:run (O:=O) Tryz.prog [] Tryz.f42 (.n .z (.n (.g [(3,3,[(12,.one .b)])]) .z))=fO:=by kernel_rfl
theorem oX:ae RO Tryz.prog 42 cW:=bt FB (aA) Tryz.func42 (by kernel_rfl)
def cq (l0:SA × Nat) (k42:Sm O) (f1:Option (Fn × List AV × List AV)):List AV × AH O → Option ((List AV × AH O) ⊕ ((List AV × AH O) ⊕ (AV × AH O))):=(fun r2=>
 (AV.ag .i64 (r2.1.getD 0 .u)).bind fun n3=>
 (bif (decide (n3<(l0.2:Int))) then
 (bif ((decide ((0:Int) ≤ n3)) && (decide (n3<(l0.2:Int)))) then
 (SA.ref l0.1).bind fun q4=>
 bI r2.2 q4.1 (q4.2+(n3.toNat*1)) fun n6=>
 (JA [(42,k42)] f1 [(.i .i64 n6)] r2.2).bind fun r7=>
 (AV.aV r7.1).bind fun b8=>
 (bif b8 then
 ((some ((.i .i64 n3),r7.2):Option (AV × AH O)).map fun r=>Sum.inr (Sum.inr r))
 else some (Sum.inl ([(.i .i64 (IntKind.i64.wrap (n3+1)))],r7.2)))
 else none)
 else some (Sum.inr (Sum.inl ([],r2.2)))))
def dA (k42:Sm O):Sm O:=fun xs h=>
 bif Nat.beq xs.length 2 then
 kH xs 0 fun l0=>
 (AV.Qt (xs.getD 1 .u)).bind fun f1=>
 bK (S:=List AV × AH O) (R:=(AV × AH O)) (aQ (S:=List AV × AH O) (T:=(List AV × AH O) ⊕ (AV × AH O)) (cq l0 k42 f1) ([(.i .i64 0)],h)) fun r9=>
 some ((.i .i64 (-1)),r9.2)
 else none
def cO:Sm O:=dA cW
theorem ni:aa Tryz.prog 68:=Tryz.call68
theorem nj (k42:Sm O):run (O:=O) Tryz.prog [(42,k42)] Tryz.f68 (.n .z (.n (.n .z (.n (.lp true 0 [(8,.one (.i .i64))] [] (.n .z (.n .z (.n (.n (.n .z (.n .z (.n .z .z))) .z) .z)))) .z)) .z))=dA k42:=by kernel_rfl
theorem lI:ae RO Tryz.prog 68 cO:=bt (nj _) (af rW oX <| aA) Tryz.func68 (by kernel_rfl)
def cX (k68:Sm O):Sm O:=fun xs h=>
 bif Nat.beq xs.length 2 then
 kH xs 0 fun l0=>
 (AV.Qt (xs.getD 1 .u)).bind fun f1=>
 (k68 [(.sl l0.1 l0.2),(.fn f1)] h).bind fun r2=>
 (AV.ag .i64 r2.1).bind fun n3=>
 some ((.b (decide (n3 ≥ 0))),r2.2)
 else none
def dt:Sm O:=cX cO
theorem kL:aa Tryz.prog 41:=Tryz.call41
theorem kM (k68:Sm O):run (O:=O) Tryz.prog [(68,k68)] Tryz.f41 (.n .z .z)=cX k68:=by kernel_rfl
theorem jM:ae RO Tryz.prog 41 dt:=bt (kM _) (af ni lI <| aA) Tryz.func41 (by kernel_rfl)
def rV (k42 k41:Sm O):Sm O:=fun xs h=>
 bif Nat.beq xs.length 3 then
 kH xs 0 fun l0=>
 kG xs 1 fun n1=>
 kG xs 2 fun n2=>
 let h3:=h.bump 2
 let h4:=h3.put h.next (.cells true 3 [(.i .i64 n1)])
 let h5:=h4.put (h.next+1) (.cells true 3 [(.i .i64 n2)])
 (k41 [(.sl l0.1 l0.2),(.fn (some (.func 42,[],[(.p (some ((.n h.next),0))),(.p (some ((.n (h.next+1)),0)))])))] h5).bind fun r6=>
 (AV.aV r6.1).bind fun b7=>
 some ((.b (!b7)),r6.2)
 else none
def mc:Sm O:=rV cW dt
theorem IF:aa Tryz.prog 14:=Tryz.call14
theorem IG (k42 k41:Sm O):run (O:=O) Tryz.prog [(42,k42),(41,k41)] Tryz.f14 (.n .z .z)=rV k42 k41:=by kernel_rfl
theorem FD:ae RO Tryz.prog 14 mc:=bt (IG _ _) (af rW oX <| af kL jM <| aA) Tryz.func14 (by kernel_rfl)
def jn (l0:SA × Nat) (xs:List AV):List AV × AH O → Option ((List AV × AH O) ⊕ ((List AV × AH O) ⊕ (AV × AH O))):=(fun r1=>
 (AV.ag .i64 (r1.1.getD 0 .u)).bind fun n2=>
 (bif (decide (n2<(l0.2:Int))) then
 (bif ((decide ((0:Int) ≤ n2)) && (decide (n2<(l0.2:Int)))) then
 (SA.ref l0.1).bind fun q3=>
 bI r1.2 q3.1 (q3.2+(n2.toNat*1)) fun n5=>
 (AV.lN (xs.getD 1 .u)).bind fun q6=>
 bI r1.2 q6.1 q6.2 fun n8=>
 (bif (decide (n5 > (IntKind.i64.wrap (n8+1)))) then
 ((some ((.b false),r1.2):Option (AV × AH O)).map fun r=>Sum.inr (Sum.inr r))
 else (AV.lN (xs.getD 1 .u)).bind fun q9=>
 bI r1.2 q9.1 q9.2 fun dZ=>
 (AV.lN (xs.getD 1 .u)).bind fun Kx=>
 (r1.2.st Kx.1 Kx.2 [(.i .i64 (if n5 > dZ then n5 else dZ))]).bind fun nk=>
 some (Sum.inl ([(.i .i64 (IntKind.i64.wrap (n2+1)))],nk)))
 else none)
 else some (Sum.inr (Sum.inl ([],r1.2)))))
def pW:Sm O:=fun xs h=>
 bif Nat.beq xs.length 2 then
 kH xs 0 fun l0=>
 bK (S:=List AV × AH O) (R:=(AV × AH O)) (aQ (S:=List AV × AH O) (T:=(List AV × AH O) ⊕ (AV × AH O)) (jn l0 xs) ([(.i .i64 0)],h)) fun r14=>
 some ((.b true),r14.2)
 else none
def j5:Sm O:=pW
theorem GP:aa Tryz.prog 15:=Tryz.call15
theorem GQ:run (O:=O) Tryz.prog [] Tryz.f15 (.n .z (.n (.n .z (.n (.lp true 0 [(8,.one (.i .i64))] [] (.n .z (.n .z (.n (.n (.n .z (.n (.n .z (.n .z .z)) .z)) .z) .z)))) .z)) .z))=pW:=by kernel_rfl
theorem DH:ae RO Tryz.prog 15 j5:=bt GQ (aA) Tryz.func15 (by kernel_rfl)
def kz:Sm O:=fun xs h=>
 bif Nat.beq xs.length 2 then
 kG xs 0 fun n0=>
 kG xs 1 fun n1=>
 ((bif ((decide (n0 ≥ 0)) == true) then
 some ([(.b (decide (n0 ≤ n1)))],h)
 else some ([(.b false)],h)):Option (List AV × AH O)).bind fun r2=>
 (AV.aV (r2.1.getD 0 .u)).bind fun b3=>
 some ((.b b3),r2.2)
 else none
def j4:Sm O:=kz
theorem GR:aa Tryz.prog 43:=Tryz.call43
theorem GS:run (O:=O) Tryz.prog [] Tryz.f43 (.n .z (.n (.g [(2,3,[(11,.one .b)])]) .z))=kz:=by kernel_rfl
theorem DI:ae RO Tryz.prog 43 j4:=bt GS (aA) Tryz.func43 (by kernel_rfl)
def ez (k43:Sm O):Sm O:=fun xs h=>
 bif Nat.beq xs.length 1 then
 (AV.asAgg 5 (xs.getD 0 .u)).bind fun c0=>
 kG c0 0 fun n1=>
 kG c0 1 fun n2=>
 kG c0 2 fun n3=>
 kG c0 3 fun n4=>
 (AV.aV (c0.getD 4 .u)).bind fun b5=>
 let h6:=h.bump 1
 let h7:=h6.put h.next (.cells true 47 [(.i .i64 n1),(.i .i64 n2),(.i .i64 n3),(.i .i64 n4),(.b b5)])
 bI h7 (.n h.next) 0 fun n9=>
 (k43 [(.i .i64 n9),(.i .i64 4095)] h7).bind fun dw=>
 (AV.aV dw.1).bind fun WA=>
 ((bif ((!WA) == false) then
 bI dw.2 (.n h.next) 1 fun fg=>
 (k43 [(.i .i64 fg),(.i .i64 4095)] dw.2).bind fun r14=>
 (AV.aV r14.1).bind fun XM=>
 some ([(.b (!XM))],r14.2)
 else some ([(.b true)],dw.2)):Option (List AV × AH O)).bind fun rn=>
 (AV.aV (rn.1.getD 0 .u)).bind fun b17=>
 (bif b17 then
 some ((.i .i64 20),rn.2)
 else bI rn.2 (.n h.next) 2 fun kN=>
 (k43 [(.i .i64 kN),(.i .i64 31)] rn.2).bind fun kO=>
 (AV.aV kO.1).bind fun b21=>
 (bif (!b21) then
 some ((.i .i64 21),kO.2)
 else bI kO.2 (.n h.next) 3 fun qo=>
 (k43 [(.i .i64 qo),(.i .i64 7)] kO.2).bind fun tq=>
 (AV.aV tq.1).bind fun b25=>
 (bif (!b25) then
 some ((.i .i64 2),tq.2)
 else some ((.i .i64 0),tq.2))))
 else none
def cD:Sm O:=ez j4
theorem og:aa Tryz.prog 16:=Tryz.call16
theorem IH (k43:Sm O):run (O:=O) Tryz.prog [(43,k43)] Tryz.f16 (.n .z (.n (.n (.n (.g [(5,5,[(15,.one .b)])]) (.n .z (.n .z (.n .z (.n .z (.n .z .z)))))) .z) .z))=ez k43:=by kernel_rfl
theorem kP:ae RO Tryz.prog 16 cD:=bt (IH _) (af GR DI <| aA) Tryz.func16 (by kernel_rfl)
def me (T9:SA × Nat) (rn:List AV × AH O) (Vo:Sm O) (k14:Sm O) (l7:SA × Nat) (k15:Sm O):List AV × AH O → Option ((List AV × AH O) ⊕ ((List AV × AH O) ⊕ (AV × AH O))):=(fun rq=>
 (AV.ag .i64 (rq.1.getD 0 .u)).bind fun jo=>
 (bif (decide (jo<(T9.2:Int))) then
 let Q9:=rq.2.bump 1
 (bif ((decide ((0:Int) ≤ jo)) && (decide (jo<(T9.2:Int)))) then
 (SA.ref T9.1).bind fun MF=>
 bI Q9 MF.1 (MF.2+(jo.toNat*7)) fun lJ=>
 bI Q9 MF.1 ((MF.2+(jo.toNat*7))+1) fun wg=>
 bI Q9 MF.1 (((MF.2+(jo.toNat*7))+1)+1) fun GU=>
 bI Q9 MF.1 ((((MF.2+(jo.toNat*7))+1)+1)+1) fun GV=>
 (Q9.ld MF.1 (((((MF.2+(jo.toNat*7))+1)+1)+1)+1)).bind fun Zn=>
 (AV.aV Zn).bind fun b40=>
 cJ Q9 MF.1 ((((((MF.2+(jo.toNat*7))+1)+1)+1)+1)+1) fun l42=>
 cJ Q9 MF.1 (((((((MF.2+(jo.toNat*7))+1)+1)+1)+1)+1)+1) fun Vp=>
 let h45:=Q9.put rq.2.next (.cells true 50 [(.i .i64 0),(.i .i64 0),(.i .i64 0),(.i .i64 0),(.b false),(.sl .nil 0),(.sl .nil 0)])
 (h45.st (.n rq.2.next) 0 [(.i .i64 lJ),(.i .i64 wg),(.i .i64 GU),(.i .i64 GV),(.b b40),(.sl l42.1 l42.2),(.sl Vp.1 Vp.2)]).bind fun WB=>
 bI WB (.n rn.2.next) 0 fun WC=>
 ((bif ((decide (jo ≥ WC)) == false) then
 bI WB (.n rq.2.next) 0 fun MG=>
 bI WB (.n rq.2.next) 1 fun Zo=>
 bI WB (.n rq.2.next) 2 fun SF=>
 bI WB (.n rq.2.next) 3 fun SG=>
 (WB.ld (.n rq.2.next) 4).bind fun Zp=>
 (AV.aV Zp).bind fun b58=>
 (Vo [(.agg [(.i .i64 MG),(.i .i64 Zo),(.i .i64 SF),(.i .i64 SG),(.b b58)])] WB).bind fun Ra=>
 (AV.ag .i64 Ra.1).bind fun Zq=>
 some ([(.b ((Zq:Int) != 0))],Ra.2)
 else some ([(.b true)],WB)):Option (List AV × AH O)).bind fun yA=>
 (AV.aV (yA.1.getD 0 .u)).bind fun b62=>
 ((bif (b62 == false) then
 cJ yA.2 (.n rq.2.next) 5 fun l64=>
 bI yA.2 (.n rq.2.next) 0 fun Zr=>
 some ([(.b (((l64.2:Int):Int) != Zr))],yA.2)
 else some ([(.b true)],yA.2)):Option (List AV × AH O)).bind fun r67=>
 (AV.aV (r67.1.getD 0 .u)).bind fun b68=>
 ((bif (b68 == false) then
 cJ r67.2 (.n rq.2.next) 6 fun l70=>
 bI r67.2 (.n rq.2.next) 1 fun n72=>
 some ([(.b (((l70.2:Int):Int) != n72))],r67.2)
 else some ([(.b true)],r67.2)):Option (List AV × AH O)).bind fun r73=>
 (AV.aV (r73.1.getD 0 .u)).bind fun b74=>
 (bif b74 then
 ((some ((.b false),r73.2):Option (AV × AH O)).map fun r=>Sum.inr (Sum.inr r))
 else cJ r73.2 (.n rq.2.next) 5 fun l76=>
 (k14 [(.sl l76.1 l76.2),(.i .i64 0),(.i .i64 (l7.2:Int))] r73.2).bind fun r77=>
 (AV.aV r77.1).bind fun b78=>
 ((bif ((!b78) == false) then
 cJ r77.2 (.n rq.2.next) 5 fun l80=>
 (k15 [(.sl l80.1 l80.2),(.p (some ((.n rn.2.next),0)))] r77.2).bind fun r81=>
 (AV.aV r81.1).bind fun b82=>
 some ([(.b (!b82))],r81.2)
 else some ([(.b true)],r77.2)):Option (List AV × AH O)).bind fun r83=>
 (AV.aV (r83.1.getD 0 .u)).bind fun b84=>
 (bif b84 then
 ((some ((.b false),r83.2):Option (AV × AH O)).map fun r=>Sum.inr (Sum.inr r))
 else some (Sum.inl ([(.i .i64 (IntKind.i64.wrap (jo+1)))],r83.2))))
 else none)
 else some (Sum.inr (Sum.inl ([],rq.2)))))
def vf (k14 k15 Vo:Sm O):Sm O:=fun xs h=>
 bif Nat.beq xs.length 1 then
 (AV.asAgg 3 (xs.getD 0 .u)).bind fun c0=>
 kH c0 0 fun l1=>
 kH c0 1 fun l2=>
 kH c0 2 fun l3=>
 let h4:=h.bump 1
 let h5:=h4.put h.next (.cells true 25 [(.sl l1.1 l1.2),(.sl l2.1 l2.2),(.sl l3.1 l3.2)])
 cJ h5 (.n h.next) 0 fun l7=>
 cJ h5 (.n h.next) 1 fun l9=>
 (k14 [(.sl l9.1 l9.2),(.i .i64 1),(.i .i64 (l7.2:Int))] h5).bind fun dw=>
 (AV.aV dw.1).bind fun WA=>
 ((bif ((!WA) == false) then
 cJ dw.2 (.n h.next) 2 fun P7=>
 (k14 [(.sl P7.1 P7.2),(.i .i64 0),(.i .i64 (l7.2:Int))] dw.2).bind fun r14=>
 (AV.aV r14.1).bind fun XM=>
 some ([(.b (!XM))],r14.2)
 else some ([(.b true)],dw.2)):Option (List AV × AH O)).bind fun rn=>
 (AV.aV (rn.1.getD 0 .u)).bind fun b17=>
 (bif b17 then
 some ((.b false),rn.2)
 else let qp:=rn.2.bump 1
 let Oc:=qp.put rn.2.next (.cells true 3 [(.i .i64 0)])
 (Oc.st (.n rn.2.next) 0 [(.i .i64 0)]).bind fun kQ=>
 cJ kQ (.n h.next) 1 fun XN=>
 (k15 [(.sl XN.1 XN.2),(.p (some ((.n rn.2.next),0)))] kQ).bind fun zG=>
 (AV.aV zG.1).bind fun b24=>
 (bif (!b24) then
 some ((.b false),zG.2)
 else cJ zG.2 (.n h.next) 0 fun T9=>
 bK (S:=List AV × AH O) (R:=(AV × AH O)) (aQ (S:=List AV × AH O) (T:=(List AV × AH O) ⊕ (AV × AH O)) (me T9 rn Vo k14 l7 k15) ([(.i .i64 0)],zG.2)) fun r85=>
 some ((.b true),r85.2)))
 else none
def bq:Sm O:=vf mc j5 cD
theorem gL:aa Tryz.prog 5:=Tryz.call5
theorem Ky (k14 k15 Vo:Sm O):run (O:=O) Tryz.prog [(14,k14),(15,k15),(16,Vo)] Tryz.f5 (.n .z (.n .z (.n (.n (.g [(5,5,[(22,.one .b)])]) (.n .z .z)) (.n .z (.n .z (.n (.n .z (.n .z .z)) (.n (.n .z (.n (.lp true 0 [(32,.one (.i .i64))] [] (.n .z (.n .z (.n (.n (.n .z (.n (.n (.g [(3,4,[(45,.one .b)]),(9,8,[(55,.one .b)]),(19,8,[(65,.one .b)])]) (.n .z .z)) (.n (.g [(5,5,[(77,.one .b)])]) (.n .z .z)))) .z) .z)))) .z)) .z)))))))=vf k14 k15 Vo:=by kernel_rfl
theorem eU:ae RO Tryz.prog 5 bq:=bt (Ky _ _ _) (af IF FD <| af GP DH <| af og kP <| aA) Tryz.func5 (by kernel_rfl)
def mh (h:AH O):List AV × AH O → Option ((List AV × AH O) ⊕ (List AV × AH O)):=(fun r3=>
 (AV.ag .i64 (r3.1.getD 0 .u)).bind fun n4=>
 (AV.ag .i64 (r3.1.getD 1 .u)).bind fun n5=>
 let v6:Int:=(if (IntKind.i64.wrap (0 - (Int.tmod n5 10))) > (Int.tmod n5 10) then (IntKind.i64.wrap (0 - (Int.tmod n5 10))) else (Int.tmod n5 10))
 (bif ((decide ((0:Int) ≤ (IntKind.i64.wrap (n4 - 1)))) && (decide ((IntKind.i64.wrap (n4 - 1))<20))) then
 (r3.2.st (.n h.next) (0+((IntKind.i64.wrap (n4 - 1)).toNat*1)) [(.i .u8 (IntKind.u8.wrap (IntKind.i64.wrap (48+v6))))]).bind fun h7=>
 let c8:Bool:=(((IntKind.i64.wrap (Int.tdiv n5 10)):Int) == 0)
 (bif c8 then
 some (Sum.inr ([(.i .i64 (IntKind.i64.wrap (n4 - 1)))],h7))
 else some (Sum.inl ([(.i .i64 (IntKind.i64.wrap (n4 - 1))),(.i .i64 (IntKind.i64.wrap (Int.tdiv n5 10)))],h7)))
 else none))
def vg:Sm O:=fun xs h=>
 bif Nat.beq xs.length 1 then
 kG xs 0 fun n0=>
 let h1:=h.bump 1
 let h2:=h1.put h.next (.cells true 139 [(.i .u8 0),(.i .u8 0),(.i .u8 0),(.i .u8 0),(.i .u8 0),(.i .u8 0),(.i .u8 0),(.i .u8 0),(.i .u8 0),(.i .u8 0),(.i .u8 0),(.i .u8 0),(.i .u8 0),(.i .u8 0),(.i .u8 0),(.i .u8 0),(.i .u8 0),(.i .u8 0),(.i .u8 0),(.i .u8 0)])
 (aQ (S:=List AV × AH O) (T:=List AV × AH O) (mh h) ([(.i .i64 20),(.i .i64 n0)],h2)).bind fun r9=>
 (AV.ag .i64 (r9.1.getD 0 .u)).bind fun cQ=>
 (bif (decide (n0<0)) then
 (bif ((((decide ((0:Int) ≤ cQ)) && (decide (cQ<20))) && true) && true) then
 (r9.2.bC (.ar (.n h.next) (0+(cQ.toNat*1)) 1) (20 - cQ.toNat) 1).bind fun WD=>
 (dO WD).bind fun s12=>
 (bif (Nat.ble (([45]:List UInt8).length+s12.length) 9223372036854775807) then
 some ((.s (([45]:List UInt8)++s12)),r9.2)
 else none)
 else none)
 else (bif ((((decide ((0:Int) ≤ cQ)) && (decide (cQ<20))) && true) && true) then
 (r9.2.bC (.ar (.n h.next) (0+(cQ.toNat*1)) 1) (20 - cQ.toNat) 1).bind fun c13=>
 (dO c13).bind fun s14=>
 some ((.s s14),r9.2)
 else none))
 else none
def lr:Sm O:=vg
theorem zH:aa Tryz.prog 45:=Tryz.call45
theorem Kz:run (O:=O) Tryz.prog [] Tryz.f45 (.n .z (.n .z (.n .z (.n (.n .z (.n (.lp false 0 [(4,.one (.i .i64)),(5,.one (.i .i64))] [(4,.one (.i .i64))] (.n (.n (.n .z (.n .z (.n .z (.n .z .z)))) .z) .z)) .z)) (.n (.n .z (.n .z .z)) .z)))))=vg:=by kernel_rfl
theorem tV:ae RO Tryz.prog 45 lr:=bt Kz (aA) Tryz.func45 (by kernel_rfl)
def vh (n0:Int) (h:AH O):List AV × AH O → Option ((List AV × AH O) ⊕ (List AV × AH O)):=(fun r3=>
 (AV.ag .i64 (r3.1.getD 0 .u)).bind fun n4=>
 (bif (decide (n4<16)) then
 let v5:Int:=(IntKind.i64.wrap (60 - (IntKind.i64.wrap (4*n4))))
 (bif (decide (v5<0)) then
 none
 else let v6:Int:=(bE .and .u64 (Int.fdiv n0 (2 ^ min v5.toNat 64)) 15)
 (bif (decide ((0:Int) ≤ v6)) then
 (([48,49,50,51,52,53,54,55,56,57,97,98,99,100,101,102]:List UInt8)[v6.toNat]?).bind fun y7=>
 (bif ((decide ((0:Int) ≤ n4)) && (decide (n4<16))) then
 (r3.2.st (.n h.next) (0+(n4.toNat*1)) [(.i .u8 (y7.toNat:Int))]).bind fun h8=>
 some (Sum.inl ([(.i .i64 (IntKind.i64.wrap (n4+1)))],h8))
 else none)
 else none))
 else some (Sum.inr ([],r3.2))))
def yB:Sm O:=fun xs h=>
 bif Nat.beq xs.length 1 then
 Vk xs 0 fun n0=>
 let h1:=h.bump 1
 let h2:=h1.put h.next (.cells true 140 [(.i .u8 0),(.i .u8 0),(.i .u8 0),(.i .u8 0),(.i .u8 0),(.i .u8 0),(.i .u8 0),(.i .u8 0),(.i .u8 0),(.i .u8 0),(.i .u8 0),(.i .u8 0),(.i .u8 0),(.i .u8 0),(.i .u8 0),(.i .u8 0)])
 (aQ (S:=List AV × AH O) (T:=List AV × AH O) (vh n0 h) ([(.i .i64 0)],h2)).bind fun r9=>
 (r9.2.bC (.ar (.n h.next) 0 1) (16 - 0) 1).bind fun Gl=>
 (dO Gl).bind fun s11=>
 some ((.s s11),r9.2)
 else none
def oh:Sm O:=yB
theorem MH:aa Tryz.prog 46:=Tryz.call46
theorem MI:run (O:=O) Tryz.prog [] Tryz.f46 (.n .z (.n .z (.n (.n .z (.n (.lp false 0 [(5,.one (.i .i64))] [] (.n .z (.n .z (.n (.n .z .z) .z)))) .z)) .z)))=yB:=by kernel_rfl
theorem II:ae RO Tryz.prog 46 oh:=bt MI (aA) Tryz.func46 (by kernel_rfl)
def oF (l47:SA × Nat) (k46:Sm O):List AV × AH O → Option ((List AV × AH O) ⊕ (List AV × AH O)):=(fun Vq=>
 (AV.aG (Vq.1.getD 0 .u)).bind fun l49=>
 (AV.ag .i64 (Vq.1.getD 1 .u)).bind fun MG=>
 (bif (decide (MG<(l47.2:Int))) then
 (bif ((decide ((0:Int) ≤ MG)) && (decide (MG<(l47.2:Int)))) then
 (SA.ref l47.1).bind fun q51=>
 ldU Vq.2 q51.1 (q51.2+(MG.toNat*1)) fun T'=>
 let h54:=Vq.2.bump 2
 (k46 [(.i .u64 T')] h54).bind fun r55=>
 (AV.dV r55.1).bind fun s56=>
 let Rb:=r55.2.put Vq.2.next (.cells true 9 [(.s s56)])
 (Rb.bC (.loc (.n Vq.2.next) 0 1) 1 1).bind fun alY=>
 (bif (Nat.ble ((l49.2+1)*17) 35184372088832) then
 (Rb.bP (Vq.2.next+1) 9 1 l49.1 l49.2 1 alY).bind fun Ra=>
 (AV.aG Ra.1).bind fun l60=>
 some (Sum.inl ([(.sl l60.1 l60.2),(.i .i64 (IntKind.i64.wrap (MG+1)))],Ra.2))
 else none)
 else none)
 else some (Sum.inr ([(.sl l49.1 l49.2)],Vq.2))))
def oG (l25:SA × Nat) (WE:Sm O):List AV × AH O → Option ((List AV × AH O) ⊕ (List AV × AH O)):=(fun Ll=>
 (AV.aG (Ll.1.getD 0 .u)).bind fun l27=>
 (AV.ag .i64 (Ll.1.getD 1 .u)).bind fun jo=>
 (bif (decide (jo<(l25.2:Int))) then
 (bif ((decide ((0:Int) ≤ jo)) && (decide (jo<(l25.2:Int)))) then
 (SA.ref l25.1).bind fun q29=>
 bI Ll.2 q29.1 (q29.2+(jo.toNat*1)) fun SH=>
 let h32:=Ll.2.bump 2
 (WE [(.i .i64 SH)] h32).bind fun Br=>
 (AV.dV Br.1).bind fun s34=>
 let wO:=Br.2.put Ll.2.next (.cells true 9 [(.s s34)])
 (wO.bC (.loc (.n Ll.2.next) 0 1) 1 1).bind fun al0=>
 (bif (Nat.ble ((l27.2+1)*17) 35184372088832) then
 (wO.bP (Ll.2.next+1) 9 1 l27.1 l27.2 1 al0).bind fun r37=>
 (AV.aG r37.1).bind fun l38=>
 some (Sum.inl ([(.sl l38.1 l38.2),(.i .i64 (IntKind.i64.wrap (jo+1)))],r37.2))
 else none)
 else none)
 else some (Sum.inr ([(.sl l27.1 l27.2)],Ll.2))))
def yC (WE k46 k47:Sm O):Sm O:=fun xs h=>
 bif Nat.beq xs.length 1 then
 (AV.asAgg 7 (xs.getD 0 .u)).bind fun c0=>
 kG c0 0 fun n1=>
 kG c0 1 fun n2=>
 kG c0 2 fun n3=>
 kG c0 3 fun n4=>
 (AV.aV (c0.getD 4 .u)).bind fun b5=>
 kH c0 5 fun l6=>
 kH c0 6 fun l7=>
 let h8:=h.bump 1
 let h9:=h8.put h.next (.cells true 50 [(.i .i64 n1),(.i .i64 n2),(.i .i64 n3),(.i .i64 n4),(.b b5),(.sl l6.1 l6.2),(.sl l7.1 l7.2)])
 (h9.ld (.n h.next) 4).bind fun wP=>
 (AV.aV wP).bind fun WA=>
 ((bif WA then
 some ([(.s ([108,97,114,103,101]:List UInt8))],h9)
 else some ([(.s ([115,109,97,108,108]:List UInt8))],h9)):Option (List AV × AH O)).bind fun fa=>
 (AV.dV (fa.1.getD 0 .u)).bind fun s13=>
 let tu:=fa.2.bump 1
 bI tu (.n h.next) 2 fun jN=>
 bI tu (.n h.next) 3 fun jX=>
 (WE [(.i .i64 jN)] tu).bind fun r19=>
 (AV.dV r19.1).bind fun s20=>
 (bc (r19.2.ld (.n h.next) 3) (some (.i .i64 jX))).bind fun _=>
 (WE [(.i .i64 jX)] r19.2).bind fun Bt=>
 (AV.dV Bt.1).bind fun s22=>
 let tW:=Bt.2.put fa.2.next (.cells true 9 [(.s ([110,111,100,101]:List UInt8)),(.s s13),(.s s20),(.s s22)])
 cJ tW (.n h.next) 5 fun l25=>
 (aQ (S:=List AV × AH O) (T:=List AV × AH O) (oG l25 WE) ([(.sl (.loc (.n fa.2.next) 0 1) 4),(.i .i64 0)],tW)).bind fun WG=>
 (AV.aG (WG.1.getD 0 .u)).bind fun P8=>
 let h41:=WG.2.bump 2
 let GW:=h41.put WG.2.next (.cells true 9 [(.s ([58]:List UInt8))])
 (GW.bC (.loc (.n WG.2.next) 0 1) 1 1).bind fun al1=>
 (bif (Nat.ble ((P8.2+1)*17) 35184372088832) then
 (GW.bP (WG.2.next+1) 9 1 P8.1 P8.2 1 al1).bind fun Ua=>
 (AV.aG Ua.1).bind fun l45=>
 cJ Ua.2 (.n h.next) 6 fun l47=>
 (aQ (S:=List AV × AH O) (T:=List AV × AH O) (oF l47 k46) ([(.sl l45.1 l45.2),(.i .i64 0)],Ua.2)).bind fun yA=>
 (AV.aG (yA.1.getD 0 .u)).bind fun l62=>
 (k47 [(.sl l62.1 l62.2),(.s ([32]:List UInt8))] yA.2).bind fun XO=>
 (AV.dV XO.1).bind fun s64=>
 some ((.s s64),XO.2)
 else none)
 else none
def rX:Sm O:=yC lr oh strings_Join
theorem MJ:aa Tryz.prog 18:=Tryz.call18
theorem MK (WE k46 k47:Sm O):run (O:=O) Tryz.prog [(45,WE),(46,k46),(47,k47)] Tryz.f18 (.n .z (.n .z (.n (.n .z (.j false [(3,.one .s)] .z .z)) (.n (.d [] [0,1,2,3,5,6,7,4,8,9,10] [0,0,2,6,14,0,32,96,254,511,1023]) (.n (.n .z (.n (.lp false 0 [(4,.one .sl),(25,.one (.i .i64))] [(4,.one .sl)] (.n .z (.n .z (.n (.n .z .z) .z)))) .z)) (.n .z (.n (.n .z (.n (.lp false 2 [(4,.one .sl),(41,.one (.i .i64))] [(4,.one .sl)] (.n .z (.n .z (.n (.n .z .z) .z)))) .z)) .z)))))))=yC WE k46 k47:=by kernel_rfl
theorem IJ:ae RO Tryz.prog 18 rX:=bt (MK _ _ _) (af zH tV <| af MH II <| af IE Fz <| aA) Tryz.func18 (by kernel_rfl)
def __strings_Builder__WriteString_c (k44:Sm O):Sm O:=fun xs h=>
 bif Nat.beq xs.length 2 then
 (AV.aT (xs.getD 0 .u)).bind fun p0=>
 (AV.dV (xs.getD 1 .u)).bind fun s1=>
 (k44 [(.p p0)] h).bind fun r2=>
 (AV.aE 0 r2.1).bind fun c3=>
 let h4:=r2.2.bump 1
 Option.bind p0 fun q5=>
 cJ h4 q5.1 (q5.2+1) fun l7=>
 (bif (Nat.ble ((l7.2+s1.length)*2) 35184372088832) then
 (h4.bP r2.2.next 5 1 l7.1 l7.2 s1.length (s1.map fun c=>(.i .u8 c.toNat:AV))).bind fun r8=>
 (AV.aG r8.1).bind fun l9=>
 Option.bind p0 fun nZ=>
 (r8.2.st nZ.1 (nZ.2+1) [(.sl l9.1 l9.2)]).bind fun iM=>
 some ((.aS [(.i .i64 (s1.length:Int)),.DC]),iM)
 else none)
 else none
def __strings_Builder__WriteString:Sm O:=__strings_Builder__WriteString_c __strings_Builder__copyCheck
theorem __strings_Builder__WriteString_ent:aa Tryz.prog 17:=Tryz.call17
theorem __strings_Builder__WriteString_run (k44:Sm O):run (O:=O) Tryz.prog [(44,k44)] Tryz.f17 (.n .z (.n .z (.n .z .z)))=__strings_Builder__WriteString_c k44:=by kernel_rfl
theorem __strings_Builder__WriteString_sound:ae RO Tryz.prog 17 __strings_Builder__WriteString:=bt (__strings_Builder__WriteString_run _) (af __strings_Builder__copyCheck_ent __strings_Builder__copyCheck_sound <| aA) Tryz.func17 (by kernel_rfl)
def __strings_Builder__WriteByte_c (k44:Sm O):Sm O:=fun xs h=>
 bif Nat.beq xs.length 2 then
 (AV.aT (xs.getD 0 .u)).bind fun p0=>
 (AV.ag .u8 (xs.getD 1 .u)).bind fun n1=>
 (k44 [(.p p0)] h).bind fun r2=>
 (AV.aE 0 r2.1).bind fun c3=>
 let h4:=r2.2.bump 2
 Option.bind p0 fun q5=>
 cJ h4 q5.1 (q5.2+1) fun l7=>
 let h8:=h4.put r2.2.next (.cells true 5 [(.i .u8 n1)])
 (h8.bC (.loc (.n r2.2.next) 0 1) 1 1).bind fun aqC=>
 (bif (Nat.ble ((l7.2+1)*2) 35184372088832) then
 (h8.bP (r2.2.next+1) 5 1 l7.1 l7.2 1 aqC).bind fun dw=>
 (AV.aG dw.1).bind fun Ub=>
 Option.bind p0 fun Kx=>
 (dw.2.st Kx.1 (Kx.2+1) [(.sl Ub.1 Ub.2)]).bind fun nk=>
 some (.DC,nk)
 else none)
 else none
def __strings_Builder__WriteByte:Sm O:=__strings_Builder__WriteByte_c __strings_Builder__copyCheck
theorem __strings_Builder__WriteByte_ent:aa Tryz.prog 19:=Tryz.call19
theorem __strings_Builder__WriteByte_run (k44:Sm O):run (O:=O) Tryz.prog [(44,k44)] Tryz.f19 (.n .z (.n .z (.n .z .z)))=__strings_Builder__WriteByte_c k44:=by kernel_rfl
theorem __strings_Builder__WriteByte_sound:ae RO Tryz.prog 19 __strings_Builder__WriteByte:=bt (__strings_Builder__WriteByte_run _) (af __strings_Builder__copyCheck_ent __strings_Builder__copyCheck_sound <| aA) Tryz.func19 (by kernel_rfl)
def ML (l0:SA × Nat) (WH:Sm O) (h:AH O) (WE:Sm O) (WI:Sm O):List AV × AH O → Option ((List AV × AH O) ⊕ (List AV × AH O)):=(fun r3=>
 (AV.ag .i64 (r3.1.getD 0 .u)).bind fun n4=>
 (bif (decide (n4<(l0.2:Int))) then
 (bif ((decide ((0:Int) ≤ n4)) && (decide (n4<(l0.2:Int)))) then
 (SA.ref l0.1).bind fun q5=>
 bI r3.2 q5.1 (q5.2+(n4.toNat*1)) fun n7=>
 ((bif (decide (n4 > 0)) then
 (WH [(.p (some ((.n h.next),0))),(.i .u8 32)] r3.2).bind fun r8=>
 some ([],r8.2)
 else some ([],r3.2)):Option (List AV × AH O)).bind fun r9=>
 (WE [(.i .i64 n7)] r9.2).bind fun dw=>
 (AV.dV dw.1).bind fun s11=>
 (WI [(.p (some ((.n h.next),0))),(.s s11)] dw.2).bind fun fa=>
 (AV.aE 2 fa.1).bind fun c13=>
 kG c13 0 fun fW=>
 some (Sum.inl ([(.i .i64 (IntKind.i64.wrap (n4+1)))],fa.2))
 else none)
 else some (Sum.inr ([],r3.2))))
def vi (WH WE WI k21:Sm O):Sm O:=fun xs h=>
 bif Nat.beq xs.length 1 then
 kH xs 0 fun l0=>
 let h1:=h.bump 1
 let h2:=h1.put h.next (.cells true 54 [(.p none),(.sl .nil 0)])
 (aQ (S:=List AV × AH O) (T:=List AV × AH O) (ML l0 WH h WE WI) ([(.i .i64 0)],h2)).bind fun ij=>
 (k21 [(.p (some ((.n h.next),0)))] ij.2).bind fun rn=>
 (AV.dV rn.1).bind fun s17=>
 some ((.s s17),rn.2)
 else none
def tX:Sm O:=vi __strings_Builder__WriteByte lr __strings_Builder__WriteString __strings_Builder__String
theorem KA:aa Tryz.prog 48:=Tryz.call48
theorem KB (WH WE WI k21:Sm O):run (O:=O) Tryz.prog [(19,WH),(45,WE),(17,WI),(21,k21)] Tryz.f48 (.n .z (.n .z (.n (.n .z (.n (.lp false 0 [(8,.one (.i .i64))] [] (.n .z (.n .z (.n (.n (.n .z (.n (.n .z (.j false [] .z .z)) .z)) .z) .z)))) .z)) .z)))=vi WH WE WI k21:=by kernel_rfl
theorem GX:ae RO Tryz.prog 48 tX:=bt (KB _ _ _ _) (af __strings_Builder__WriteByte_ent __strings_Builder__WriteByte_sound <| af zH tV <| af __strings_Builder__WriteString_ent __strings_Builder__WriteString_sound <| af __strings_Builder__String_ent __strings_Builder__String_sound <| aA) Tryz.func48 (by kernel_rfl)
def pX (k48:Sm O):Sm O:=fun xs h=>
 bif Nat.beq xs.length 2 then
 (AV.dV (xs.getD 0 .u)).bind fun s0=>
 kH xs 1 fun l1=>
 (bif (((l1.2:Int):Int) == 0) then
 some ((.s s0),h)
 else (bif (Nat.ble (s0.length+([32]:List UInt8).length) 9223372036854775807) then
 (k48 [(.sl l1.1 l1.2)] h).bind fun r2=>
 (AV.dV r2.1).bind fun s3=>
 (bif (Nat.ble ((s0++([32]:List UInt8)).length+s3.length) 9223372036854775807) then
 some ((.s ((s0++([32]:List UInt8))++s3)),r2.2)
 else none)
 else none))
 else none
def oH:Sm O:=pX tX
theorem GY:aa Tryz.prog 20:=Tryz.call20
theorem GZ (k48:Sm O):run (O:=O) Tryz.prog [(48,k48)] Tryz.f20 (.n .z (.n (.n .z (.n .z .z)) .z))=pX k48:=by kernel_rfl
theorem DJ:ae RO Tryz.prog 20 oH:=bt (GZ _) (af KA GX <| aA) Tryz.func20 (by kernel_rfl)
def Ey (P9:SA × Nat) (k18:Sm O) (WI:Sm O) (fa:AV × AH O) (WH:Sm O):List AV × AH O → Option ((List AV × AH O) ⊕ (List AV × AH O)):=(fun gb=>
 (AV.ag .i64 (gb.1.getD 0 .u)).bind fun kN=>
 (bif (decide (kN<(P9.2:Int))) then
 let kQ:=gb.2.bump 1
 (bif ((decide ((0:Int) ≤ kN)) && (decide (kN<(P9.2:Int)))) then
 (SA.ref P9.1).bind fun MM=>
 bI kQ MM.1 (MM.2+(kN.toNat*7)) fun qo=>
 bI kQ MM.1 ((MM.2+(kN.toNat*7))+1) fun wj=>
 bI kQ MM.1 (((MM.2+(kN.toNat*7))+1)+1) fun Ai=>
 bI kQ MM.1 ((((MM.2+(kN.toNat*7))+1)+1)+1) fun Lm=>
 (kQ.ld MM.1 (((((MM.2+(kN.toNat*7))+1)+1)+1)+1)).bind fun w30=>
 (AV.aV w30).bind fun b31=>
 cJ kQ MM.1 ((((((MM.2+(kN.toNat*7))+1)+1)+1)+1)+1) fun l33=>
 cJ kQ MM.1 (((((((MM.2+(kN.toNat*7))+1)+1)+1)+1)+1)+1) fun l35=>
 let h36:=kQ.put gb.2.next (.cells true 50 [(.i .i64 0),(.i .i64 0),(.i .i64 0),(.i .i64 0),(.b false),(.sl .nil 0),(.sl .nil 0)])
 (h36.st (.n gb.2.next) 0 [(.i .i64 qo),(.i .i64 wj),(.i .i64 Ai),(.i .i64 Lm),(.b b31),(.sl l33.1 l33.2),(.sl l35.1 l35.2)]).bind fun Vr=>
 bI Vr (.n gb.2.next) 0 fun Ot=>
 bI Vr (.n gb.2.next) 1 fun Ou=>
 bI Vr (.n gb.2.next) 2 fun KC=>
 bI Vr (.n gb.2.next) 3 fun Ov=>
 (Vr.ld (.n gb.2.next) 4).bind fun WJ=>
 (AV.aV WJ).bind fun b47=>
 cJ Vr (.n gb.2.next) 5 fun l49=>
 cJ Vr (.n gb.2.next) 6 fun l51=>
 (k18 [(.agg [(.i .i64 Ot),(.i .i64 Ou),(.i .i64 KC),(.i .i64 Ov),(.b b47),(.sl l49.1 l49.2),(.sl l51.1 l51.2)])] Vr).bind fun r52=>
 (AV.dV r52.1).bind fun s53=>
 (WI [(.p (some ((.n fa.2.next),0))),(.s s53)] r52.2).bind fun r54=>
 (AV.aE 2 r54.1).bind fun c55=>
 kG c55 0 fun SG=>
 (WH [(.p (some ((.n fa.2.next),0))),(.i .u8 10)] r54.2).bind fun r57=>
 some (Sum.inl ([(.i .i64 (IntKind.i64.wrap (kN+1)))],r57.2))
 else none)
 else some (Sum.inr ([],gb.2))))
def yD (k5 k18 WI WH k20 k21:Sm O):Sm O:=fun xs h=>
 bif Nat.beq xs.length 1 then
 (AV.asAgg 3 (xs.getD 0 .u)).bind fun c0=>
 kH c0 0 fun l1=>
 kH c0 1 fun l2=>
 kH c0 2 fun l3=>
 let h4:=h.bump 1
 let h5:=h4.put h.next (.cells true 25 [(.sl l1.1 l1.2),(.sl l2.1 l2.2),(.sl l3.1 l3.2)])
 cJ h5 (.n h.next) 0 fun l7=>
 cJ h5 (.n h.next) 1 fun l9=>
 cJ h5 (.n h.next) 2 fun Ub=>
 (k5 [(.agg [(.sl l7.1 l7.2),(.sl l9.1 l9.2),(.sl Ub.1 Ub.2)])] h5).bind fun fa=>
 (AV.aV fa.1).bind fun Zs=>
 (bif (!Zs) then
 some ((.s ([]:List UInt8)),fa.2)
 else let tu:=fa.2.bump 1
 let oY:=tu.put fa.2.next (.cells true 54 [(.p none),(.sl .nil 0)])
 cJ oY (.n h.next) 0 fun P9=>
 (aQ (S:=List AV × AH O) (T:=List AV × AH O) (Ey P9 k18 WI fa WH) ([(.i .i64 0)],oY)).bind fun r58=>
 cJ r58.2 (.n h.next) 1 fun l60=>
 (k20 [(.s ([114,111,111,116,115]:List UInt8)),(.sl l60.1 l60.2)] r58.2).bind fun yA=>
 (AV.dV yA.1).bind fun s62=>
 (WI [(.p (some ((.n fa.2.next),0))),(.s s62)] yA.2).bind fun XO=>
 (AV.aE 2 XO.1).bind fun c64=>
 kG c64 0 fun Vs=>
 (WH [(.p (some ((.n fa.2.next),0))),(.i .u8 10)] XO.2).bind fun r66=>
 cJ r66.2 (.n h.next) 2 fun l68=>
 (k20 [(.s ([119,101,97,107]:List UInt8)),(.sl l68.1 l68.2)] r66.2).bind fun r69=>
 (AV.dV r69.1).bind fun s70=>
 (WI [(.p (some ((.n fa.2.next),0))),(.s s70)] r69.2).bind fun r71=>
 (AV.aE 2 r71.1).bind fun c72=>
 kG c72 0 fun n73=>
 (WH [(.p (some ((.n fa.2.next),0))),(.i .u8 10)] r71.2).bind fun r74=>
 (k21 [(.p (some ((.n fa.2.next),0)))] r74.2).bind fun r75=>
 (AV.dV r75.1).bind fun s76=>
 some ((.s s76),r75.2))
 else none
def oi:Sm O:=yD bq rX __strings_Builder__WriteString __strings_Builder__WriteByte oH __strings_Builder__String
theorem MN:aa Tryz.prog 6:=Tryz.call6
theorem MO (k5 k18 WI WH k20 k21:Sm O):run (O:=O) Tryz.prog [(5,k5),(18,k18),(17,WI),(19,WH),(20,k20),(21,k21)] Tryz.f6 (.n .z (.n (.n .z (.n .z .z)) (.n .z (.n (.n .z (.n (.lp false 0 [(12,.one (.i .i64))] [] (.n .z (.n .z (.n (.n (.n .z .z) .z) .z)))) .z)) (.n .z (.n .z (.n .z (.n .z .z))))))))=yD k5 k18 WI WH k20 k21:=by kernel_rfl
theorem IK:ae RO Tryz.prog 6 oi:=bt (MO _ _ _ _ _ _) (af gL eU <| af MJ IJ <| af __strings_Builder__WriteString_ent __strings_Builder__WriteString_sound <| af __strings_Builder__WriteByte_ent __strings_Builder__WriteByte_sound <| af GY DJ <| af __strings_Builder__String_ent __strings_Builder__String_sound <| aA) Tryz.func6 (by kernel_rfl)
def IL (h:AH O):List AV × AH O → Option ((List AV × AH O) ⊕ ((List AV × AH O) ⊕ (AV × AH O))):=(fun r6=>
 (AV.ag .i64 (r6.1.getD 0 .u)).bind fun n7=>
 cJ r6.2 (.n h.next) 0 fun l9=>
 ((bif ((decide (n7<(l9.2:Int))) == true) then
 some ([(.b (decide (n7<20)))],r6.2)
 else some ([(.b false)],r6.2)):Option (List AV × AH O)).bind fun dw=>
 (AV.aV (dw.1.getD 0 .u)).bind fun WA=>
 (bif WA then
 cJ dw.2 (.n h.next) 0 fun P7=>
 (bif ((decide ((0:Int) ≤ n7)) && (decide (n7<(P7.2:Int)))) then
 (SA.ref P7.1).bind fun vj=>
 cJ dw.2 vj.1 ((vj.2+(n7.toNat*7))+5) fun l16=>
 ((bif ((decide ((l16.2:Int) > 20)) == false) then
 cJ dw.2 (.n h.next) 0 fun l18=>
 (bif ((decide ((0:Int) ≤ n7)) && (decide (n7<(l18.2:Int)))) then
 (SA.ref l18.1).bind fun Rc=>
 cJ dw.2 Rc.1 ((Rc.2+(n7.toNat*7))+6) fun Vt=>
 some ([(.b (decide ((Vt.2:Int) > 20)))],dw.2)
 else none)
 else some ([(.b true)],dw.2)):Option (List AV × AH O)).bind fun tY=>
 (AV.aV (tY.1.getD 0 .u)).bind fun b23=>
 (bif b23 then
 ((some ((.b false),tY.2):Option (AV × AH O)).map fun r=>Sum.inr (Sum.inr r))
 else some (Sum.inl ([(.i .i64 (IntKind.i64.wrap (n7+1)))],tY.2)))
 else none)
 else some (Sum.inr (Sum.inl ([],dw.2)))))
def pY:Sm O:=fun xs h=>
 bif Nat.beq xs.length 1 then
 (AV.asAgg 3 (xs.getD 0 .u)).bind fun c0=>
 kH c0 0 fun l1=>
 kH c0 1 fun l2=>
 kH c0 2 fun l3=>
 let h4:=h.bump 1
 let h5:=h4.put h.next (.cells true 25 [(.sl l1.1 l1.2),(.sl l2.1 l2.2),(.sl l3.1 l3.2)])
 bK (S:=List AV × AH O) (R:=(AV × AH O)) (aQ (S:=List AV × AH O) (T:=(List AV × AH O) ⊕ (AV × AH O)) (IL h) ([(.i .i64 0)],h5)) fun tq=>
 cJ tq.2 (.n h.next) 0 fun T9=>
 ((bif ((decide ((T9.2:Int) ≤ 20)) == true) then
 cJ tq.2 (.n h.next) 1 fun Re=>
 some ([(.b (decide ((Re.2:Int) ≤ 20)))],tq.2)
 else some ([(.b false)],tq.2)):Option (List AV × AH O)).bind fun JT=>
 (AV.aV (JT.1.getD 0 .u)).bind fun b30=>
 ((bif (b30 == true) then
 cJ JT.2 (.n h.next) 2 fun l32=>
 some ([(.b (decide ((l32.2:Int) ≤ 20)))],JT.2)
 else some ([(.b false)],JT.2)):Option (List AV × AH O)).bind fun Br=>
 (AV.aV (Br.1.getD 0 .u)).bind fun b34=>
 some ((.b b34),Br.2)
 else none
def gT:Sm O:=pY
theorem G0:aa Tryz.prog 7:=Tryz.call7
theorem G1:run (O:=O) Tryz.prog [] Tryz.f7 (.n .z (.n (.n .z (.n (.lp true 0 [(3,.one (.i .i64))] [] (.n (.n (.g [(5,2,[(12,.one .b)])]) .z) (.n (.n (.n (.g [(8,8,[(32,.one .b)])]) (.n .z .z)) .z) .z))) .z)) (.n (.g [(4,4,[(42,.one .b)]),(10,4,[(48,.one .b)])]) .z)))=pY:=by kernel_rfl
theorem DK:ae RO Tryz.prog 7 gT:=bt G1 (aA) Tryz.func7 (by kernel_rfl)
def jl (n4:Int) (n6:Int) (n8:Int) (cQ:Int) (dy:Int):List AV × AH O → Option ((List AV × AH O) ⊕ (List AV × AH O)):=(fun pZ=>
 (AV.aG (pZ.1.getD 0 .u)).bind fun H3=>
 (AV.ag .i64 (pZ.1.getD 1 .u)).bind fun gd=>
 (AV.ag .i64 (pZ.1.getD 2 .u)).bind fun jN=>
 (bif (decide (jN<5)) then
 (bif ((decide ((0:Int) ≤ jN)) && (decide (jN<5))) then
 (([(.i .i64 n4),(.i .i64 n6),(.i .i64 n8),(.i .i64 cQ),(.i .i64 dy)]:List AV)[(jN.toNat*1)]?).bind fun vk=>
 (AV.ag .i64 vk).bind fun jX=>
 let Oc:=pZ.2.bump 2
 let kQ:=Oc.put pZ.2.next (.cells true 144 [(.i .i64 gd),(.i .i64 jX)])
 (kQ.bC (.loc (.n pZ.2.next) 0 2) 1 2).bind fun al6=>
 (bif (Nat.ble ((H3.2+1)*17) 35184372088832) then
 (kQ.bP (pZ.2.next+1) 144 2 H3.1 H3.2 1 al6).bind fun tY=>
 (AV.aG tY.1).bind fun l23=>
 some (Sum.inl ([(.sl l23.1 l23.2),(.i .i64 (IntKind.i64.wrap (gd+jX))),(.i .i64 (IntKind.i64.wrap (jN+1)))],tY.2))
 else none)
 else none)
 else some (Sum.inr ([(.sl H3.1 H3.2)],pZ.2))))
def pU:Sm O:=fun xs h=>
 bif Nat.beq xs.length 0 then
 let h0:=h.bump 1
 let h1:=h0.put h.next (.cells true 146 [(.i .i64 0),(.i .i64 0),(.i .i64 0),(.i .i64 0),(.i .i64 0)])
 (h1.st (.n h.next) 0 [(.i .i64 12),(.i .i64 12),(.i .i64 5),(.i .i64 3),(.i .i64 1)]).bind fun h2=>
 bI h2 (.n h.next) 0 fun n4=>
 bI h2 (.n h.next) 1 fun n6=>
 bI h2 (.n h.next) 2 fun n8=>
 bI h2 (.n h.next) 3 fun cQ=>
 bI h2 (.n h.next) 4 fun dy=>
 (aQ (S:=List AV × AH O) (T:=List AV × AH O) (jl n4 n6 n8 cQ dy) ([(.sl .nil 0),(.i .i64 0),(.i .i64 0)],h2)).bind fun tq=>
 (AV.aG (tq.1.getD 0 .u)).bind fun l25=>
 let h26:=tq.2.bump 2
 let Rf:=h26.put tq.2.next (.cells true 144 [(.i .i64 62),(.i .i64 1)])
 (Rf.bC (.loc (.n tq.2.next) 0 2) 1 2).bind fun al7=>
 (bif (Nat.ble ((l25.2+1)*17) 35184372088832) then
 (Rf.bP (tq.2.next+1) 144 2 l25.1 l25.2 1 al7).bind fun JT=>
 (AV.aG JT.1).bind fun l30=>
 some ((.sl l30.1 l30.2),JT.2)
 else none)
 else none
def j0:Sm O:=pU
theorem tZ:aa Tryz.prog 50:=Tryz.call50
theorem G2:run (O:=O) Tryz.prog [] Tryz.f50 (.n .z (.n .z (.n .z (.n .z (.n (.n .z (.n (.lp false 0 [(2,.one .sl),(3,.one (.i .i64)),(8,.one (.i .i64))] [(2,.one .sl)] (.n .z (.n .z (.n (.n (.n .z .z) .z) .z)))) .z)) .z)))))=pU:=by kernel_rfl
theorem qs:ae RO Tryz.prog 50 j0:=bt G2 (aA) Tryz.func50 (by kernel_rfl)
def vc:Sm O:=fun xs h=>
 bif Nat.beq xs.length 1 then
 (AV.asAgg 2 (xs.getD 0 .u)).bind fun c0=>
 kG c0 0 fun n1=>
 kG c0 1 fun n2=>
 let h3:=h.bump 1
 let h4:=h3.put h.next (.cells true 144 [(.i .i64 n1),(.i .i64 n2)])
 bI h4 (.n h.next) 1 fun n6=>
 ((bif ((decide (n6 ≥ 1)) == true) then
 bI h4 (.n h.next) 1 fun n8=>
 some ([(.b (decide (n8 ≤ 64)))],h4)
 else some ([(.b false)],h4)):Option (List AV × AH O)).bind fun r9=>
 (AV.aV (r9.1.getD 0 .u)).bind fun b10=>
 ((bif (b10 == true) then
 bI r9.2 (.n h.next) 0 fun dy=>
 some ([(.b (decide (dy ≥ 0)))],r9.2)
 else some ([(.b false)],r9.2)):Option (List AV × AH O)).bind fun pZ=>
 (AV.aV (pZ.1.getD 0 .u)).bind fun b14=>
 ((bif (b14 == true) then
 bI pZ.2 (.n h.next) 0 fun jN=>
 bI pZ.2 (.n h.next) 1 fun jX=>
 some ([(.b (decide (jN ≤ (IntKind.i64.wrap (64 - jX)))))],pZ.2)
 else some ([(.b false)],pZ.2)):Option (List AV × AH O)).bind fun r19=>
 (AV.aV (r19.1.getD 0 .u)).bind fun b20=>
 some ((.b b20),r19.2)
 else none
def lq:Sm O:=vc
theorem qa:aa Tryz.prog 99:=Tryz.call99
theorem KD:run (O:=O) Tryz.prog [] Tryz.f99 (.n .z (.n (.g [(3,3,[(10,.one .b)]),(8,3,[(15,.one .b)]),(13,6,[(23,.one .b)])]) .z))=vc:=by kernel_rfl
theorem mi:ae RO Tryz.prog 99 lq:=bt KD (aA) Tryz.func99 (by kernel_rfl)
def yw (XP:Sm O):Sm O:=fun xs h=>
 bif Nat.beq xs.length 1 then
 (AV.asAgg 2 (xs.getD 0 .u)).bind fun c0=>
 kG c0 0 fun n1=>
 kG c0 1 fun n2=>
 let h3:=h.bump 1
 let h4:=h3.put h.next (.cells true 144 [(.i .i64 n1),(.i .i64 n2)])
 bI h4 (.n h.next) 0 fun n6=>
 bI h4 (.n h.next) 1 fun n8=>
 (XP [(.agg [(.i .i64 n6),(.i .i64 n8)])] h4).bind fun r9=>
 (AV.aV r9.1).bind fun b10=>
 (bif (!b10) then
 some ((.i .u64 0),r9.2)
 else bI r9.2 (.n h.next) 1 fun dy=>
 (bif (decide ((IntKind.i64.wrap (64 - dy))<0)) then
 none
 else let v13:Int:=(Int.fdiv 18446744073709551615 (2 ^ min (IntKind.i64.wrap (64 - dy)).toNat 64))
 bI r9.2 (.n h.next) 0 fun gd=>
 (bif (decide (gd<0)) then
 none
 else some ((.i .u64 (IntKind.u64.wrap (v13*2 ^ min gd.toNat 64))),r9.2))))
 else none
def oc:Sm O:=yw lq
theorem rY:aa Tryz.prog 98:=Tryz.call98
theorem MP (XP:Sm O):run (O:=O) Tryz.prog [(99,XP)] Tryz.f98 (.n .z (.n (.n .z (.n .z .z)) (.n (.d [] [0,1,2,3,4,5,6,7] [0,1,3,7,0,16,63,127]) .z)))=yw XP:=by kernel_rfl
theorem om:ae RO Tryz.prog 98 oc:=bt (MP _) (af qa mi <| aA) Tryz.func98 (by kernel_rfl)
def rU (l0:SA × Nat) (Vu:Sm O):List AV × AH O → Option ((List AV × AH O) ⊕ ((List AV × AH O) ⊕ (AV × AH O))):=(fun r1=>
 (AV.ag .u64 (r1.1.getD 0 .u)).bind fun n2=>
 (AV.ag .i64 (r1.1.getD 1 .u)).bind fun n3=>
 (bif (decide (n3<(l0.2:Int))) then
 let h4:=r1.2.bump 1
 (bif ((decide ((0:Int) ≤ n3)) && (decide (n3<(l0.2:Int)))) then
 (SA.ref l0.1).bind fun q5=>
 bI h4 q5.1 (q5.2+(n3.toNat*2)) fun n7=>
 bI h4 q5.1 ((q5.2+(n3.toNat*2))+1) fun n9=>
 let gS:=h4.put r1.2.next (.cells true 144 [(.i .i64 0),(.i .i64 0)])
 (gS.st (.n r1.2.next) 0 [(.i .i64 n7),(.i .i64 n9)]).bind fun iM=>
 bI iM (.n r1.2.next) 0 fun fg=>
 bI iM (.n r1.2.next) 1 fun gd=>
 (Vu [(.agg [(.i .i64 fg),(.i .i64 gd)])] iM).bind fun rn=>
 (AV.ag .u64 rn.1).bind fun iO=>
 ((bif (((iO:Int) == 0) == false) then
 some ([(.b (((bE .and .u64 n2 iO):Int) != 0))],rn.2)
 else some ([(.b true)],rn.2)):Option (List AV × AH O)).bind fun gb=>
 (AV.aV (gb.1.getD 0 .u)).bind fun b19=>
 (bif b19 then
 ((some ((.b false),gb.2):Option (AV × AH O)).map fun r=>Sum.inr (Sum.inr r))
 else some (Sum.inl ([(.i .u64 (bE .or .u64 n2 iO)),(.i .i64 (IntKind.i64.wrap (n3+1)))],gb.2)))
 else none)
 else some (Sum.inr (Sum.inl ([],r1.2)))))
def vd (Vu:Sm O):Sm O:=fun xs h=>
 bif Nat.beq xs.length 1 then
 kH xs 0 fun l0=>
 bK (S:=List AV × AH O) (R:=(AV × AH O)) (aQ (S:=List AV × AH O) (T:=(List AV × AH O) ⊕ (AV × AH O)) (rU l0 Vu) ([(.i .u64 0),(.i .i64 0)],h)) fun kO=>
 some ((.b true),kO.2)
 else none
def tS:Sm O:=vd oc
theorem KE:aa Tryz.prog 71:=Tryz.call71
theorem KF (Vu:Sm O):run (O:=O) Tryz.prog [(98,Vu)] Tryz.f71 (.n .z (.n .z (.n (.n .z (.n (.lp true 0 [(3,.one (.i .u64)),(9,.one (.i .i64))] [] (.n .z (.n .z (.n (.n (.n .z (.n .z (.n (.n (.g [(2,4,[(22,.one .b)])]) (.n .z .z)) .z))) .z) .z)))) .z)) .z)))=vd Vu:=by kernel_rfl
theorem G3:ae RO Tryz.prog 71 tS:=bt (KF _) (af rY om <| aA) Tryz.func71 (by kernel_rfl)
def rk:Sm O:=fun xs h=>
 bif Nat.beq xs.length 1 then
 Vk xs 0 fun n0=>
 ((bif (decide (n0 ≥ 4294967296)) then
 some ([(.i .u64 (Int.fdiv n0 (2 ^ 32))),(.i .i64 32)],h)
 else some ([(.i .u64 n0),(.i .i64 0)],h)):Option (List AV × AH O)).bind fun r1=>
 (AV.ag .u64 (r1.1.getD 0 .u)).bind fun n2=>
 (AV.ag .i64 (r1.1.getD 1 .u)).bind fun n3=>
 ((bif (decide (n2 ≥ 65536)) then
 some ([(.i .u64 (Int.fdiv n2 (2 ^ 16))),(.i .i64 (IntKind.i64.wrap (n3+16)))],r1.2)
 else some ([(.i .u64 n2),(.i .i64 n3)],r1.2)):Option (List AV × AH O)).bind fun r4=>
 (AV.ag .u64 (r4.1.getD 0 .u)).bind fun n5=>
 (AV.ag .i64 (r4.1.getD 1 .u)).bind fun n6=>
 ((bif (decide (n5 ≥ 256)) then
 some ([(.i .u64 (Int.fdiv n5 (2 ^ 8))),(.i .i64 (IntKind.i64.wrap (n6+8)))],r4.2)
 else some ([(.i .u64 n5),(.i .i64 n6)],r4.2)):Option (List AV × AH O)).bind fun r7=>
 (AV.ag .u64 (r7.1.getD 0 .u)).bind fun n8=>
 (AV.ag .i64 (r7.1.getD 1 .u)).bind fun n9=>
 (bif (decide ((0:Int) ≤ (IntKind.u8.wrap n8))) then
 (([0,1,2,2,3,3,3,3,4,4,4,4,4,4,4,4,5,5,5,5,5,5,5,5,5,5,5,5,5,5,5,5,6,6,6,6,6,6,6,6,6,6,6,6,6,6,6,6,6,6,6,6,6,6,6,6,6,6,6,6,6,6,6,6,7,7,7,7,7,7,7,7,7,7,7,7,7,7,7,7,7,7,7,7,7,7,7,7,7,7,7,7,7,7,7,7,7,7,7,7,7,7,7,7,7,7,7,7,7,7,7,7,7,7,7,7,7,7,7,7,7,7,7,7,7,7,7,7,8,8,8,8,8,8,8,8,8,8,8,8,8,8,8,8,8,8,8,8,8,8,8,8,8,8,8,8,8,8,8,8,8,8,8,8,8,8,8,8,8,8,8,8,8,8,8,8,8,8,8,8,8,8,8,8,8,8,8,8,8,8,8,8,8,8,8,8,8,8,8,8,8,8,8,8,8,8,8,8,8,8,8,8,8,8,8,8,8,8,8,8,8,8,8,8,8,8,8,8,8,8,8,8,8,8,8,8,8,8,8,8,8,8,8,8,8,8,8,8,8,8,8,8,8,8,8,8]:List UInt8)[(IntKind.u8.wrap n8).toNat]?).bind fun y10=>
 let v11:Int:=(IntKind.i64.wrap (n9+(IntKind.i64.wrap (y10.toNat:Int))))
 some ((.i .i64 v11),r7.2)
 else none)
 else none
def oe:Sm O:=rk
theorem B':aa Tryz.prog 100:=Tryz.call100
theorem MQ:run (O:=O) Tryz.prog [] Tryz.f100 (.n .z (.n (.n .z (.j false [(0,.one (.i .u64)),(2,.one (.i .i64))] .z .z)) (.n (.n .z (.j false [(0,.one (.i .u64)),(2,.one (.i .i64))] .z .z)) (.n (.n .z (.j false [(0,.one (.i .u64)),(2,.one (.i .i64))] .z .z)) .z))))=rk:=by kernel_rfl
theorem wQ:ae RO Tryz.prog 100 oe:=bt MQ (aA) Tryz.func100 (by kernel_rfl)
def BX (XP Rg Vu:Sm O):Sm O:=fun xs h=>
 bif Nat.beq xs.length 3 then
 Vk xs 0 fun n0=>
 (AV.asAgg 2 (xs.getD 1 .u)).bind fun c1=>
 kG c1 0 fun n2=>
 kG c1 1 fun n3=>
 Vk xs 2 fun n4=>
 let h5:=h.bump 1
 let h6:=h5.put h.next (.cells true 144 [(.i .i64 n2),(.i .i64 n3)])
 bI h6 (.n h.next) 0 fun n8=>
 bI h6 (.n h.next) 1 fun cQ=>
 (XP [(.agg [(.i .i64 n8),(.i .i64 cQ)])] h6).bind fun oq=>
 (AV.aV oq.1).bind fun b12=>
 (bif (!b12) then
 some ((.aS [(.i .u64 0),(.i .i64 1)]),oq.2)
 else bI oq.2 (.n h.next) 1 fun fW=>
 (Rg [(.i .u64 n4)] oq.2).bind fun ij=>
 (AV.ag .i64 ij.1).bind fun jN=>
 (bc (ij.2.ld (.n h.next) 1) (some (.i .i64 fW))).bind fun _=>
 (bif (decide (jN > fW)) then
 some ((.aS [(.i .u64 0),(.i .i64 2)]),ij.2)
 else bI ij.2 (.n h.next) 0 fun jX=>
 bI ij.2 (.n h.next) 1 fun nv=>
 bI ij.2 (.n h.next) 0 fun fC=>
 (bif (decide (fC<0)) then
 none
 else (Vu [(.agg [(.i .i64 jX),(.i .i64 nv)])] ij.2).bind fun zG=>
 (AV.ag .u64 zG.1).bind fun rZ=>
 (bc (zG.2.ld (.n h.next) 0) (some (.i .i64 fC))).bind fun _=>
 let v25:Int:=(bE .or .u64 (bE .andNot .u64 n0 rZ) (IntKind.u64.wrap (n4*2 ^ min fC.toNat 64)))
 some ((.aS [(.i .u64 v25),(.i .i64 0)]),zG.2))))
 else none
def wL:Sm O:=BX lq oe oc
theorem Ox:aa Tryz.prog 72:=Tryz.call72
theorem Oy (XP Rg Vu:Sm O):run (O:=O) Tryz.prog [(99,XP),(100,Rg),(98,Vu)] Tryz.f72 (.n .z (.n (.n (.n .z (.n .z (.n (.d [] [0,2,3,1,4,5] [0,1,0,4,15,31]) (.n .z .z)))) .z) (.n (.d [] [0,1,4,5,6,7,2,3,8,9,10] [0,0,2,7,0,0,32,112,255,511,1023]) .z)))=BX XP Rg Vu:=by kernel_rfl
theorem KG:ae RO Tryz.prog 72 wL:=bt (Oy _ _ _) (af qa mi <| af B' wQ <| af rY om <| aA) Tryz.func72 (by kernel_rfl)
def oE (l0:SA × Nat) (l1:SA × Nat) (k72:Sm O):List AV × AH O → Option ((List AV × AH O) ⊕ ((List AV × AH O) ⊕ (AV × AH O))):=(fun r6=>
 (AV.ag .u64 (r6.1.getD 0 .u)).bind fun n7=>
 (AV.ag .i64 (r6.1.getD 1 .u)).bind fun n8=>
 (bif (decide (n8<(l0.2:Int))) then
 let h9:=r6.2.bump 1
 (bif ((decide ((0:Int) ≤ n8)) && (decide (n8<(l0.2:Int)))) then
 (SA.ref l0.1).bind fun nZ=>
 bI h9 nZ.1 (nZ.2+(n8.toNat*2)) fun dy=>
 bI h9 nZ.1 ((nZ.2+(n8.toNat*2))+1) fun fW=>
 let oY:=h9.put r6.2.next (.cells true 144 [(.i .i64 0),(.i .i64 0)])
 (oY.st (.n r6.2.next) 0 [(.i .i64 dy),(.i .i64 fW)]).bind fun zI=>
 bI zI (.n r6.2.next) 0 fun jX=>
 bI zI (.n r6.2.next) 1 fun nv=>
 (bif ((decide ((0:Int) ≤ n8)) && (decide (n8<(l1.2:Int)))) then
 (SA.ref l1.1).bind fun MM=>
 ldU zI MM.1 (MM.2+(n8.toNat*1)) fun qo=>
 (k72 [(.i .u64 n7),(.agg [(.i .i64 jX),(.i .i64 nv)]),(.i .u64 qo)] zI).bind fun tq=>
 (AV.aE 2 tq.1).bind fun XQ=>
 Vk XQ 0 fun ji=>
 kG XQ 1 fun Ai=>
 (bif ((Ai:Int) != 0) then
 ((some ((.aS [(.i .u64 0),(.i .i64 Ai)]),tq.2):Option (AV × AH O)).map fun r=>Sum.inr (Sum.inr r))
 else some (Sum.inl ([(.i .u64 ji),(.i .i64 (IntKind.i64.wrap (n8+1)))],tq.2)))
 else none)
 else none)
 else some (Sum.inr (Sum.inl ([(.i .u64 n7)],r6.2)))))
def yy (k71 k72:Sm O):Sm O:=fun xs h=>
 bif Nat.beq xs.length 2 then
 kH xs 0 fun l0=>
 kH xs 1 fun l1=>
 (k71 [(.sl l0.1 l0.2)] h).bind fun r2=>
 (AV.aV r2.1).bind fun b3=>
 ((bif ((!b3) == false) then
 some ([(.b (((l0.2:Int):Int) != (l1.2:Int)))],r2.2)
 else some ([(.b true)],r2.2)):Option (List AV × AH O)).bind fun r4=>
 (AV.aV (r4.1.getD 0 .u)).bind fun b5=>
 (bif b5 then
 some ((.aS [(.i .u64 0),(.i .i64 1)]),r4.2)
 else bK (S:=List AV × AH O) (R:=(AV × AH O)) (aQ (S:=List AV × AH O) (T:=(List AV × AH O) ⊕ (AV × AH O)) (oE l0 l1 k72) ([(.i .u64 0),(.i .i64 0)],r4.2)) fun Uc=>
 (AV.ag .u64 (Uc.1.getD 0 .u)).bind fun Lm=>
 some ((.aS [(.i .u64 Lm),(.i .i64 0)]),Uc.2))
 else none
def yx:Sm O:=yy tS wL
theorem MR:aa Tryz.prog 49:=Tryz.call49
theorem MS (k71 k72:Sm O):run (O:=O) Tryz.prog [(71,k71),(72,k72)] Tryz.f49 (.n .z (.n (.n (.g [(3,5,[(20,.one .b)])]) (.n .z .z)) (.n .z (.n (.n .z (.n (.lp true 0 [(6,.one (.i .u64)),(23,.one (.i .i64))] [(6,.one (.i .u64))] (.n .z (.n .z (.n (.n (.n .z (.n (.d [] [0,1,2,3,4,5,6,7,8,9,10,11] [0,0,0,0,12,28,63,127,255,255,511,2047]) (.n (.n .z (.n .z .z)) .z))) .z) .z)))) .z)) .z))))=yy k71 k72:=by kernel_rfl
theorem IM:ae RO Tryz.prog 49 yx:=bt (MS _ _) (af KE G3 <| af Ox KG <| aA) Tryz.func49 (by kernel_rfl)
def ve (Vo k50 k49:Sm O):Sm O:=fun xs h=>
 bif Nat.beq xs.length 1 then
 (AV.asAgg 5 (xs.getD 0 .u)).bind fun c0=>
 kG c0 0 fun n1=>
 kG c0 1 fun n2=>
 kG c0 2 fun n3=>
 kG c0 3 fun n4=>
 (AV.aV (c0.getD 4 .u)).bind fun b5=>
 let h6:=h.bump 1
 let h7:=h6.put h.next (.cells true 47 [(.i .i64 n1),(.i .i64 n2),(.i .i64 n3),(.i .i64 n4),(.b b5)])
 bI h7 (.n h.next) 0 fun n9=>
 bI h7 (.n h.next) 1 fun dZ=>
 bI h7 (.n h.next) 2 fun fg=>
 bI h7 (.n h.next) 3 fun gd=>
 (h7.ld (.n h.next) 4).bind fun vl=>
 (AV.aV vl).bind fun b17=>
 (Vo [(.agg [(.i .i64 n9),(.i .i64 dZ),(.i .i64 fg),(.i .i64 gd),(.b b17)])] h7).bind fun gb=>
 (AV.ag .i64 gb.1).bind fun kN=>
 (bif ((kN:Int) != 0) then
 some ((.aS [(.i .u64 0),(.i .i64 kN)]),gb.2)
 else (gb.2.ld (.n h.next) 4).bind fun DL=>
 (AV.aV DL).bind fun b21=>
 ((bif b21 then
 some ([(.i .u64 1)],gb.2)
 else some ([(.i .u64 0)],gb.2)):Option (List AV × AH O)).bind fun tY=>
 (AV.ag .u64 (tY.1.getD 0 .u)).bind fun qo=>
 let P':=tY.2.bump 1
 bI P' (.n h.next) 0 fun ji=>
 bI P' (.n h.next) 1 fun jo=>
 bI P' (.n h.next) 2 fun ot=>
 bI P' (.n h.next) 3 fun lJ=>
 (k50 [] P').bind fun Br=>
 (AV.aG Br.1).bind fun l34=>
 (bc (Br.2.ld (.n h.next) 0) (some (.i .i64 ji))).bind fun _=>
 (bc (Br.2.ld (.n h.next) 1) (some (.i .i64 jo))).bind fun _=>
 (bc (Br.2.ld (.n h.next) 2) (some (.i .i64 ot))).bind fun _=>
 (bc (Br.2.ld (.n h.next) 3) (some (.i .i64 lJ))).bind fun _=>
 let wO:=Br.2.put tY.2.next (.cells true 63 [(.i .u64 (IntKind.u64.wrap ji)),(.i .u64 (IntKind.u64.wrap jo)),(.i .u64 (IntKind.u64.wrap ot)),(.i .u64 (IntKind.u64.wrap lJ)),(.i .u64 qo),(.i .u64 1)])
 (k49 [(.sl l34.1 l34.2),(.sl (.loc (.n tY.2.next) 0 1) 6)] wO).bind fun r36=>
 (AV.aE 2 r36.1).bind fun c37=>
 Vk c37 0 fun GV=>
 kG c37 1 fun Ot=>
 some ((.aS [(.i .u64 GV),(.i .i64 Ot)]),r36.2))
 else none
def df:Sm O:=ve cD j0 yx
theorem qb:aa Tryz.prog 22:=Tryz.call22
theorem KH (Vo k50 k49:Sm O):run (O:=O) Tryz.prog [(16,Vo),(50,k50),(49,k49)] Tryz.f22 (.n .z (.n (.n .z (.n .z (.n .z .z))) (.n .z (.n (.n .z (.j false [(5,.one (.i .u64))] .z .z)) (.n (.d [] [1,2,3,4,5,6,7,8,9,10,11,12,13,14,15,0,16,17,18,19,20,21] [0,0,2,6,14,0,32,96,224,0,512,1536,0,4096,12288,0,65534,131071,262143,262143,1048575,2097151]) .z)))))=ve Vo k50 k49:=by kernel_rfl
theorem mj:ae RO Tryz.prog 22 df:=bt (KH _ _ _) (af og kP <| af tZ qs <| af MR IM <| aA) Tryz.func22 (by kernel_rfl)
def mb (l0:SA × Nat):List AV × AH O → Option ((List AV × AH O) ⊕ (List AV × AH O)):=(fun r3=>
 (AV.aG (r3.1.getD 0 .u)).bind fun l4=>
 (AV.ag .i64 (r3.1.getD 1 .u)).bind fun n5=>
 (bif (decide (n5<(l0.2:Int))) then
 (bif ((decide ((0:Int) ≤ n5)) && (decide (n5<(l0.2:Int)))) then
 (SA.ref l0.1).bind fun q6=>
 bI r3.2 q6.1 (q6.2+(n5.toNat*1)) fun n8=>
 let h9:=r3.2.bump 2
 let gS:=h9.put r3.2.next (.cells true 63 [(.i .u64 (IntKind.u64.wrap n8))])
 (gS.bC (.loc (.n r3.2.next) 0 1) 1 1).bind fun al'=>
 (bif (Nat.ble ((l4.2+1)*9) 35184372088832) then
 (gS.bP (r3.2.next+1) 63 1 l4.1 l4.2 1 al').bind fun fa=>
 (AV.aG fa.1).bind fun P7=>
 some (Sum.inl ([(.sl P7.1 P7.2),(.i .i64 (IntKind.i64.wrap (n5+1)))],fa.2))
 else none)
 else none)
 else some (Sum.inr ([(.sl l4.1 l4.2)],r3.2))))
def jZ:Sm O:=fun xs h=>
 bif Nat.beq xs.length 1 then
 kH xs 0 fun l0=>
 let h1:=h.bump 1
 let h2:=h1.put h.next (.cells true 63 [(.i .u64 (IntKind.u64.wrap (l0.2:Int)))])
 (aQ (S:=List AV × AH O) (T:=List AV × AH O) (mb l0) ([(.sl (.loc (.n h.next) 0 1) 1),(.i .i64 0)],h2)).bind fun r14=>
 (AV.aG (r14.1.getD 0 .u)).bind fun Rh=>
 some ((.sl Rh.1 Rh.2),r14.2)
 else none
def iL:Sm O:=yh (jZ)
theorem KI:aa Tryz.prog 23:=Tryz.call23
theorem KJ:run (O:=O) Tryz.prog [] Tryz.f23 (.n .z (.n .z (.n (.n .z (.n (.lp false 0 [(3,.one .sl),(12,.one (.i .i64))] [(3,.one .sl)] (.n .z (.n .z (.n (.n .z .z) .z)))) .z)) .z)))=jZ:=by kernel_rfl
theorem G4:ae RO Tryz.prog 23 (iL):=
   have h:ae RO Tryz.prog 23 (jZ):=(KJ)▸aU (aA) mixed Tryz.func23 (by kernel_rfl) _
   h.yh
def u6:List AV × AH O → Option ((List AV × AH O) ⊕ (List AV × AH O)):=(fun r7=>
 (AV.ag .u64 (r7.1.getD 0 .u)).bind fun n8=>
 (AV.aG (r7.1.getD 1 .u)).bind fun l9=>
 (bif (decide (n8 ≥ 128)) then
 let gS:=r7.2.bump 2
 let iM:=gS.put r7.2.next (.cells true 5 [(.i .u8 (bE .or .u8 (IntKind.u8.wrap n8) 128))])
 (iM.bC (.loc (.n r7.2.next) 0 1) 1 1).bind fun abO=>
 (bif (Nat.ble ((l9.2+1)*2) 35184372088832) then
 (iM.bP (r7.2.next+1) 5 1 l9.1 l9.2 1 abO).bind fun pZ=>
 (AV.aG pZ.1).bind fun H3=>
 some (Sum.inl ([(.i .u64 (Int.fdiv n8 (2 ^ 7))),(.sl H3.1 H3.2)],pZ.2))
 else none)
 else some (Sum.inr ([(.i .u64 n8),(.sl l9.1 l9.2)],r7.2))))
def yu:Sm O:=fun xs h=>
 bif Nat.beq xs.length 2 then
 kH xs 0 fun l0=>
 Vk xs 1 fun n1=>
 let h2:=h.bump 2
 let h3:=h2.put h.next (.cells true 5 [])
 (h3.bC l0.1 l0.2 1).bind fun aqG=>
 (bif (Nat.ble ((0+l0.2)*2) 35184372088832) then
 (h3.bP (h.next+1) 5 1 (.loc (.n h.next) 0 1) 0 l0.2 aqG).bind fun r5=>
 (AV.aG r5.1).bind fun l6=>
 (aQ (S:=List AV × AH O) (T:=List AV × AH O) (u6) ([(.i .u64 n1),(.sl l6.1 l6.2)],r5.2)).bind fun ij=>
 (AV.ag .u64 (ij.1.getD 0 .u)).bind fun jN=>
 (AV.aG (ij.1.getD 1 .u)).bind fun P9=>
 let qp:=ij.2.bump 2
 let Oc:=qp.put ij.2.next (.cells true 5 [(.i .u8 (IntKind.u8.wrap jN))])
 (Oc.bC (.loc (.n ij.2.next) 0 1) 1 1).bind fun ama=>
 (bif (Nat.ble ((P9.2+1)*2) 35184372088832) then
 (Oc.bP (ij.2.next+1) 5 1 P9.1 P9.2 1 ama).bind fun Bt=>
 (AV.aG Bt.1).bind fun XN=>
 some ((.sl XN.1 XN.2),Bt.2)
 else none)
 else none)
 else none
def kI:Sm O:=yu
theorem MT:aa Tryz.prog 52:=Tryz.call52
theorem MU:run (O:=O) Tryz.prog [] Tryz.f52 (.n .z (.n .z (.n (.n (.lp false 0 [(1,.one (.i .u64)),(5,.one .sl)] [(1,.one (.i .u64)),(5,.one .sl)] (.n (.n .z .z) (.n .z .z))) .z) .z)))=yu:=by kernel_rfl
theorem IP:ae RO Tryz.prog 52 kI:=bt MU (aA) Tryz.func52 (by kernel_rfl)
def u7 (l0:SA × Nat) (k52:Sm O):List AV × AH O → Option ((List AV × AH O) ⊕ (List AV × AH O)):=(fun r1=>
 (AV.aG (r1.1.getD 0 .u)).bind fun l2=>
 (AV.ag .i64 (r1.1.getD 1 .u)).bind fun n3=>
 (bif (decide (n3<(l0.2:Int))) then
 (bif ((decide ((0:Int) ≤ n3)) && (decide (n3<(l0.2:Int)))) then
 (SA.ref l0.1).bind fun q4=>
 ldU r1.2 q4.1 (q4.2+(n3.toNat*1)) fun n6=>
 (k52 [(.sl l2.1 l2.2),(.i .u64 n6)] r1.2).bind fun r7=>
 (AV.aG r7.1).bind fun l8=>
 some (Sum.inl ([(.sl l8.1 l8.2),(.i .i64 (IntKind.i64.wrap (n3+1)))],r7.2))
 else none)
 else some (Sum.inr ([(.sl l2.1 l2.2)],r1.2))))
def lZ (k52:Sm O):Sm O:=fun xs h=>
 bif Nat.beq xs.length 1 then
 kH xs 0 fun l0=>
 (aQ (S:=List AV × AH O) (T:=List AV × AH O) (u7 l0 k52) ([(.sl .nil 0),(.i .i64 0)],h)).bind fun r9=>
 (AV.aG (r9.1.getD 0 .u)).bind fun l10=>
 some ((.sl l10.1 l10.2),r9.2)
 else none
def kJ:Sm O:=yh (lZ kI)
theorem MV:aa Tryz.prog 25:=Tryz.call25
theorem MW (k52:Sm O):run (O:=O) Tryz.prog [(52,k52)] Tryz.f25 (.n .z (.n .z (.n (.n .z (.n (.lp false 0 [(3,.one .sl),(8,.one (.i .i64))] [(3,.one .sl)] (.n .z (.n .z (.n (.n .z .z) .z)))) .z)) .z)))=lZ k52:=by kernel_rfl
theorem IQ:ae RO Tryz.prog 25 (kJ):=
   have h:ae RO Tryz.prog 25 (lZ kI):=(MW kI)▸aU (af MT (IP) <| aA) mixed Tryz.func25 (by kernel_rfl) _
   h.yh
def BU:List AV × AH O → Option ((List AV × AH O) ⊕ (List AV × AH O)):=(fun r3=>
 (AV.ag .u64 (r3.1.getD 0 .u)).bind fun n4=>
 (AV.ag .i64 (r3.1.getD 1 .u)).bind fun n5=>
 (bif (decide (n5<8)) then
 let v6:Int:=(bE .and .u64 4823603603198064275 (IntKind.u64.wrap (0 - (Int.fdiv n4 (2 ^ 63)))))
 let v7:Int:=(bE .xor .u64 (IntKind.u64.wrap (n4*2 ^ 1)) v6)
 some (Sum.inl ([(.i .u64 v7),(.i .i64 (IntKind.i64.wrap (n5+1)))],r3.2))
 else some (Sum.inr ([(.i .u64 n4)],r3.2))))
def Ft:Sm O:=fun xs h=>
 bif Nat.beq xs.length 2 then
 Vk xs 0 fun n0=>
 (AV.ag .u8 (xs.getD 1 .u)).bind fun n1=>
 let v2:Int:=(IntKind.u64.wrap ((IntKind.u64.wrap n1)*2 ^ 56))
 (aQ (S:=List AV × AH O) (T:=List AV × AH O) (BU) ([(.i .u64 (bE .xor .u64 n0 v2)),(.i .i64 0)],h)).bind fun r8=>
 (AV.ag .u64 (r8.1.getD 0 .u)).bind fun n9=>
 some ((.i .u64 n9),r8.2)
 else none
def GK:Sm O:=Ft
theorem Ri:aa Tryz.prog 78:=Tryz.call78
theorem Rj:run (O:=O) Tryz.prog [] Tryz.f78 (.n .z (.n .z (.n (.n .z (.n (.lp false 0 [(0,.one (.i .u64)),(11,.one (.i .i64))] [(0,.one (.i .u64))] (.n .z (.n .z (.n (.n .z .z) .z)))) .z)) .z)))=Ft:=by kernel_rfl
theorem MX:ae RO Tryz.prog 78 GK:=bt Rj (aA) Tryz.func78 (by kernel_rfl)
def BV (l1:SA × Nat) (k78:Sm O):List AV × AH O → Option ((List AV × AH O) ⊕ (List AV × AH O)):=(fun r2=>
 (AV.ag .u64 (r2.1.getD 0 .u)).bind fun n3=>
 (AV.ag .i64 (r2.1.getD 1 .u)).bind fun n4=>
 (bif (decide (n4<(l1.2:Int))) then
 (bif ((decide ((0:Int) ≤ n4)) && (decide (n4<(l1.2:Int)))) then
 (SA.ref l1.1).bind fun q5=>
 (r2.2.ld q5.1 (q5.2+(n4.toNat*1))).bind fun w6=>
 (AV.ag .u8 w6).bind fun n7=>
 (k78 [(.i .u64 n3),(.i .u8 n7)] r2.2).bind fun r8=>
 (AV.ag .u64 r8.1).bind fun n9=>
 some (Sum.inl ([(.i .u64 n9),(.i .i64 (IntKind.i64.wrap (n4+1)))],r8.2))
 else none)
 else some (Sum.inr ([(.i .u64 n3)],r2.2))))
def Fu (k78:Sm O):Sm O:=fun xs h=>
 bif Nat.beq xs.length 2 then
 Vk xs 0 fun n0=>
 kH xs 1 fun l1=>
 (aQ (S:=List AV × AH O) (T:=List AV × AH O) (BV l1 k78) ([(.i .u64 n0),(.i .i64 0)],h)).bind fun dw=>
 (AV.ag .u64 (dw.1.getD 0 .u)).bind fun dZ=>
 some ((.i .u64 dZ),dw.2)
 else none
def oU:Sm O:=Fu GK
theorem G5:aa Tryz.prog 57:=Tryz.call57
theorem Rk (k78:Sm O):run (O:=O) Tryz.prog [(78,k78)] Tryz.f57 (.n .z (.n (.n .z (.n (.lp false 0 [(0,.one (.i .u64)),(9,.one (.i .i64))] [(0,.one (.i .u64))] (.n .z (.n .z (.n (.n .z .z) .z)))) .z)) .z))=Fu k78:=by kernel_rfl
theorem Ca:ae RO Tryz.prog 57 oU:=bt (Rk _) (af Ri MX <| aA) Tryz.func57 (by kernel_rfl)
def Fv (l0:SA × Nat) (k57:Sm O):List AV × AH O → Option ((List AV × AH O) ⊕ (List AV × AH O)):=(fun r1=>
 (AV.ag .u64 (r1.1.getD 0 .u)).bind fun n2=>
 (AV.ag .i64 (r1.1.getD 1 .u)).bind fun n3=>
 (bif (decide (n3<(l0.2:Int))) then
 (bif ((decide ((0:Int) ≤ n3)) && (decide (n3<(l0.2:Int)))) then
 (SA.ref l0.1).bind fun q4=>
 cJ r1.2 q4.1 (q4.2+(n3.toNat*1)) fun l6=>
 (k57 [(.i .u64 n2),(.sl l6.1 l6.2)] r1.2).bind fun r7=>
 (AV.ag .u64 r7.1).bind fun n8=>
 some (Sum.inl ([(.i .u64 n8),(.i .i64 (IntKind.i64.wrap (n3+1)))],r7.2))
 else none)
 else some (Sum.inr ([(.i .u64 n2)],r1.2))))
def IB (k57:Sm O):Sm O:=fun xs h=>
 bif Nat.beq xs.length 1 then
 kH xs 0 fun l0=>
 (aQ (S:=List AV × AH O) (T:=List AV × AH O) (Fv l0 k57) ([(.i .u64 0),(.i .i64 0)],h)).bind fun r9=>
 (AV.ag .u64 (r9.1.getD 0 .u)).bind fun cQ=>
 some ((.i .u64 cQ),r9.2)
 else none
def ma:Sm O:=IB oU
theorem JU:aa Tryz.prog 51:=Tryz.call51
theorem Ud (k57:Sm O):run (O:=O) Tryz.prog [(57,k57)] Tryz.f51 (.n .z (.n .z (.n (.n .z (.n (.lp false 0 [(3,.one (.i .u64)),(8,.one (.i .i64))] [(3,.one (.i .u64))] (.n .z (.n .z (.n (.n .z .z) .z)))) .z)) .z)))=IB k57:=by kernel_rfl
theorem Ez:ae RO Tryz.prog 51 ma:=bt (Ud _) (af G5 Ca <| aA) Tryz.func51 (by kernel_rfl)
def BW (n9:Int):List AV × AH O → Option ((List AV × AH O) ⊕ (List AV × AH O)):=(fun dw=>
 (AV.aG (dw.1.getD 0 .u)).bind fun Ub=>
 (AV.ag .i64 (dw.1.getD 1 .u)).bind fun dy=>
 (bif (decide (dy<8)) then
 let nk:=dw.2.bump 2
 let v14:Int:=(IntKind.i64.wrap (56 - (IntKind.i64.wrap (8*dy))))
 (bif (decide (v14<0)) then
 none
 else let v15:Int:=(IntKind.u8.wrap (Int.fdiv n9 (2 ^ min v14.toNat 64)))
 let zI:=nk.put dw.2.next (.cells true 5 [(.i .u8 v15)])
 (zI.bC (.loc (.n dw.2.next) 0 1) 1 1).bind fun amb=>
 (bif (Nat.ble ((Ub.2+1)*2) 35184372088832) then
 (zI.bP (dw.2.next+1) 5 1 Ub.1 Ub.2 1 amb).bind fun gb=>
 (AV.aG gb.1).bind fun l19=>
 some (Sum.inl ([(.sl l19.1 l19.2),(.i .i64 (IntKind.i64.wrap (dy+1)))],gb.2))
 else none))
 else some (Sum.inr ([(.sl Ub.1 Ub.2)],dw.2))))
def rT (k51:Sm O):Sm O:=fun xs h=>
 bif Nat.beq xs.length 1 then
 kH xs 0 fun l0=>
 let h1:=h.bump 2
 let h2:=h1.put h.next (.cells true 5 [])
 (h2.bC l0.1 l0.2 1).bind fun aqI=>
 (bif (Nat.ble ((0+l0.2)*2) 35184372088832) then
 (h2.bP (h.next+1) 5 1 (.loc (.n h.next) 0 1) 0 l0.2 aqI).bind fun r4=>
 (AV.aG r4.1).bind fun l5=>
 let h6:=r4.2.bump 1
 let h7:=h6.put r4.2.next (.cells true 29 [(.sl l0.1 l0.2)])
 (k51 [(.sl (.loc (.n r4.2.next) 0 1) 1)] h7).bind fun r8=>
 (AV.ag .u64 r8.1).bind fun n9=>
 (aQ (S:=List AV × AH O) (T:=List AV × AH O) (BW n9) ([(.sl l5.1 l5.2),(.i .i64 0)],r8.2)).bind fun kO=>
 (AV.aG (kO.1.getD 0 .u)).bind fun Vt=>
 some ((.sl Vt.1 Vt.2),kO.2)
 else none)
 else none
def rS:Sm O:=yh (rT ma)
theorem Rl:aa Tryz.prog 24:=Tryz.call24
theorem Rm (k51:Sm O):run (O:=O) Tryz.prog [(51,k51)] Tryz.f24 (.n .z (.n .z (.n .z (.n (.n .z (.n (.lp false 0 [(3,.one .sl),(12,.one (.i .i64))] [(3,.one .sl)] (.n .z (.n .z (.n (.n .z .z) .z)))) .z)) .z))))=rT k51:=by kernel_rfl
theorem MY:ae RO Tryz.prog 24 (rS):=
   have h:ae RO Tryz.prog 24 (rT ma):=(Rm ma)▸aU (af JU (Ez) <| aA) mixed Tryz.func24 (by kernel_rfl) _
   h.yh
def rh (l61:SA × Nat):List AV × AH O → Option ((List AV × AH O) ⊕ (List AV × AH O)):=(fun Z7=>
 (AV.aG (Z7.1.getD 0 .u)).bind fun l63=>
 (AV.ag .i64 (Z7.1.getD 1 .u)).bind fun Z6=>
 (bif (decide (Z6<(l61.2:Int))) then
 (bif ((decide ((0:Int) ≤ Z6)) && (decide (Z6<(l61.2:Int)))) then
 (SA.ref l61.1).bind fun q65=>
 bI Z7.2 q65.1 (q65.2+(Z6.toNat*1)) fun Z8=>
 let h68:=Z7.2.bump 2
 let h69:=h68.put Z7.2.next (.cells true 63 [(.i .u64 (IntKind.u64.wrap Z8))])
 (h69.bC (.loc (.n Z7.2.next) 0 1) 1 1).bind fun ame=>
 (bif (Nat.ble ((l63.2+1)*9) 35184372088832) then
 (h69.bP (Z7.2.next+1) 63 1 l63.1 l63.2 1 ame).bind fun r71=>
 (AV.aG r71.1).bind fun l72=>
 some (Sum.inl ([(.sl l72.1 l72.2),(.i .i64 (IntKind.i64.wrap (Z6+1)))],r71.2))
 else none)
 else none)
 else some (Sum.inr ([(.sl l63.1 l63.2)],Z7.2))))
def rj (l19:SA × Nat) (Vv:Sm O):List AV × AH O → Option ((List AV × AH O) ⊕ (List AV × AH O)):=(fun kO=>
 (AV.aG (kO.1.getD 0 .u)).bind fun Vt=>
 (AV.ag .i64 (kO.1.getD 1 .u)).bind fun fC=>
 (bif (decide (fC<(l19.2:Int))) then
 let tW:=kO.2.bump 1
 (bif ((decide ((0:Int) ≤ fC)) && (decide (fC<(l19.2:Int)))) then
 (SA.ref l19.1).bind fun wR=>
 bI tW wR.1 (wR.2+(fC.toNat*7)) fun ji=>
 bI tW wR.1 ((wR.2+(fC.toNat*7))+1) fun jo=>
 bI tW wR.1 (((wR.2+(fC.toNat*7))+1)+1) fun ot=>
 bI tW wR.1 ((((wR.2+(fC.toNat*7))+1)+1)+1) fun lJ=>
 (tW.ld wR.1 (((((wR.2+(fC.toNat*7))+1)+1)+1)+1)).bind fun FE=>
 (AV.aV FE).bind fun b34=>
 cJ tW wR.1 ((((((wR.2+(fC.toNat*7))+1)+1)+1)+1)+1) fun l36=>
 cJ tW wR.1 (((((((wR.2+(fC.toNat*7))+1)+1)+1)+1)+1)+1) fun l38=>
 let Od:=tW.put kO.2.next (.cells true 50 [(.i .i64 0),(.i .i64 0),(.i .i64 0),(.i .i64 0),(.b false),(.sl .nil 0),(.sl .nil 0)])
 (Od.st (.n kO.2.next) 0 [(.i .i64 ji),(.i .i64 jo),(.i .i64 ot),(.i .i64 lJ),(.b b34),(.sl l36.1 l36.2),(.sl l38.1 l38.2)]).bind fun wS=>
 bI wS (.n kO.2.next) 0 fun Oe=>
 bI wS (.n kO.2.next) 1 fun SI=>
 bI wS (.n kO.2.next) 2 fun Ue=>
 bI wS (.n kO.2.next) 3 fun WC=>
 (wS.ld (.n kO.2.next) 4).bind fun w49=>
 (AV.aV w49).bind fun b50=>
 (Vv [(.agg [(.i .i64 Oe),(.i .i64 SI),(.i .i64 Ue),(.i .i64 WC),(.b b50)])] wS).bind fun r51=>
 (AV.aE 2 r51.1).bind fun c52=>
 Vk c52 0 fun T'=>
 kG c52 1 fun SF=>
 let Zt:=r51.2.bump 2
 let h56:=Zt.put r51.2.next (.cells true 63 [(.i .u64 T')])
 (h56.bC (.loc (.n r51.2.next) 0 1) 1 1).bind fun amh=>
 (bif (Nat.ble ((Vt.2+1)*9) 35184372088832) then
 (h56.bP (r51.2.next+1) 63 1 Vt.1 Vt.2 1 amh).bind fun r58=>
 (AV.aG r58.1).bind fun l59=>
 cJ r58.2 (.n kO.2.next) 5 fun l61=>
 (aQ (S:=List AV × AH O) (T:=List AV × AH O) (rh l61) ([(.sl l59.1 l59.2),(.i .i64 0)],r58.2)).bind fun r73=>
 (AV.aG (r73.1.getD 0 .u)).bind fun l74=>
 let h75:=r73.2.bump 1
 cJ h75 (.n kO.2.next) 6 fun l77=>
 (h75.bC l77.1 l77.2 1).bind fun amk=>
 (bif (Nat.ble ((l74.2+l77.2)*9) 35184372088832) then
 (h75.bP r73.2.next 63 1 l74.1 l74.2 l77.2 amk).bind fun r79=>
 (AV.aG r79.1).bind fun l80=>
 some (Sum.inl ([(.sl l80.1 l80.2),(.i .i64 (IntKind.i64.wrap (fC+1)))],r79.2))
 else none)
 else none)
 else none)
 else some (Sum.inr ([(.sl Vt.1 Vt.2)],kO.2))))
def ll (k5 Vv k23 k25 k24:Sm O):Sm O:=fun xs h=>
 bif Nat.beq xs.length 1 then
 (AV.asAgg 3 (xs.getD 0 .u)).bind fun c0=>
 kH c0 0 fun l1=>
 kH c0 1 fun l2=>
 kH c0 2 fun l3=>
 let h4:=h.bump 1
 let h5:=h4.put h.next (.cells true 25 [(.sl l1.1 l1.2),(.sl l2.1 l2.2),(.sl l3.1 l3.2)])
 cJ h5 (.n h.next) 0 fun l7=>
 cJ h5 (.n h.next) 1 fun l9=>
 cJ h5 (.n h.next) 2 fun Ub=>
 (k5 [(.agg [(.sl l7.1 l7.2),(.sl l9.1 l9.2),(.sl Ub.1 Ub.2)])] h5).bind fun fa=>
 (AV.aV fa.1).bind fun Zs=>
 (bif (!Zs) then
 some ((.sl .nil 0),fa.2)
 else let tu:=fa.2.bump 1
 cJ tu (.n h.next) 0 fun l16=>
 let Ln:=tu.put fa.2.next (.cells true 63 [(.i .u64 (IntKind.u64.wrap (l16.2:Int)))])
 cJ Ln (.n h.next) 0 fun l19=>
 (aQ (S:=List AV × AH O) (T:=List AV × AH O) (rj l19 Vv) ([(.sl (.loc (.n fa.2.next) 0 1) 1),(.i .i64 0)],Ln)).bind fun r81=>
 (AV.aG (r81.1.getD 0 .u)).bind fun l82=>
 let h83:=r81.2.bump 1
 cJ h83 (.n h.next) 1 fun Z9=>
 (k23 [(.sl Z9.1 Z9.2)] h83).bind fun r86=>
 (AV.aG r86.1).bind fun l87=>
 (r86.2.bC l87.1 l87.2 1).bind fun amm=>
 (bif (Nat.ble ((l82.2+l87.2)*9) 35184372088832) then
 (r86.2.bP r81.2.next 63 1 l82.1 l82.2 l87.2 amm).bind fun r89=>
 (AV.aG r89.1).bind fun l90=>
 let h91:=r89.2.bump 1
 cJ h91 (.n h.next) 2 fun l93=>
 (k23 [(.sl l93.1 l93.2)] h91).bind fun r94=>
 (AV.aG r94.1).bind fun l95=>
 (r94.2.bC l95.1 l95.2 1).bind fun amn=>
 (bif (Nat.ble ((l90.2+l95.2)*9) 35184372088832) then
 (r94.2.bP r89.2.next 63 1 l90.1 l90.2 l95.2 amn).bind fun r97=>
 (AV.aG r97.1).bind fun l98=>
 (k25 [(.sl l98.1 l98.2)] r97.2).bind fun r99=>
 (AV.aG r99.1).bind fun amo=>
 (k24 [(.sl amo.1 amo.2)] r99.2).bind fun amp=>
 (AV.aG amp.1).bind fun amq=>
 some ((.sl amq.1 amq.2),amp.2)
 else none)
 else none))
 else none
def wK:Sm O:=yh (ll bq df iL kJ rS)
theorem Oz:aa Tryz.prog 8:=Tryz.call8
theorem OA (k5 Vv k23 k25 k24:Sm O):run (O:=O) Tryz.prog [(5,k5),(22,Vv),(23,k23),(25,k25),(24,k24)] Tryz.f8 (.n .z (.n (.n .z (.n .z .z)) (.n .z (.n (.n .z (.n (.lp false 0 [(3,.one .sl),(21,.one (.i .i64))] [(3,.one .sl)] (.n .z (.n .z (.n (.n (.n .z (.n .z (.n .z (.n (.n .z (.n (.lp false 2 [(3,.one .sl),(38,.one (.i .i64))] [(3,.one .sl)] (.n .z (.n .z (.n (.n .z .z) .z)))) .z)) .z)))) .z) .z)))) .z)) (.n .z .z)))))=ll k5 Vv k23 k25 k24:=by kernel_rfl
theorem KL:ae RO Tryz.prog 8 (wK):=
   have h:ae RO Tryz.prog 8 (ll bq df iL kJ rS):=(OA bq df iL kJ rS)▸aU (af gL (eU) <| af qb (mj) <| af KI (G4) <| af MV (IQ) <| af Rl (MY) <| aA) mixed Tryz.func8 (by kernel_rfl) _
   h.yh
def dF:Sm O:=fun xs h=>
 bif Nat.beq xs.length 2 then
 (AV.dV (xs.getD 0 .u)).bind fun s0=>
 (AV.dV (xs.getD 1 .u)).bind fun s1=>
 ((bif ((decide ((s0.length:Int) ≥ (s1.length:Int))) == true) then
 (bif ((decide ((0:Int) ≤ (s1.length:Int))) && (decide ((s1.length:Int) ≤ (s0.length:Int)))) then
 let c2:Bool:=(((s0.drop 0).take ((s1.length:Int).toNat - 0)) == s1)
 some ([(.b c2)],h)
 else none)
 else some ([(.b false)],h)):Option (List AV × AH O)).bind fun r3=>
 (AV.aV (r3.1.getD 0 .u)).bind fun b4=>
 some ((.b b4),r3.2)
 else none
def cy:Sm O:=dF
theorem jD:aa Tryz.prog 54:=Tryz.call54
theorem tv:run (O:=O) Tryz.prog [] Tryz.f54 (.n .z (.n (.g [(5,6,[(17,.one .b)])]) .z))=dF:=by kernel_rfl
theorem ik:ae RO Tryz.prog 54 cy:=bt tv (aA) Tryz.func54 (by kernel_rfl)
def jO (k54:Sm O):Sm O:=fun xs h=>
 bif Nat.beq xs.length 2 then
 (AV.dV (xs.getD 0 .u)).bind fun s0=>
 (AV.dV (xs.getD 1 .u)).bind fun s1=>
 (k54 [(.s s0),(.s s1)] h).bind fun r2=>
 (AV.aV r2.1).bind fun b3=>
 some ((.b b3),r2.2)
 else none
def cx:Sm O:=jO cy
theorem Aj:aa Tryz.prog 27:=Tryz.call27
theorem Ak (k54:Sm O):run (O:=O) Tryz.prog [(54,k54)] Tryz.f27 (.n .z .z)=jO k54:=by kernel_rfl
theorem wT:ae RO Tryz.prog 27 cx:=bt (Ak _) (af jD ik <| aA) Tryz.func27 (by kernel_rfl)
def fh (k54:Sm O):Sm O:=fun xs h=>
 bif Nat.beq xs.length 2 then
 (AV.dV (xs.getD 0 .u)).bind fun s0=>
 (AV.dV (xs.getD 1 .u)).bind fun s1=>
 (k54 [(.s s0),(.s s1)] h).bind fun r2=>
 (AV.aV r2.1).bind fun b3=>
 (bif b3 then
 (bif (((decide ((0:Int) ≤ (s1.length:Int))) && (decide ((s1.length:Int) ≤ (s0.length:Int)))) && (decide ((s0.length:Int) ≤ (s0.length:Int)))) then
 some ((.s ((s0.drop (s1.length:Int).toNat).take ((s0.length:Int).toNat - (s1.length:Int).toNat))),r2.2)
 else none)
 else some ((.s s0),r2.2))
 else none
def gm:Sm O:=fh cy
theorem sb:aa Tryz.prog 149:=Tryz.call149
theorem sd (k54:Sm O):run (O:=O) Tryz.prog [(54,k54)] Tryz.f149 (.n .z (.n (.n .z (.n .z .z)) .z))=fh k54:=by kernel_rfl
theorem qc:ae RO Tryz.prog 149 gm:=bt (sd _) (af jD ik <| aA) Tryz.func149 (by kernel_rfl)
def iP (aeG:Sm O):Sm O:=fun xs h=>
 bif Nat.beq xs.length 2 then
 (AV.dV (xs.getD 0 .u)).bind fun s0=>
 (AV.dV (xs.getD 1 .u)).bind fun s1=>
 (aeG [(.s s0),(.s s1)] h).bind fun r2=>
 (AV.dV r2.1).bind fun s3=>
 some ((.s s3),r2.2)
 else none
def eA:Sm O:=iP gm
theorem mm:aa Tryz.prog 106:=Tryz.call106
theorem yE (aeG:Sm O):run (O:=O) Tryz.prog [(149,aeG)] Tryz.f106 (.n .z .z)=iP aeG:=by kernel_rfl
theorem j6:ae RO Tryz.prog 106 eA:=bt (yE _) (af sb qc <| aA) Tryz.func106 (by kernel_rfl)
def du (s2:List UInt8):List AV × AH O → Option ((List AV × AH O) ⊕ ((List AV × AH O) ⊕ (AV × AH O))):=(fun dw=>
 (AV.ag .i64 (dw.1.getD 0 .u)).bind fun dZ=>
 (bif (decide (dZ<(s2.length:Int))) then
 (bif (decide ((0:Int) ≤ dZ)) then
 (s2[dZ.toNat]?).bind fun y12=>
 ((bif ((decide ((y12.toNat:Int)<48)) == false) then
 (bif (decide ((0:Int) ≤ dZ)) then
 (s2[dZ.toNat]?).bind fun y13=>
 some ([(.b (decide ((y13.toNat:Int) > 57)))],dw.2)
 else none)
 else some ([(.b true)],dw.2)):Option (List AV × AH O)).bind fun r14=>
 (AV.aV (r14.1.getD 0 .u)).bind fun XM=>
 (bif XM then
 ((some ((.b false),r14.2):Option (AV × AH O)).map fun r=>Sum.inr (Sum.inr r))
 else some (Sum.inl ([(.i .i64 (IntKind.i64.wrap (dZ+1)))],r14.2)))
 else none)
 else some (Sum.inr (Sum.inl ([],dw.2)))))
def qd (Rn:Sm O):Sm O:=fun xs h=>
 bif Nat.beq xs.length 1 then
 (AV.dV (xs.getD 0 .u)).bind fun s0=>
 (Rn [(.s s0),(.s ([45]:List UInt8))] h).bind fun r1=>
 (AV.dV r1.1).bind fun s2=>
 ((bif ((s2 == ([]:List UInt8)) == false) then
 (s2[0]?).bind fun y3=>
 ((bif ((((y3.toNat:Int):Int) == 48) == true) then
 ((bif ((decide ((s2.length:Int) > 1)) == false) then
 some ([(.b (decide ((s0.length:Int) > 1)))],r1.2)
 else some ([(.b true)],r1.2)):Option (List AV × AH O)).bind fun r4=>
 (AV.aV (r4.1.getD 0 .u)).bind fun b5=>
 some ([(.b b5)],r4.2)
 else some ([(.b false)],r1.2)):Option (List AV × AH O)).bind fun r6=>
 (AV.aV (r6.1.getD 0 .u)).bind fun b7=>
 some ([(.b b7)],r6.2)
 else some ([(.b true)],r1.2)):Option (List AV × AH O)).bind fun r8=>
 (AV.aV (r8.1.getD 0 .u)).bind fun b9=>
 (bif b9 then
 some ((.b false),r8.2)
 else bK (S:=List AV × AH O) (R:=(AV × AH O)) (aQ (S:=List AV × AH O) (T:=(List AV × AH O) ⊕ (AV × AH O)) (du s2) ([(.i .i64 0)],r8.2)) fun rn=>
 some ((.b true),rn.2))
 else none
def oI:Sm O:=qd eA
theorem G6:aa Tryz.prog 105:=Tryz.call105
theorem G7 (Rn:Sm O):run (O:=O) Tryz.prog [(106,Rn)] Tryz.f105 (.n .z (.n .z (.n (.n (.g [(2,13,[(23,.one .b)]),(6,8,[(22,.one .b)]),(10,3,[(21,.one .b)])]) (.n .z .z)) (.n (.n .z (.n (.lp true 0 [(26,.one (.i .i64))] [] (.n .z (.n .z (.n (.n (.n .z (.n (.g [(4,4,[(38,.one .b)])]) (.n .z .z))) .z) .z)))) .z)) .z))))=qd Rn:=by kernel_rfl
theorem DM:ae RO Tryz.prog 105 oI:=bt (G7 _) (af mm j6 <| aA) Tryz.func105 (by kernel_rfl)
def iQ (s5:List UInt8):List AV × AH O → Option ((List AV × AH O) ⊕ ((List AV × AH O) ⊕ (AV × AH O))):=(fun r6=>
 (AV.ag .i64 (r6.1.getD 0 .u)).bind fun n7=>
 (AV.ag .i64 (r6.1.getD 1 .u)).bind fun n8=>
 (bif (decide (n8<(s5.length:Int))) then
 (bif ((decide ((0:Int) ≤ n8)) && (decide (n8<(s5.length:Int)))) then
 (r6.2.ld (.f (s5.map fun c=>.i .u8 c.toNat)) (0+(n8.toNat*1))).bind fun w9=>
 (AV.ag .u8 w9).bind fun cQ=>
 let v11:Int:=(IntKind.i64.wrap ((-9223372036854775808)+(IntKind.i64.wrap (IntKind.u8.wrap (cQ - 48)))))
 let c12:Bool:=(decide (n7<(IntKind.i64.wrap (Int.tdiv v11 10))))
 (bif c12 then
 ((some ((.aS [(.i .i64 0),(.i .i64 2)]),r6.2):Option (AV × AH O)).map fun r=>Sum.inr (Sum.inr r))
 else let v13:Int:=(IntKind.i64.wrap ((IntKind.i64.wrap (n7*10)) - (IntKind.i64.wrap (IntKind.u8.wrap (cQ - 48)))))
 some (Sum.inl ([(.i .i64 v13),(.i .i64 (IntKind.i64.wrap (n8+1)))],r6.2)))
 else none)
 else some (Sum.inr (Sum.inl ([(.i .i64 n7)],r6.2)))))
def vm (aeH Rn:Sm O):Sm O:=fun xs h=>
 bif Nat.beq xs.length 1 then
 (AV.dV (xs.getD 0 .u)).bind fun s0=>
 (aeH [(.s s0)] h).bind fun r1=>
 (AV.aV r1.1).bind fun b2=>
 (bif (!b2) then
 some ((.aS [(.i .i64 0),(.i .i64 5)]),r1.2)
 else (s0[0]?).bind fun y3=>
 (Rn [(.s s0),(.s ([45]:List UInt8))] r1.2).bind fun r4=>
 (AV.dV r4.1).bind fun s5=>
 (bif (Nat.ble (s5.length*2) 35184372088832) then
 bK (S:=List AV × AH O) (R:=(AV × AH O)) (aQ (S:=List AV × AH O) (T:=(List AV × AH O) ⊕ (AV × AH O)) (iQ s5) ([(.i .i64 0),(.i .i64 0)],r4.2)) fun r14=>
 (AV.ag .i64 (r14.1.getD 0 .u)).bind fun gd=>
 (bif (((y3.toNat:Int):Int) == 45) then
 some ((.aS [(.i .i64 gd),(.i .i64 0)]),r14.2)
 else (bif ((gd:Int) == (-9223372036854775808)) then
 some ((.aS [(.i .i64 0),(.i .i64 2)]),r14.2)
 else some ((.aS [(.i .i64 (IntKind.i64.wrap (0 - gd))),(.i .i64 0)]),r14.2)))
 else none))
 else none
def ed:Sm O:=vm oI eA
theorem KM:aa Tryz.prog 76:=Tryz.call76
theorem KN (aeH Rn:Sm O):run (O:=O) Tryz.prog [(105,aeH),(106,Rn)] Tryz.f76 (.n .z (.n (.n .z (.n .z .z)) (.n .z (.n .z (.n (.n .z (.n (.lp true 0 [(5,.one (.i .i64)),(19,.one (.i .i64))] [(5,.one (.i .i64))] (.n .z (.n .z (.n (.n (.n .z (.n .z (.n (.n .z (.n .z .z)) .z))) .z) .z)))) .z)) (.n (.n .z (.n .z .z)) (.n (.n .z (.n .z .z)) .z)))))))=vm aeH Rn:=by kernel_rfl
theorem G8:ae RO Tryz.prog 76 ed:=bt (KN _ _) (af G6 DM <| af mm j6 <| aA) Tryz.func76 (by kernel_rfl)
def ru (l0:SA × Nat) (k76:Sm O):List AV × AH O → Option ((List AV × AH O) ⊕ ((List AV × AH O) ⊕ (AV × AH O))):=(fun r1=>
 (AV.aG (r1.1.getD 0 .u)).bind fun l2=>
 (AV.ag .i64 (r1.1.getD 1 .u)).bind fun n3=>
 (bif (decide (n3<(l0.2:Int))) then
 (bif ((decide ((0:Int) ≤ n3)) && (decide (n3<(l0.2:Int)))) then
 (SA.ref l0.1).bind fun q4=>
 (r1.2.ld q4.1 (q4.2+(n3.toNat*1))).bind fun w5=>
 (AV.dV w5).bind fun s6=>
 (k76 [(.s s6)] r1.2).bind fun r7=>
 (AV.aE 2 r7.1).bind fun c8=>
 kG c8 0 fun n9=>
 kG c8 1 fun cQ=>
 (bif ((cQ:Int) != 0) then
 ((some ((.aS [(.sl .nil 0),(.b false)]),r7.2):Option (AV × AH O)).map fun r=>Sum.inr (Sum.inr r))
 else let iM:=r7.2.bump 2
 let G9:=iM.put r7.2.next (.cells true 3 [(.i .i64 n9)])
 (G9.bC (.loc (.n r7.2.next) 0 1) 1 1).bind fun Uf=>
 (bif (Nat.ble ((l2.2+1)*9) 35184372088832) then
 (G9.bP (r7.2.next+1) 3 1 l2.1 l2.2 1 Uf).bind fun r14=>
 (AV.aG r14.1).bind fun Rh=>
 some (Sum.inl ([(.sl Rh.1 Rh.2),(.i .i64 (IntKind.i64.wrap (n3+1)))],r14.2))
 else none))
 else none)
 else some (Sum.inr (Sum.inl ([(.sl l2.1 l2.2)],r1.2)))))
def iS (k76:Sm O):Sm O:=fun xs h=>
 bif Nat.beq xs.length 1 then
 kH xs 0 fun l0=>
 bK (S:=List AV × AH O) (R:=(AV × AH O)) (aQ (S:=List AV × AH O) (T:=(List AV × AH O) ⊕ (AV × AH O)) (ru l0 k76) ([(.sl .nil 0),(.i .i64 0)],h)) fun rn=>
 (AV.aG (rn.1.getD 0 .u)).bind fun P9=>
 some ((.aS [(.sl P9.1 P9.2),(.b true)]),rn.2)
 else none
def fP:Sm O:=yh (iS ed)
theorem EA:aa Tryz.prog 55:=Tryz.call55
theorem OB (k76:Sm O):run (O:=O) Tryz.prog [(76,k76)] Tryz.f55 (.n .z (.n .z (.n (.n .z (.n (.lp true 0 [(4,.one .sl),(11,.one (.i .i64))] [(4,.one .sl)] (.n .z (.n .z (.n (.n (.n .z (.n .z (.n (.n .z (.n .z .z)) .z))) .z) .z)))) .z)) .z)))=iS k76:=by kernel_rfl
theorem zJ:ae RO Tryz.prog 55 (fP):=
   have h:ae RO Tryz.prog 55 (iS ed):=(OB ed)▸aU (af KM (G8) <| aA) mixed Tryz.func55 (by kernel_rfl) _
   h.yh
def jP (aeI:Sm O):Sm O:=fun xs h=>
 bif Nat.beq xs.length 2 then
 (AV.dV (xs.getD 0 .u)).bind fun s0=>
 (AV.ag .u8 (xs.getD 1 .u)).bind fun n1=>
 (aeI [(.s s0),(.i .u8 n1)] h).bind fun r2=>
 (AV.ag .i64 r2.1).bind fun n3=>
 some ((.i .i64 n3),r2.2)
 else none
def il:Sm O:=jP stringslite_IndexByte
theorem Al:aa Tryz.prog 107:=Tryz.call107
theorem Am (aeI:Sm O):run (O:=O) Tryz.prog [(145,aeI)] Tryz.f107 (.n .z .z)=jP aeI:=by kernel_rfl
theorem wU:ae RO Tryz.prog 107 il:=bt (Am _) (af tt rm <| aA) Tryz.func107 (by kernel_rfl)
def ir (s0:List UInt8) (Zu:Sm O):List AV × AH O → Option ((List AV × AH O) ⊕ ((List AV × AH O) ⊕ (AV × AH O))):=(fun r1=>
 (AV.ag .u64 (r1.1.getD 0 .u)).bind fun n2=>
 (AV.ag .i64 (r1.1.getD 1 .u)).bind fun n3=>
 (bif (decide (n3<(s0.length:Int))) then
 (bif (decide ((0:Int) ≤ n3)) then
 (s0[n3.toNat]?).bind fun y4=>
 (Zu [(.s ([48,49,50,51,52,53,54,55,56,57,97,98,99,100,101,102]:List UInt8)),(.i .u8 (y4.toNat:Int))] r1.2).bind fun r5=>
 (AV.ag .i64 r5.1).bind fun n6=>
 (bif (decide (n6<0)) then
 ((some ((.aS [(.i .u64 0),(.i .i64 5)]),r5.2):Option (AV × AH O)).map fun r=>Sum.inr (Sum.inr r))
 else let v7:Int:=(bE .or .u64 (IntKind.u64.wrap (n2*2 ^ 4)) (IntKind.u64.wrap n6))
 some (Sum.inl ([(.i .u64 v7),(.i .i64 (IntKind.i64.wrap (n3+1)))],r5.2)))
 else none)
 else some (Sum.inr (Sum.inl ([(.i .u64 n2)],r1.2)))))
def jq (Zu:Sm O):Sm O:=fun xs h=>
 bif Nat.beq xs.length 1 then
 (AV.dV (xs.getD 0 .u)).bind fun s0=>
 (bif (((s0.length:Int):Int) != 16) then
 some ((.aS [(.i .u64 0),(.i .i64 5)]),h)
 else bK (S:=List AV × AH O) (R:=(AV × AH O)) (aQ (S:=List AV × AH O) (T:=(List AV × AH O) ⊕ (AV × AH O)) (ir s0 Zu) ([(.i .u64 0),(.i .i64 0)],h)) fun r8=>
 (AV.ag .u64 (r8.1.getD 0 .u)).bind fun n9=>
 some ((.aS [(.i .u64 n9),(.i .i64 0)]),r8.2))
 else none
def ck:Sm O:=jq il
theorem FF:aa Tryz.prog 77:=Tryz.call77
theorem FG (Zu:Sm O):run (O:=O) Tryz.prog [(107,Zu)] Tryz.f77 (.n .z (.n (.n .z (.n .z .z)) (.n .z (.n (.n .z (.n (.lp true 0 [(4,.one (.i .u64)),(12,.one (.i .i64))] [(4,.one (.i .u64))] (.n .z (.n .z (.n (.n (.n .z (.n .z (.n (.n .z (.n .z .z)) .z))) .z) .z)))) .z)) .z))))=jq Zu:=by kernel_rfl
theorem Cb:ae RO Tryz.prog 77 ck:=bt (FG _) (af Al wU <| aA) Tryz.func77 (by kernel_rfl)
def oJ (l0:SA × Nat) (k77:Sm O):List AV × AH O → Option ((List AV × AH O) ⊕ ((List AV × AH O) ⊕ (AV × AH O))):=(fun r1=>
 (AV.aG (r1.1.getD 0 .u)).bind fun l2=>
 (AV.ag .i64 (r1.1.getD 1 .u)).bind fun n3=>
 (bif (decide (n3<(l0.2:Int))) then
 (bif ((decide ((0:Int) ≤ n3)) && (decide (n3<(l0.2:Int)))) then
 (SA.ref l0.1).bind fun q4=>
 (r1.2.ld q4.1 (q4.2+(n3.toNat*1))).bind fun w5=>
 (AV.dV w5).bind fun s6=>
 (k77 [(.s s6)] r1.2).bind fun r7=>
 (AV.aE 2 r7.1).bind fun c8=>
 Vk c8 0 fun n9=>
 kG c8 1 fun cQ=>
 (bif ((cQ:Int) != 0) then
 ((some ((.aS [(.sl .nil 0),(.b false)]),r7.2):Option (AV × AH O)).map fun r=>Sum.inr (Sum.inr r))
 else let iM:=r7.2.bump 2
 let G9:=iM.put r7.2.next (.cells true 63 [(.i .u64 n9)])
 (G9.bC (.loc (.n r7.2.next) 0 1) 1 1).bind fun Uf=>
 (bif (Nat.ble ((l2.2+1)*9) 35184372088832) then
 (G9.bP (r7.2.next+1) 63 1 l2.1 l2.2 1 Uf).bind fun r14=>
 (AV.aG r14.1).bind fun Rh=>
 some (Sum.inl ([(.sl Rh.1 Rh.2),(.i .i64 (IntKind.i64.wrap (n3+1)))],r14.2))
 else none))
 else none)
 else some (Sum.inr (Sum.inl ([(.sl l2.1 l2.2)],r1.2)))))
def gn (k77:Sm O):Sm O:=fun xs h=>
 bif Nat.beq xs.length 1 then
 kH xs 0 fun l0=>
 bK (S:=List AV × AH O) (R:=(AV × AH O)) (aQ (S:=List AV × AH O) (T:=(List AV × AH O) ⊕ (AV × AH O)) (oJ l0 k77) ([(.sl .nil 0),(.i .i64 0)],h)) fun rn=>
 (AV.aG (rn.1.getD 0 .u)).bind fun P9=>
 some ((.aS [(.sl P9.1 P9.2),(.b true)]),rn.2)
 else none
def kR:Sm O:=yh (gn ck)
theorem MZ:aa Tryz.prog 56:=Tryz.call56
theorem M0 (k77:Sm O):run (O:=O) Tryz.prog [(77,k77)] Tryz.f56 (.n .z (.n .z (.n (.n .z (.n (.lp true 0 [(4,.one .sl),(11,.one (.i .i64))] [(4,.one .sl)] (.n .z (.n .z (.n (.n (.n .z (.n .z (.n (.n .z (.n .z .z)) .z))) .z) .z)))) .z)) .z)))=gn k77:=by kernel_rfl
theorem IU:ae RO Tryz.prog 56 (kR):=
   have h:ae RO Tryz.prog 56 (gn ck):=(M0 ck)▸aU (af FF (Cb) <| aA) mixed Tryz.func56 (by kernel_rfl) _
   h.yh
def eV (l0:SA × Nat):List AV × AH O → Option ((List AV × AH O) ⊕ (List AV × AH O)):=(fun r3=>
 (AV.ag .i64 (r3.1.getD 0 .u)).bind fun n4=>
 (AV.ag .i64 (r3.1.getD 1 .u)).bind fun n5=>
 (bif (decide (n5<(l0.2:Int))) then
 (bif ((decide ((0:Int) ≤ n5)) && (decide (n5<(l0.2:Int)))) then
 (SA.ref l0.1).bind fun q6=>
 (r3.2.ld q6.1 (q6.2+(n5.toNat*1))).bind fun w7=>
 (AV.dV w7).bind fun s8=>
 (bif (s8 == ([58]:List UInt8)) then
 some (Sum.inr ([(.i .i64 n5)],r3.2))
 else some (Sum.inl ([(.i .i64 n4),(.i .i64 (IntKind.i64.wrap (n5+1)))],r3.2)))
 else none)
 else some (Sum.inr ([(.i .i64 n4)],r3.2))))
def fQ (k55 k56:Sm O):Sm O:=fun xs h=>
 bif Nat.beq xs.length 1 then
 kH xs 0 fun l0=>
 let h1:=h.bump 1
 let h2:=h1.put h.next (.cells true 50 [(.i .i64 0),(.i .i64 0),(.i .i64 0),(.i .i64 0),(.b false),(.sl .nil 0),(.sl .nil 0)])
 (aQ (S:=List AV × AH O) (T:=List AV × AH O) (eV l0) ([(.i .i64 (-1)),(.i .i64 0)],h2)).bind fun r9=>
 (AV.ag .i64 (r9.1.getD 0 .u)).bind fun cQ=>
 ((bif ((decide (cQ<4)) == false) then
 (bif (decide ((0:Int)<(l0.2:Int))) then
 (SA.ref l0.1).bind fun Gm=>
 (r9.2.ld Gm.1 Gm.2).bind fun tw=>
 (AV.dV tw).bind fun s13=>
 some ([(.b (!(s13 == ([110,111,100,101]:List UInt8))))],r9.2)
 else none)
 else some ([(.b true)],r9.2)):Option (List AV × AH O)).bind fun r14=>
 (AV.aV (r14.1.getD 0 .u)).bind fun XM=>
 ((bif (XM == false) then
 (bif (decide ((1:Int)<(l0.2:Int))) then
 (SA.ref l0.1).bind fun Ug=>
 (r14.2.ld Ug.1 (Ug.2+1)).bind fun vk=>
 (AV.dV vk).bind fun s18=>
 let Ro:Bool:=(!(s18 == ([108,97,114,103,101]:List UInt8)))
 ((bif (Ro == true) then
 (bif (decide ((1:Int)<(l0.2:Int))) then
 (SA.ref l0.1).bind fun q20=>
 (r14.2.ld q20.1 (q20.2+1)).bind fun yF=>
 (AV.dV yF).bind fun s22=>
 let Qa:Bool:=(!(s22 == ([115,109,97,108,108]:List UInt8)))
 some ([(.b Qa)],r14.2)
 else none)
 else some ([(.b false)],r14.2)):Option (List AV × AH O)).bind fun tq=>
 (AV.aV (tq.1.getD 0 .u)).bind fun b25=>
 some ([(.b b25)],tq.2)
 else none)
 else some ([(.b true)],r14.2)):Option (List AV × AH O)).bind fun Ll=>
 (AV.aV (Ll.1.getD 0 .u)).bind fun b27=>
 (bif b27 then
 (Ll.2.st (.n h.next) 0 [(.i .i64 0),(.i .i64 0),(.i .i64 0),(.i .i64 0),(.b false),(.sl .nil 0),(.sl .nil 0)]).bind fun H4=>
 bI H4 (.n h.next) 0 fun ot=>
 bI H4 (.n h.next) 1 fun lJ=>
 bI H4 (.n h.next) 2 fun wg=>
 bI H4 (.n h.next) 3 fun GU=>
 (H4.ld (.n h.next) 4).bind fun M1=>
 (AV.aV M1).bind fun b38=>
 cJ H4 (.n h.next) 5 fun P8=>
 cJ H4 (.n h.next) 6 fun l42=>
 some ((.aS [(.agg [(.i .i64 ot),(.i .i64 lJ),(.i .i64 wg),(.i .i64 GU),(.b b38),(.sl P8.1 P8.2),(.sl l42.1 l42.2)]),(.b false)]),H4)
 else (bif ((decide ((2:Int) ≤ cQ)) && (decide (cQ ≤ (l0.2:Int)))) then
 (SA.DD l0.1 2 1).bind fun a43=>
 (k55 [(.sl a43 (cQ.toNat - 2))] Ll.2).bind fun Ua=>
 (AV.aE 2 Ua.1).bind fun c45=>
 kH c45 0 fun l46=>
 (AV.aV (c45.getD 1 .u)).bind fun b47=>
 (bif (((decide ((0:Int) ≤ (IntKind.i64.wrap (cQ+1)))) && (decide ((IntKind.i64.wrap (cQ+1)) ≤ (l0.2:Int)))) && (decide ((l0.2:Int) ≤ (l0.2:Int)))) then
 (SA.DD l0.1 (IntKind.i64.wrap (cQ+1)).toNat 1).bind fun a48=>
 (k56 [(.sl a48 ((l0.2:Int).toNat - (IntKind.i64.wrap (cQ+1)).toNat))] Ua.2).bind fun r49=>
 (AV.aE 2 r49.1).bind fun c50=>
 kH c50 0 fun l51=>
 (AV.aV (c50.getD 1 .u)).bind fun b52=>
 ((bif ((!b47) == false) then
 some ([(.b (!b52))],r49.2)
 else some ([(.b true)],r49.2)):Option (List AV × AH O)).bind fun JV=>
 (AV.aV (JV.1.getD 0 .u)).bind fun b54=>
 (bif b54 then
 (JV.2.st (.n h.next) 0 [(.i .i64 0),(.i .i64 0),(.i .i64 0),(.i .i64 0),(.b false),(.sl .nil 0),(.sl .nil 0)]).bind fun Zt=>
 bI Zt (.n h.next) 0 fun n57=>
 bI Zt (.n h.next) 1 fun Zv=>
 bI Zt (.n h.next) 2 fun n61=>
 bI Zt (.n h.next) 3 fun n63=>
 (Zt.ld (.n h.next) 4).bind fun w64=>
 (AV.aV w64).bind fun b65=>
 cJ Zt (.n h.next) 5 fun l67=>
 cJ Zt (.n h.next) 6 fun l69=>
 some ((.aS [(.agg [(.i .i64 n57),(.i .i64 Zv),(.i .i64 n61),(.i .i64 n63),(.b b65),(.sl l67.1 l67.2),(.sl l69.1 l69.2)]),(.b false)]),Zt)
 else let h70:=JV.2.bump 1
 (bif ((decide ((2:Int) ≤ (l46.2:Int))) && (decide ((l46.2:Int) ≤ (l46.2:Int)))) then
 (SA.DD l46.1 2 1).bind fun a71=>
 let h72:=h70.put JV.2.next (.cells true 50 [(.i .i64 0),(.i .i64 0),(.i .i64 0),(.i .i64 0),(.b false),(.sl .nil 0),(.sl .nil 0)])
 (h72.st (.n JV.2.next) 0 [(.i .i64 0),(.i .i64 0),(.i .i64 0),(.i .i64 0),(.b false),(.sl a71 ((l46.2:Int).toNat - 2)),(.sl l51.1 l51.2)]).bind fun h73=>
 cJ h73 (.n JV.2.next) 5 fun l75=>
 (bif (decide ((0:Int)<(l46.2:Int))) then
 (SA.ref l46.1).bind fun q76=>
 bI h73 q76.1 q76.2 fun n78=>
 (bif (decide ((1:Int)<(l46.2:Int))) then
 (SA.ref l46.1).bind fun q79=>
 bI h73 q79.1 (q79.2+1) fun n81=>
 (bif (decide ((1:Int)<(l0.2:Int))) then
 (SA.ref l0.1).bind fun q82=>
 (h73.ld q82.1 (q82.2+1)).bind fun w83=>
 (AV.dV w83).bind fun s84=>
 (h73.st (.n JV.2.next) 0 [(.i .i64 (l75.2:Int)),(.i .i64 (l51.2:Int)),(.i .i64 n78),(.i .i64 n81),(.b (s84 == ([108,97,114,103,101]:List UInt8)))]).bind fun h85=>
 bI h85 (.n JV.2.next) 0 fun n87=>
 bI h85 (.n JV.2.next) 1 fun n89=>
 bI h85 (.n JV.2.next) 2 fun n91=>
 bI h85 (.n JV.2.next) 3 fun n93=>
 (h85.ld (.n JV.2.next) 4).bind fun w94=>
 (AV.aV w94).bind fun b95=>
 cJ h85 (.n JV.2.next) 5 fun l97=>
 cJ h85 (.n JV.2.next) 6 fun l99=>
 (h85.st (.n h.next) 0 [(.i .i64 n87),(.i .i64 n89),(.i .i64 n91),(.i .i64 n93),(.b b95),(.sl l97.1 l97.2),(.sl l99.1 l99.2)]).bind fun Uh=>
 bI Uh (.n h.next) 0 fun n102=>
 bI Uh (.n h.next) 1 fun n104=>
 bI Uh (.n h.next) 2 fun n106=>
 bI Uh (.n h.next) 3 fun n108=>
 (Uh.ld (.n h.next) 4).bind fun aqV=>
 (AV.aV aqV).bind fun aqW=>
 cJ Uh (.n h.next) 5 fun abT=>
 cJ Uh (.n h.next) 6 fun abU=>
 some ((.aS [(.agg [(.i .i64 n102),(.i .i64 n104),(.i .i64 n106),(.i .i64 n108),(.b aqW),(.sl abT.1 abT.2),(.sl abU.1 abU.2)]),(.b true)]),Uh)
 else none)
 else none)
 else none)
 else none))
 else none)
 else none))
 else none
def dB:Sm O:=yh (fQ fP kR)
theorem FH:aa Tryz.prog 28:=Tryz.call28
theorem FI (k55 k56:Sm O):run (O:=O) Tryz.prog [(55,k55),(56,k56)] Tryz.f28 (.n .z (.n (.n .z (.n .z (.n (.n .z (.n (.lp false 0 [(4,.one (.i .i64)),(14,.one (.i .i64))] [(4,.one (.i .i64))] (.n .z (.n .z (.n (.n (.n .z (.n .z (.n (.n .z (.n .z .z)) .z))) .z) .z)))) .z)) (.n (.n (.g [(2,4,[(31,.one .b)]),(8,10,[(43,.one .b)]),(13,4,[(42,.one .b)])]) (.n .z .z)) (.n .z (.n .z (.n (.n (.g [(2,2,[(65,.one .b)])]) (.n .z .z)) (.n .z (.n (.d [] [0,1,2,3,4,5,6,7,8,9,10,11,12,13,14,15,16,17,18] [0,1,3,0,8,31,0,64,192,0,512,1536,0,4096,12288,28672,65535,131071,262143]) .z))))))))) .z))=fQ k55 k56:=by kernel_rfl
theorem Cc:ae RO Tryz.prog 28 (dB):=
   have h:ae RO Tryz.prog 28 (fQ fP kR):=(FI fP kR)▸aU (af EA (zJ) <| af MZ (IU) <| aA) mixed Tryz.func28 (by kernel_rfl) _
   h.yh
def dM (Z' k55:Sm O):Sm O:=fun xs h=>
 bif Nat.beq xs.length 2 then
 (AV.dV (xs.getD 0 .u)).bind fun s0=>
 (AV.dV (xs.getD 1 .u)).bind fun s1=>
 (Z' [(.s s0),(.s ([32]:List UInt8))] h).bind fun r2=>
 (AV.aG r2.1).bind fun l3=>
 (bif (decide ((0:Int)<(l3.2:Int))) then
 (SA.ref l3.1).bind fun q4=>
 (r2.2.ld q4.1 q4.2).bind fun w5=>
 (AV.dV w5).bind fun s6=>
 (bif (!(s6 == s1)) then
 some ((.aS [(.sl .nil 0),(.b false)]),r2.2)
 else (bif ((decide ((1:Int) ≤ (l3.2:Int))) && (decide ((l3.2:Int) ≤ (l3.2:Int)))) then
 (SA.DD l3.1 1 1).bind fun a7=>
 (k55 [(.sl a7 ((l3.2:Int).toNat - 1))] r2.2).bind fun r8=>
 (AV.aE 2 r8.1).bind fun c9=>
 kH c9 0 fun l10=>
 (AV.aV (c9.getD 1 .u)).bind fun WA=>
 some ((.aS [(.sl l10.1 l10.2),(.b WA)]),r8.2)
 else none))
 else none)
 else none
def bM:Sm O:=yh (dM strings_Split fP)
theorem An:aa Tryz.prog 29:=Tryz.call29
theorem Ao (Z' k55:Sm O):run (O:=O) Tryz.prog [(26,Z'),(55,k55)] Tryz.f29 (.n .z (.n .z (.n (.n .z (.n .z .z)) .z)))=dM Z' k55:=by kernel_rfl
theorem wV:ae RO Tryz.prog 29 (bM):=
   have h:ae RO Tryz.prog 29 (dM strings_Split fP):=(Ao strings_Split fP)▸aU (af tU (qn) <| af EA (zJ) <| aA) mixed Tryz.func29 (by kernel_rfl) _
   h.yh
def mn (r64:List AV × AH O) (l4:SA × Nat) (h:AH O) (k29:Sm O) (r3:AV × AH O):List AV × AH O → Option ((List AV × AH O) ⊕ ((List AV × AH O) ⊕ (AV × AH O))):=(fun r68=>
 (AV.ag .i64 (r68.1.getD 0 .u)).bind fun Rp=>
 (AV.ag .i64 (r68.1.getD 1 .u)).bind fun n70=>
 (bif (decide (n70<2)) then
 (bif ((decide ((0:Int) ≤ n70)) && (decide (n70<2))) then
 (r68.2.ld (.n r64.2.next) (0+(n70.toNat*1))).bind fun w71=>
 (AV.dV w71).bind fun s72=>
 (bif (decide (Rp ≥ (l4.2:Int))) then
 (r68.2.st (.n h.next) 0 [(.sl .nil 0),(.sl .nil 0),(.sl .nil 0)]).bind fun h73=>
 (((h73.ld (.n h.next) 0).bind fun w74=>
 (AV.aG w74).bind fun l75=>
 cJ h73 (.n h.next) 1 fun l77=>
 cJ h73 (.n h.next) 2 fun l79=>
 some ((.aS [(.agg [(.sl l75.1 l75.2),(.sl l77.1 l77.2),(.sl l79.1 l79.2)]),(.i .i64 (IntKind.i64.wrap (Rp+1))),(.i .i64 61)]),h73):Option (AV × AH O)).map fun r=>Sum.inr (Sum.inr r))
 else (bif ((decide ((0:Int) ≤ Rp)) && (decide (Rp<(l4.2:Int)))) then
 (SA.ref l4.1).bind fun q80=>
 (r68.2.ld q80.1 (q80.2+(Rp.toNat*1))).bind fun w81=>
 (AV.dV w81).bind fun s82=>
 (k29 [(.s s82),(.s s72)] r68.2).bind fun r83=>
 (AV.aE 2 r83.1).bind fun c84=>
 kH c84 0 fun Z9=>
 (AV.aV (c84.getD 1 .u)).bind fun b86=>
 (bif (!b86) then
 (r83.2.st (.n h.next) 0 [(.sl .nil 0),(.sl .nil 0),(.sl .nil 0)]).bind fun Zw=>
 (((Zw.ld (.n h.next) 0).bind fun w88=>
 (AV.aG w88).bind fun l89=>
 cJ Zw (.n h.next) 1 fun l91=>
 cJ Zw (.n h.next) 2 fun l93=>
 some ((.aS [(.agg [(.sl l89.1 l89.2),(.sl l91.1 l91.2),(.sl l93.1 l93.2)]),(.i .i64 (IntKind.i64.wrap (Rp+1))),(.i .i64 61)]),Zw):Option (AV × AH O)).map fun r=>Sum.inr (Sum.inr r))
 else let c94:Bool:=(s72 == ([114,111,111,116,115]:List UInt8))
 ((bif c94 then
 (r83.2.st (.n r3.2.next) 1 [(.sl Z9.1 Z9.2)]).bind fun h95=>
 some ([],h95)
 else (r83.2.st (.n r3.2.next) 2 [(.sl Z9.1 Z9.2)]).bind fun h96=>
 some ([],h96)):Option (List AV × AH O)).bind fun r97=>
 some (Sum.inl ([(.i .i64 (IntKind.i64.wrap (Rp+1))),(.i .i64 (IntKind.i64.wrap (n70+1)))],r97.2)))
 else none))
 else none)
 else some (Sum.inr (Sum.inl ([(.i .i64 Rp)],r68.2)))))
def Cd (l4:SA × Nat) (k27:Sm O) (Z':Sm O) (k28:Sm O) (h:AH O) (r3:AV × AH O):List AV × AH O → Option ((List AV × AH O) ⊕ ((List AV × AH O) ⊕ (AV × AH O))):=(fun r7=>
 (AV.ag .i64 (r7.1.getD 0 .u)).bind fun n8=>
 ((bif ((decide (n8<(l4.2:Int))) == true) then
 (bif ((decide ((0:Int) ≤ n8)) && (decide (n8<(l4.2:Int)))) then
 (SA.ref l4.1).bind fun q9=>
 (r7.2.ld q9.1 (q9.2+(n8.toNat*1))).bind fun wP=>
 (AV.dV wP).bind fun s11=>
 (k27 [(.s s11),(.s ([110,111,100,101]:List UInt8))] r7.2).bind fun fa=>
 (AV.aV fa.1).bind fun Zs=>
 some ([(.b Zs)],fa.2)
 else none)
 else some ([(.b false)],r7.2)):Option (List AV × AH O)).bind fun r14=>
 (AV.aV (r14.1.getD 0 .u)).bind fun XM=>
 (bif XM then
 let zI:=r14.2.bump 1
 (bif ((decide ((0:Int) ≤ n8)) && (decide (n8<(l4.2:Int)))) then
 (SA.ref l4.1).bind fun Lo=>
 (zI.ld Lo.1 (Lo.2+(n8.toNat*1))).bind fun Ce=>
 (AV.dV Ce).bind fun s19=>
 (Z' [(.s s19),(.s ([32]:List UInt8))] zI).bind fun kO=>
 (AV.aG kO.1).bind fun Vt=>
 (k28 [(.sl Vt.1 Vt.2)] kO.2).bind fun tY=>
 (AV.aE 2 tY.1).bind fun Qa=>
 (AV.asAgg 7 (Qa.getD 0 .u)).bind fun WK=>
 kG WK 0 fun wj=>
 kG WK 1 fun ji=>
 kG WK 2 fun Ai=>
 kG WK 3 fun jo=>
 (AV.aV (WK.getD 4 .u)).bind fun b29=>
 kH WK 5 fun l30=>
 kH WK 6 fun l31=>
 (AV.aV (Qa.getD 1 .u)).bind fun b32=>
 let h33:=tY.2.put r14.2.next (.cells true 50 [(.i .i64 0),(.i .i64 0),(.i .i64 0),(.i .i64 0),(.b false),(.sl .nil 0),(.sl .nil 0)])
 (h33.st (.n r14.2.next) 0 [(.i .i64 wj),(.i .i64 ji),(.i .i64 Ai),(.i .i64 jo),(.b b29),(.sl l30.1 l30.2),(.sl l31.1 l31.2)]).bind fun OC=>
 (bif (!b32) then
 (OC.st (.n h.next) 0 [(.sl .nil 0),(.sl .nil 0),(.sl .nil 0)]).bind fun wO=>
 (((wO.ld (.n h.next) 0).bind fun Ui=>
 (AV.aG Ui).bind fun l37=>
 cJ wO (.n h.next) 1 fun Zx=>
 cJ wO (.n h.next) 2 fun l41=>
 some ((.aS [(.agg [(.sl l37.1 l37.2),(.sl Zx.1 Zx.2),(.sl l41.1 l41.2)]),(.i .i64 (IntKind.i64.wrap (n8+1))),(.i .i64 61)]),wO):Option (AV × AH O)).map fun r=>Sum.inr (Sum.inr r))
 else let GW:=OC.bump 2
 cJ GW (.n r3.2.next) 0 fun Vp=>
 bI GW (.n r14.2.next) 0 fun Ue=>
 bI GW (.n r14.2.next) 1 fun WC=>
 bI GW (.n r14.2.next) 2 fun MG=>
 bI GW (.n r14.2.next) 3 fun Zo=>
 (GW.ld (.n r14.2.next) 4).bind fun w53=>
 (AV.aV w53).bind fun b54=>
 cJ GW (.n r14.2.next) 5 fun l56=>
 cJ GW (.n r14.2.next) 6 fun l58=>
 let h59:=GW.put OC.next (.cells true 50 [(.i .i64 Ue),(.i .i64 WC),(.i .i64 MG),(.i .i64 Zo),(.b b54),(.sl l56.1 l56.2),(.sl l58.1 l58.2)])
 (h59.bC (.loc (.n OC.next) 0 7) 1 7).bind fun amx=>
 (bif (Nat.ble ((Vp.2+1)*89) 35184372088832) then
 (h59.bP (OC.next+1) 50 7 Vp.1 Vp.2 1 amx).bind fun yA=>
 (AV.aG yA.1).bind fun l62=>
 (yA.2.st (.n r3.2.next) 0 [(.sl l62.1 l62.2)]).bind fun QO=>
 some (Sum.inl ([(.i .i64 (IntKind.i64.wrap (n8+1)))],QO))
 else none))
 else none)
 else some (Sum.inr (Sum.inl ([(.i .i64 n8)],r14.2)))))
def j7 (Z' k27 k28 k29 k5:Sm O):Sm O:=fun xs h=>
 bif Nat.beq xs.length 1 then
 (AV.dV (xs.getD 0 .u)).bind fun s0=>
 let h1:=h.bump 1
 let h2:=h1.put h.next (.cells true 25 [(.sl .nil 0),(.sl .nil 0),(.sl .nil 0)])
 (Z' [(.s s0),(.s ([10]:List UInt8))] h2).bind fun r3=>
 (AV.aG r3.1).bind fun l4=>
 let h5:=r3.2.bump 1
 let h6:=h5.put r3.2.next (.cells true 25 [(.sl .nil 0),(.sl .nil 0),(.sl .nil 0)])
 bK (S:=List AV × AH O) (R:=(AV × AH O)) (aQ (S:=List AV × AH O) (T:=(List AV × AH O) ⊕ (AV × AH O)) (Cd l4 k27 Z' k28 h r3) ([(.i .i64 0)],h6)) fun r64=>
 (AV.ag .i64 (r64.1.getD 0 .u)).bind fun Vs=>
 let h66:=r64.2.bump 1
 let h67:=h66.put r64.2.next (.cells true 9 [(.s ([114,111,111,116,115]:List UInt8)),(.s ([119,101,97,107]:List UInt8))])
 bK (S:=List AV × AH O) (R:=(AV × AH O)) (aQ (S:=List AV × AH O) (T:=(List AV × AH O) ⊕ (AV × AH O)) (mn r64 l4 h k29 r3) ([(.i .i64 Vs),(.i .i64 0)],h67)) fun r98=>
 (AV.ag .i64 (r98.1.getD 0 .u)).bind fun n99=>
 let aq0:Bool:=((n99:Int) != (IntKind.i64.wrap ((l4.2:Int) - 1)))
 ((bif (aq0 == false) then
 (bif ((decide ((0:Int) ≤ n99)) && (decide (n99<(l4.2:Int)))) then
 (SA.ref l4.1).bind fun amy=>
 (r98.2.ld amy.1 (amy.2+(n99.toNat*1))).bind fun aiZ=>
 (AV.dV aiZ).bind fun aq1=>
 some ([(.b (!(aq1 == ([]:List UInt8))))],r98.2)
 else none)
 else some ([(.b true)],r98.2)):Option (List AV × AH O)).bind fun Rq=>
 (AV.aV (Rq.1.getD 0 .u)).bind fun ai0=>
 (bif ai0 then
 (Rq.2.st (.n h.next) 0 [(.sl .nil 0),(.sl .nil 0),(.sl .nil 0)]).bind fun aeP=>
 cJ aeP (.n h.next) 0 fun amz=>
 cJ aeP (.n h.next) 1 fun amA=>
 cJ aeP (.n h.next) 2 fun abT=>
 some ((.aS [(.agg [(.sl amz.1 amz.2),(.sl amA.1 amA.2),(.sl abT.1 abT.2)]),(.i .i64 (IntKind.i64.wrap (n99+1))),(.i .i64 61)]),aeP)
 else cJ Rq.2 (.n r3.2.next) 0 fun abU=>
 cJ Rq.2 (.n r3.2.next) 1 fun amB=>
 cJ Rq.2 (.n r3.2.next) 2 fun amC=>
 (k5 [(.agg [(.sl abU.1 abU.2),(.sl amB.1 amB.2),(.sl amC.1 amC.2)])] Rq.2).bind fun Zy=>
 (AV.aV Zy.1).bind fun aq2=>
 (bif (!aq2) then
 (Zy.2.st (.n h.next) 0 [(.sl .nil 0),(.sl .nil 0),(.sl .nil 0)]).bind fun aeQ=>
 cJ aeQ (.n h.next) 0 fun amD=>
 cJ aeQ (.n h.next) 1 fun aeR=>
 cJ aeQ (.n h.next) 2 fun aeS=>
 some ((.aS [(.agg [(.sl amD.1 amD.2),(.sl aeR.1 aeR.2),(.sl aeS.1 aeS.2)]),(.i .i64 0),(.i .i64 5)]),aeQ)
 else cJ Zy.2 (.n r3.2.next) 0 fun aeT=>
 cJ Zy.2 (.n r3.2.next) 1 fun amE=>
 cJ Zy.2 (.n r3.2.next) 2 fun amF=>
 (Zy.2.st (.n h.next) 0 [(.sl aeT.1 aeT.2),(.sl amE.1 amE.2),(.sl amF.1 amF.2)]).bind fun aeU=>
 cJ aeU (.n h.next) 0 fun amG=>
 cJ aeU (.n h.next) 1 fun amH=>
 cJ aeU (.n h.next) 2 fun amI=>
 some ((.aS [(.agg [(.sl amG.1 amG.2),(.sl amH.1 amH.2),(.sl amI.1 amI.2)]),(.i .i64 0),(.i .i64 0)]),aeU)))
 else none
def lu:Sm O:=yh (j7 strings_Split cx dB bM bq)
theorem KO:aa Tryz.prog 9:=Tryz.call9
theorem KP (Z' k27 k28 k29 k5:Sm O):run (O:=O) Tryz.prog [(26,Z'),(27,k27),(28,k28),(29,k29),(5,k5)] Tryz.f9 (.n .z (.n .z (.n .z (.n .z (.n (.n (.lp true 0 [(7,.one (.i .i64))] [(7,.one (.i .i64))] (.n (.n (.g [(4,5,[(26,.one .b)])]) .z) (.n (.n (.n .z (.n (.n .z (.n .z .z)) .z)) .z) .z))) .z) (.n (.n .z (.n (.lp true 2 [(7,.one (.i .i64)),(51,.one (.i .i64))] [(7,.one (.i .i64))] (.n .z (.n .z (.n (.n (.n .z (.n (.n .z (.n .z .z)) (.n .z (.n (.n .z (.n .z .z)) (.n (.n .z (.j false [] .z .z)) .z))))) .z) .z)))) .z)) (.n (.n (.n (.g [(5,5,[(97,.one .b)])]) (.n .z (.n .z (.n .z .z)))) .z) .z)))))))=j7 Z' k27 k28 k29 k5:=by kernel_rfl
theorem G':ae RO Tryz.prog 9 (lu):=
   have h:ae RO Tryz.prog 9 (j7 strings_Split cx dB bM bq):=(KP strings_Split cx dB bM bq)▸aU (af tU (qn) <| af Aj (wT) <| af FH (Cc) <| af An (wV) <| af gL (eU) <| aA) mixed Tryz.func9 (by kernel_rfl) _
   h.yh
def oa (k51 k57:Sm O):Sm O:=fun xs h=>
 bif Nat.beq xs.length 1 then
 kH xs 0 fun l0=>
 let c1:Bool:=(decide ((IntKind.i64.wrap ((l0.2:Int) - 8))<0))
 (bif c1 then
 some ((.aS [(.sl .nil 0),(.i .i64 6)]),h)
 else let h2:=h.bump 1
 (bif ((decide ((0:Int) ≤ (IntKind.i64.wrap ((l0.2:Int) - 8)))) && (decide ((IntKind.i64.wrap ((l0.2:Int) - 8)) ≤ (l0.2:Int)))) then
 (SA.DD l0.1 0 1).bind fun a3=>
 (bif (((decide ((0:Int) ≤ (IntKind.i64.wrap ((l0.2:Int) - 8)))) && (decide ((IntKind.i64.wrap ((l0.2:Int) - 8)) ≤ (l0.2:Int)))) && (decide ((l0.2:Int) ≤ (l0.2:Int)))) then
 (SA.DD l0.1 (IntKind.i64.wrap ((l0.2:Int) - 8)).toNat 1).bind fun a4=>
 let h5:=h2.put h.next (.cells true 29 [(.sl a3 ((IntKind.i64.wrap ((l0.2:Int) - 8)).toNat - 0))])
 (k51 [(.sl (.loc (.n h.next) 0 1) 1)] h5).bind fun r6=>
 (AV.ag .u64 r6.1).bind fun n7=>
 (k57 [(.i .u64 n7),(.sl a4 ((l0.2:Int).toNat - (IntKind.i64.wrap ((l0.2:Int) - 8)).toNat))] r6.2).bind fun r8=>
 (AV.ag .u64 r8.1).bind fun n9=>
 (bif ((n9:Int) != 0) then
 some ((.aS [(.sl .nil 0),(.i .i64 60)]),r8.2)
 else let gS:=r8.2.bump 2
 let iM:=gS.put r8.2.next (.cells true 5 [])
 (bif ((decide ((0:Int) ≤ (IntKind.i64.wrap ((l0.2:Int) - 8)))) && (decide ((IntKind.i64.wrap ((l0.2:Int) - 8)) ≤ (l0.2:Int)))) then
 (SA.DD l0.1 0 1).bind fun a12=>
 (iM.bC a12 ((IntKind.i64.wrap ((l0.2:Int) - 8)).toNat - 0) 1).bind fun Uf=>
 (bif (Nat.ble ((0+((IntKind.i64.wrap ((l0.2:Int) - 8)).toNat - 0))*2) 35184372088832) then
 (iM.bP (r8.2.next+1) 5 1 (.loc (.n r8.2.next) 0 1) 0 ((IntKind.i64.wrap ((l0.2:Int) - 8)).toNat - 0) Uf).bind fun r14=>
 (AV.aG r14.1).bind fun Rh=>
 some ((.aS [(.sl Rh.1 Rh.2),(.i .i64 0)]),r14.2)
 else none)
 else none))
 else none)
 else none))
 else none
def rP:Sm O:=yh (oa ma oU)
theorem Rr:aa Tryz.prog 30:=Tryz.call30
theorem Rs (k51 k57:Sm O):run (O:=O) Tryz.prog [(51,k51),(57,k57)] Tryz.f30 (.n .z (.n .z (.n (.n .z (.n .z .z)) (.n (.n (.d [] [0,1,2,5,6,7,3,4,8,9] [0,0,3,7,15,0,0,96,255,511]) (.n .z .z)) .z))))=oa k51 k57:=by kernel_rfl
theorem M3:ae RO Tryz.prog 30 (rP):=
   have h:ae RO Tryz.prog 30 (oa ma oU):=(Rs ma oU)▸aU (af JU (Ez) <| af G5 (Ca) <| aA) mixed Tryz.func30 (by kernel_rfl) _
   h.yh
def cz (l0:SA × Nat):List AV × AH O → Option ((List AV × AH O) ⊕ ((List AV × AH O) ⊕ (AV × AH O))):=(fun r1=>
 (AV.ag .u64 (r1.1.getD 0 .u)).bind fun n2=>
 (AV.ag .i64 (r1.1.getD 1 .u)).bind fun n3=>
 (bif (decide (n3<(l0.2:Int))) then
 (bif ((decide ((0:Int) ≤ n3)) && (decide (n3<(l0.2:Int)))) then
 (SA.ref l0.1).bind fun q4=>
 (r1.2.ld q4.1 (q4.2+(n3.toNat*1))).bind fun w5=>
 (AV.ag .u8 w5).bind fun n6=>
 ((bif (((n3:Int) == 9) == true) then
 let c7:Bool:=(decide ((IntKind.u64.wrap (bE .andNot .u8 n6 128)) > 1))
 some ([(.b c7)],r1.2)
 else some ([(.b false)],r1.2)):Option (List AV × AH O)).bind fun r8=>
 (AV.aV (r8.1.getD 0 .u)).bind fun b9=>
 ((bif (b9 == false) then
 some ([(.b ((n3:Int) == 10))],r8.2)
 else some ([(.b true)],r8.2)):Option (List AV × AH O)).bind fun dw=>
 (AV.aV (dw.1.getD 0 .u)).bind fun WA=>
 (bif WA then
 ((some ((.aS [(.i .u64 0),(.i .i64 0),(.i .i64 7)]),dw.2):Option (AV × AH O)).map fun r=>Sum.inr (Sum.inr r))
 else (bif (decide ((IntKind.i64.wrap (7*n3))<0)) then
 none
 else let v12:Int:=(IntKind.u64.wrap ((IntKind.u64.wrap (bE .andNot .u8 n6 128))*2 ^ min (IntKind.i64.wrap (7*n3)).toNat 64))
 (bif (((bE .and .u8 n6 128):Int) != 0) then
 some (Sum.inl ([(.i .u64 (bE .or .u64 n2 v12)),(.i .i64 (IntKind.i64.wrap (n3+1)))],dw.2))
 else ((bif ((decide (n3 > 0)) == true) then
 some ([(.b ((n6:Int) == 0))],dw.2)
 else some ([(.b false)],dw.2)):Option (List AV × AH O)).bind fun pZ=>
 (AV.aV (pZ.1.getD 0 .u)).bind fun b14=>
 (bif b14 then
 ((some ((.aS [(.i .u64 0),(.i .i64 0),(.i .i64 5)]),pZ.2):Option (AV × AH O)).map fun r=>Sum.inr (Sum.inr r))
 else ((some ((.aS [(.i .u64 (bE .or .u64 n2 v12)),(.i .i64 (IntKind.i64.wrap (n3+1))),(.i .i64 0)]),pZ.2):Option (AV × AH O)).map fun r=>Sum.inr (Sum.inr r))))))
 else none)
 else some (Sum.inr (Sum.inl ([],r1.2)))))
def yv:Sm O:=fun xs h=>
 bif Nat.beq xs.length 1 then
 kH xs 0 fun l0=>
 bK (S:=List AV × AH O) (R:=(AV × AH O)) (aQ (S:=List AV × AH O) (T:=(List AV × AH O) ⊕ (AV × AH O)) (cz l0) ([(.i .u64 0),(.i .i64 0)],h)) fun ij=>
 some ((.aS [(.i .u64 0),(.i .i64 0),(.i .i64 6)]),ij.2)
 else none
def kK:Sm O:=yv
theorem M4:aa Tryz.prog 58:=Tryz.call58
theorem M5:run (O:=O) Tryz.prog [] Tryz.f58 (.n .z (.n .z (.n (.n .z (.n (.lp true 0 [(5,.one (.i .u64)),(11,.one (.i .i64))] [] (.n .z (.n .z (.n (.n (.n .z (.n .z (.n (.n (.g [(2,2,[(24,.one .b)]),(6,2,[(28,.one .b)])]) (.n .z .z)) (.n .z (.n (.n .z .z) (.n (.n (.g [(2,2,[(43,.one .b)])]) (.n .z .z)) .z)))))) .z) .z)))) .z)) .z)))=yv:=by kernel_rfl
theorem IV:ae RO Tryz.prog 58 kK:=bt M5 (aA) Tryz.func58 (by kernel_rfl)
def pT (l0:SA × Nat) (k58:Sm O):List AV × AH O → Option ((List AV × AH O) ⊕ ((List AV × AH O) ⊕ (AV × AH O))):=(fun r1=>
 (AV.aG (r1.1.getD 0 .u)).bind fun l2=>
 (AV.ag .i64 (r1.1.getD 1 .u)).bind fun n3=>
 (bif (decide (n3<(l0.2:Int))) then
 (bif (((decide ((0:Int) ≤ n3)) && (decide (n3 ≤ (l0.2:Int)))) && (decide ((l0.2:Int) ≤ (l0.2:Int)))) then
 (SA.DD l0.1 n3.toNat 1).bind fun a4=>
 (k58 [(.sl a4 ((l0.2:Int).toNat - n3.toNat))] r1.2).bind fun r5=>
 (AV.aE 3 r5.1).bind fun c6=>
 Vk c6 0 fun n7=>
 kG c6 1 fun n8=>
 kG c6 2 fun n9=>
 (bif ((n9:Int) != 0) then
 ((some ((.aS [(.sl .nil 0),(.i .i64 n9)]),r5.2):Option (AV × AH O)).map fun r=>Sum.inr (Sum.inr r))
 else let gS:=r5.2.bump 2
 let iM:=gS.put r5.2.next (.cells true 63 [(.i .u64 n7)])
 (iM.bC (.loc (.n r5.2.next) 0 1) 1 1).bind fun abO=>
 (bif (Nat.ble ((l2.2+1)*9) 35184372088832) then
 (iM.bP (r5.2.next+1) 63 1 l2.1 l2.2 1 abO).bind fun pZ=>
 (AV.aG pZ.1).bind fun H3=>
 some (Sum.inl ([(.sl H3.1 H3.2),(.i .i64 (IntKind.i64.wrap (n3+n8)))],pZ.2))
 else none))
 else none)
 else some (Sum.inr (Sum.inl ([(.sl l2.1 l2.2)],r1.2)))))
def iK (k58:Sm O):Sm O:=fun xs h=>
 bif Nat.beq xs.length 1 then
 kH xs 0 fun l0=>
 bK (S:=List AV × AH O) (R:=(AV × AH O)) (aQ (S:=List AV × AH O) (T:=(List AV × AH O) ⊕ (AV × AH O)) (pT l0 k58) ([(.sl .nil 0),(.i .i64 0)],h)) fun ij=>
 (AV.aG (ij.1.getD 0 .u)).bind fun l16=>
 some ((.aS [(.sl l16.1 l16.2),(.i .i64 0)]),ij.2)
 else none
def gj:Sm O:=yh (iK kK)
theorem IW:aa Tryz.prog 31:=Tryz.call31
theorem IX (k58:Sm O):run (O:=O) Tryz.prog [(58,k58)] Tryz.f31 (.n .z (.n .z (.n (.n .z (.n (.lp true 0 [(4,.one .sl),(5,.one (.i .i64))] [(4,.one .sl)] (.n (.n .z .z) (.n (.n .z (.n (.n .z (.n .z .z)) .z)) .z))) .z)) .z)))=iK k58:=by kernel_rfl
theorem FJ:ae RO Tryz.prog 31 (gj):=
   have h:ae RO Tryz.prog 31 (iK kK):=(IX kK)▸aU (af M4 (IV) <| aA) mixed Tryz.func31 (by kernel_rfl) _
   h.yh
def eS:Sm O:=fun xs h=>
 bif Nat.beq xs.length 1 then
 (AV.aT (xs.getD 0 .u)).bind fun p0=>
 Option.bind p0 fun q1=>
 cJ h q1.1 q1.2 fun l3=>
 (bif (((l3.2:Int):Int) == 0) then
 Option.bind p0 fun q4=>
 (h.st q4.1 (q4.2+1) [(.b true)]).bind fun h5=>
 some ((.i .u64 0),h5)
 else Option.bind p0 fun q6=>
 cJ h q6.1 q6.2 fun l8=>
 (bif (decide ((0:Int)<(l8.2:Int))) then
 (SA.ref l8.1).bind fun q9=>
 ldU h q9.1 q9.2 fun dZ=>
 Option.bind p0 fun Kx=>
 cJ h Kx.1 Kx.2 fun H3=>
 (bif ((decide ((1:Int) ≤ (H3.2:Int))) && (decide ((H3.2:Int) ≤ (H3.2:Int)))) then
 (SA.DD H3.1 1 1).bind fun a15=>
 Option.bind p0 fun Ug=>
 (h.st Ug.1 Ug.2 [(.sl a15 ((H3.2:Int).toNat - 1))]).bind fun Ln=>
 some ((.i .u64 dZ),Ln)
 else none)
 else none))
 else none
def bx:Sm O:=eS
theorem gp:aa Tryz.prog 59:=Tryz.call59
theorem yG:run (O:=O) Tryz.prog [] Tryz.f59 (.n .z (.n (.n .z (.n (.n .z .z) .z)) (.n .z (.n .z .z))))=eS:=by kernel_rfl
theorem fj:ae RO Tryz.prog 59 bx:=bt yG (aA) Tryz.func59 (by kernel_rfl)
def gW (Uj:Sm O):Sm O:=fun xs h=>
 bif Nat.beq xs.length 1 then
 (AV.aT (xs.getD 0 .u)).bind fun p0=>
 (Uj [(.p p0)] h).bind fun r1=>
 (AV.ag .u64 r1.1).bind fun n2=>
 Option.bind p0 fun q3=>
 cJ r1.2 q3.1 q3.2 fun l5=>
 (bif (decide (n2 > (IntKind.u64.wrap (l5.2:Int)))) then
 Option.bind p0 fun q6=>
 (r1.2.st q6.1 (q6.2+1) [(.b true)]).bind fun h7=>
 some ((.i .i64 0),h7)
 else some ((.i .i64 (IntKind.i64.wrap n2)),r1.2))
 else none
def ba:Sm O:=gW bx
theorem lv:aa Tryz.prog 32:=Tryz.call32
theorem wW (Uj:Sm O):run (O:=O) Tryz.prog [(59,Uj)] Tryz.f32 (.n .z (.n .z (.n (.n .z (.n (.n .z .z) .z)) .z)))=gW Uj:=by kernel_rfl
theorem jE:ae RO Tryz.prog 32 ba:=bt (wW _) (af gp fj <| aA) Tryz.func32 (by kernel_rfl)
def BZ (XP Vu:Sm O):Sm O:=fun xs h=>
 bif Nat.beq xs.length 2 then
 Vk xs 0 fun n0=>
 (AV.asAgg 2 (xs.getD 1 .u)).bind fun c1=>
 kG c1 0 fun n2=>
 kG c1 1 fun n3=>
 let h4:=h.bump 1
 let h5:=h4.put h.next (.cells true 144 [(.i .i64 n2),(.i .i64 n3)])
 bI h5 (.n h.next) 0 fun n7=>
 bI h5 (.n h.next) 1 fun n9=>
 (XP [(.agg [(.i .i64 n7),(.i .i64 n9)])] h5).bind fun dw=>
 (AV.aV dw.1).bind fun WA=>
 (bif (!WA) then
 some ((.i .u64 0),dw.2)
 else bI dw.2 (.n h.next) 0 fun fg=>
 bI dw.2 (.n h.next) 1 fun gd=>
 bI dw.2 (.n h.next) 0 fun iO=>
 (Vu [(.agg [(.i .i64 fg),(.i .i64 gd)])] dw.2).bind fun gb=>
 (AV.ag .u64 gb.1).bind fun kN=>
 (bc (gb.2.ld (.n h.next) 0) (some (.i .i64 iO))).bind fun _=>
 (bif (decide (iO<0)) then
 none
 else let v20:Int:=(Int.fdiv (bE .and .u64 n0 kN) (2 ^ min iO.toNat 64))
 some ((.i .u64 v20),gb.2)))
 else none
def wM:Sm O:=BZ lq oc
theorem OD:aa Tryz.prog 79:=Tryz.call79
theorem OE (XP Vu:Sm O):run (O:=O) Tryz.prog [(99,XP),(98,Vu)] Tryz.f79 (.n .z (.n (.n .z (.n .z .z)) (.n (.d [] [0,1,4,5,2,3,6,7] [0,0,2,7,0,16,63,127]) .z)))=BZ XP Vu:=by kernel_rfl
theorem KQ:ae RO Tryz.prog 79 wM:=bt (OE _ _) (af qa mi <| af rY om <| aA) Tryz.func79 (by kernel_rfl)
def jm (l4:SA × Nat) (k79:Sm O) (n0:Int):List AV × AH O → Option ((List AV × AH O) ⊕ (List AV × AH O)):=(fun r5=>
 (AV.aG (r5.1.getD 0 .u)).bind fun l6=>
 (AV.ag .i64 (r5.1.getD 1 .u)).bind fun n7=>
 (bif (decide (n7<(l4.2:Int))) then
 let h8:=r5.2.bump 1
 (bif ((decide ((0:Int) ≤ n7)) && (decide (n7<(l4.2:Int)))) then
 (SA.ref l4.1).bind fun q9=>
 bI h8 q9.1 (q9.2+(n7.toNat*2)) fun dZ=>
 bI h8 q9.1 ((q9.2+(n7.toNat*2))+1) fun fg=>
 let tu:=h8.put r5.2.next (.cells true 144 [(.i .i64 0),(.i .i64 0)])
 (tu.st (.n r5.2.next) 0 [(.i .i64 dZ),(.i .i64 fg)]).bind fun oY=>
 let zI:=oY.bump 2
 bI zI (.n r5.2.next) 0 fun jX=>
 bI zI (.n r5.2.next) 1 fun nv=>
 (k79 [(.i .u64 n0),(.agg [(.i .i64 jX),(.i .i64 nv)])] zI).bind fun Bt=>
 (AV.ag .u64 Bt.1).bind fun fC=>
 let tW:=Bt.2.put oY.next (.cells true 3 [(.i .i64 (IntKind.i64.wrap fC))])
 (tW.bC (.loc (.n oY.next) 0 1) 1 1).bind fun abW=>
 (bif (Nat.ble ((l6.2+1)*9) 35184372088832) then
 (tW.bP (oY.next+1) 3 1 l6.1 l6.2 1 abW).bind fun Dz=>
 (AV.aG Dz.1).bind fun T9=>
 some (Sum.inl ([(.sl T9.1 T9.2),(.i .i64 (IntKind.i64.wrap (n7+1)))],Dz.2))
 else none)
 else none)
 else some (Sum.inr ([(.sl l6.1 l6.2)],r5.2))))
def pV (k50 k79 Vv:Sm O):Sm O:=fun xs h=>
 bif Nat.beq xs.length 1 then
 Vk xs 0 fun n0=>
 let h1:=h.bump 1
 let h2:=h1.put h.next (.cells true 47 [(.i .i64 0),(.i .i64 0),(.i .i64 0),(.i .i64 0),(.b false)])
 (k50 [] h2).bind fun r3=>
 (AV.aG r3.1).bind fun l4=>
 (aQ (S:=List AV × AH O) (T:=List AV × AH O) (jm l4 k79 n0) ([(.sl .nil 0),(.i .i64 0)],r3.2)).bind fun rq=>
 (AV.aG (rq.1.getD 0 .u)).bind fun Re=>
 let Q9:=rq.2.bump 1
 (bif (decide ((0:Int)<(Re.2:Int))) then
 (SA.ref Re.1).bind fun MF=>
 bI Q9 MF.1 MF.2 fun lJ=>
 (bif (decide ((1:Int)<(Re.2:Int))) then
 (SA.ref Re.1).bind fun q33=>
 bI Q9 q33.1 (q33.2+1) fun Vw=>
 (bif (decide ((2:Int)<(Re.2:Int))) then
 (SA.ref Re.1).bind fun q36=>
 bI Q9 q36.1 (q36.2+2) fun GV=>
 (bif (decide ((3:Int)<(Re.2:Int))) then
 (SA.ref Re.1).bind fun q39=>
 bI Q9 q39.1 (q39.2+3) fun Ou=>
 (bif (decide ((4:Int)<(Re.2:Int))) then
 (SA.ref Re.1).bind fun q42=>
 bI Q9 q42.1 (q42.2+4) fun SI=>
 let h45:=Q9.put rq.2.next (.cells true 47 [(.i .i64 0),(.i .i64 0),(.i .i64 0),(.i .i64 0),(.b false)])
 (h45.st (.n rq.2.next) 0 [(.i .i64 lJ),(.i .i64 Vw),(.i .i64 GV),(.i .i64 Ou),(.b ((SI:Int) == 1))]).bind fun WB=>
 bI WB (.n rq.2.next) 0 fun WC=>
 bI WB (.n rq.2.next) 1 fun MG=>
 bI WB (.n rq.2.next) 2 fun Zo=>
 bI WB (.n rq.2.next) 3 fun SF=>
 (WB.ld (.n rq.2.next) 4).bind fun Zz=>
 (AV.aV Zz).bind fun b56=>
 (Vv [(.agg [(.i .i64 WC),(.i .i64 MG),(.i .i64 Zo),(.i .i64 SF),(.b b56)])] WB).bind fun r57=>
 (AV.aE 2 r57.1).bind fun c58=>
 Vk c58 0 fun Zv=>
 kG c58 1 fun Zq=>
 ((bif (((Zq:Int) != 0) == false) then
 some ([(.b ((Zv:Int) != n0))],r57.2)
 else some ([(.b true)],r57.2)):Option (List AV × AH O)).bind fun yA=>
 (AV.aV (yA.1.getD 0 .u)).bind fun b62=>
 (bif b62 then
 (yA.2.st (.n h.next) 0 [(.i .i64 0),(.i .i64 0),(.i .i64 0),(.i .i64 0),(.b false)]).bind fun QO=>
 bI QO (.n h.next) 0 fun Vs=>
 bI QO (.n h.next) 1 fun Z8=>
 bI QO (.n h.next) 2 fun Rp=>
 bI QO (.n h.next) 3 fun n71=>
 (QO.ld (.n h.next) 4).bind fun w72=>
 (AV.aV w72).bind fun b73=>
 some ((.aS [(.agg [(.i .i64 Vs),(.i .i64 Z8),(.i .i64 Rp),(.i .i64 n71),(.b b73)]),(.i .i64 5)]),QO)
 else bI yA.2 (.n rq.2.next) 0 fun n75=>
 bI yA.2 (.n rq.2.next) 1 fun n77=>
 bI yA.2 (.n rq.2.next) 2 fun n79=>
 bI yA.2 (.n rq.2.next) 3 fun n81=>
 (yA.2.ld (.n rq.2.next) 4).bind fun w82=>
 (AV.aV w82).bind fun b83=>
 (yA.2.st (.n h.next) 0 [(.i .i64 n75),(.i .i64 n77),(.i .i64 n79),(.i .i64 n81),(.b b83)]).bind fun h84=>
 bI h84 (.n h.next) 0 fun n86=>
 bI h84 (.n h.next) 1 fun n88=>
 bI h84 (.n h.next) 2 fun n90=>
 bI h84 (.n h.next) 3 fun n92=>
 (h84.ld (.n h.next) 4).bind fun w93=>
 (AV.aV w93).bind fun b94=>
 some ((.aS [(.agg [(.i .i64 n86),(.i .i64 n88),(.i .i64 n90),(.i .i64 n92),(.b b94)]),(.i .i64 0)]),h84))
 else none)
 else none)
 else none)
 else none)
 else none)
 else none
def cR:Sm O:=pV j0 wM df
theorem mq:aa Tryz.prog 60:=Tryz.call60
theorem Ha (k50 k79 Vv:Sm O):run (O:=O) Tryz.prog [(50,k50),(79,k79),(22,Vv)] Tryz.f60 (.n .z (.n .z (.n (.n .z (.n (.lp false 0 [(4,.one .sl),(12,.one (.i .i64))] [(4,.one .sl)] (.n .z (.n .z (.n (.n .z .z) .z)))) .z)) (.n (.d [] [0,1,2,3,4,5,6,7,8,9,10,11,12,13,14,15,16,17,18,19] [0,1,3,0,8,24,63,0,128,384,0,1024,3072,0,8192,24576,57344,131071,0,524287]) (.n (.n .z (.n (.g [(2,3,[(53,.one .b)])]) (.n .z .z))) .z)))))=pV k50 k79 Vv:=by kernel_rfl
theorem jQ:ae RO Tryz.prog 60 cR:=bt (Ha _ _ _) (af tZ qs <| af OD KQ <| af qb mj <| aA) Tryz.func60 (by kernel_rfl)
def gh (Uj:Sm O):Sm O:=fun xs h=>
 bif Nat.beq xs.length 1 then
 (AV.aT (xs.getD 0 .u)).bind fun p0=>
 (Uj [(.p p0)] h).bind fun r1=>
 (AV.ag .u64 r1.1).bind fun n2=>
 (bif (decide (n2 > 4194304)) then
 Option.bind p0 fun q3=>
 (r1.2.st q3.1 (q3.2+1) [(.b true)]).bind fun h4=>
 some ((.i .i64 0),h4)
 else some ((.i .i64 (IntKind.i64.wrap n2)),r1.2))
 else none
def aW:Sm O:=gh bx
theorem j8:aa Tryz.prog 61:=Tryz.call61
theorem vn (Uj:Sm O):run (O:=O) Tryz.prog [(59,Uj)] Tryz.f61 (.n .z (.n .z (.n (.n .z (.n (.n .z .z) .z)) .z)))=gh Uj:=by kernel_rfl
theorem iT:ae RO Tryz.prog 61 aW:=bt (vn _) (af gp fj <| aA) Tryz.func61 (by kernel_rfl)
def dq (h2:AH O) (p0:Option (jJ × Nat)) (r19:List AV × AH O) (Uj:Sm O):List AV × AH O → Option ((List AV × AH O) ⊕ (List AV × AH O)):=(fun JV=>
 (AV.ag .i64 (JV.1.getD 0 .u)).bind fun SF=>
 bI JV.2 (.n h2.next) 1 fun SG=>
 ((bif ((decide (SF<SG)) == true) then
 Option.bind p0 fun q57=>
 (JV.2.ld q57.1 (q57.2+1)).bind fun w58=>
 (AV.aV w58).bind fun b59=>
 some ([(.b (!b59))],JV.2)
 else some ([(.b false)],JV.2)):Option (List AV × AH O)).bind fun r60=>
 (AV.aV (r60.1.getD 0 .u)).bind fun b61=>
 (bif b61 then
 let h62:=r60.2.bump 2
 cJ h62 (.n r19.2.next) 6 fun l64=>
 (Uj [(.p p0)] h62).bind fun r65=>
 (AV.ag .u64 r65.1).bind fun Zr=>
 (bc (r65.2.ld (.n r19.2.next) 6) (some (.sl l64.1 l64.2))).bind fun _=>
 let h67:=r65.2.put r60.2.next (.cells true 63 [(.i .u64 Zr)])
 (h67.bC (.loc (.n r60.2.next) 0 1) 1 1).bind fun amM=>
 (bif (Nat.ble ((l64.2+1)*9) 35184372088832) then
 (h67.bP (r60.2.next+1) 63 1 l64.1 l64.2 1 amM).bind fun r69=>
 (AV.aG r69.1).bind fun l70=>
 (r69.2.st (.n r19.2.next) 6 [(.sl l70.1 l70.2)]).bind fun h71=>
 some (Sum.inl ([(.i .i64 (IntKind.i64.wrap (SF+1)))],h71))
 else none)
 else some (Sum.inr ([],r60.2))))
def dp (h2:AH O) (p0:Option (jJ × Nat)) (r19:List AV × AH O) (ZA:Sm O):List AV × AH O → Option ((List AV × AH O) ⊕ (List AV × AH O)):=(fun Br=>
 (AV.ag .i64 (Br.1.getD 0 .u)).bind fun wg=>
 bI Br.2 (.n h2.next) 0 fun GU=>
 ((bif ((decide (wg<GU)) == true) then
 Option.bind p0 fun q37=>
 (Br.2.ld q37.1 (q37.2+1)).bind fun OG=>
 (AV.aV OG).bind fun b39=>
 some ([(.b (!b39))],Br.2)
 else some ([(.b false)],Br.2)):Option (List AV × AH O)).bind fun Vx=>
 (AV.aV (Vx.1.getD 0 .u)).bind fun b41=>
 (bif b41 then
 let GW:=Vx.2.bump 2
 cJ GW (.n r19.2.next) 5 fun Vp=>
 (ZA [(.p p0)] GW).bind fun SJ=>
 (AV.ag .i64 SJ.1).bind fun Ue=>
 (bc (SJ.2.ld (.n r19.2.next) 5) (some (.sl Vp.1 Vp.2))).bind fun _=>
 let h47:=SJ.2.put Vx.2.next (.cells true 3 [(.i .i64 Ue)])
 (h47.bC (.loc (.n Vx.2.next) 0 1) 1 1).bind fun amN=>
 (bif (Nat.ble ((Vp.2+1)*9) 35184372088832) then
 (h47.bP (Vx.2.next+1) 3 1 Vp.1 Vp.2 1 amN).bind fun r49=>
 (AV.aG r49.1).bind fun l50=>
 (r49.2.st (.n r19.2.next) 5 [(.sl l50.1 l50.2)]).bind fun h51=>
 some (Sum.inl ([(.i .i64 (IntKind.i64.wrap (wg+1)))],h51))
 else none)
 else some (Sum.inr ([],Vx.2))))
def dz (Uj ZB ZA:Sm O):Sm O:=fun xs h=>
 bif Nat.beq xs.length 1 then
 (AV.aT (xs.getD 0 .u)).bind fun p0=>
 let h1:=h.bump 1
 let h2:=h1.put h.next (.cells true 50 [(.i .i64 0),(.i .i64 0),(.i .i64 0),(.i .i64 0),(.b false),(.sl .nil 0),(.sl .nil 0)])
 let h3:=h2.bump 1
 (Uj [(.p p0)] h3).bind fun r4=>
 (AV.ag .u64 r4.1).bind fun n5=>
 (ZB [(.i .u64 n5)] r4.2).bind fun r6=>
 (AV.aE 2 r6.1).bind fun c7=>
 (AV.asAgg 5 (c7.getD 0 .u)).bind fun c8=>
 kG c8 0 fun n9=>
 kG c8 1 fun cQ=>
 kG c8 2 fun dZ=>
 kG c8 3 fun dy=>
 (AV.aV (c8.getD 4 .u)).bind fun Zs=>
 kG c7 1 fun fW=>
 let oY:=r6.2.put h2.next (.cells true 47 [(.i .i64 0),(.i .i64 0),(.i .i64 0),(.i .i64 0),(.b false)])
 (oY.st (.n h2.next) 0 [(.i .i64 n9),(.i .i64 cQ),(.i .i64 dZ),(.i .i64 dy),(.b Zs)]).bind fun zI=>
 ((bif ((fW:Int) != 0) then
 Option.bind p0 fun Lo=>
 (zI.st Lo.1 (Lo.2+1) [(.b true)]).bind fun qp=>
 some ([],qp)
 else some ([],zI)):Option (List AV × AH O)).bind fun r19=>
 let kQ:=r19.2.bump 1
 bI kQ (.n h2.next) 0 fun fC=>
 bI kQ (.n h2.next) 1 fun rZ=>
 bI kQ (.n h2.next) 2 fun ji=>
 bI kQ (.n h2.next) 3 fun jo=>
 (kQ.ld (.n h2.next) 4).bind fun yH=>
 (AV.aV yH).bind fun b30=>
 let h31:=kQ.put r19.2.next (.cells true 50 [(.i .i64 0),(.i .i64 0),(.i .i64 0),(.i .i64 0),(.b false),(.sl .nil 0),(.sl .nil 0)])
 (h31.st (.n r19.2.next) 0 [(.i .i64 fC),(.i .i64 rZ),(.i .i64 ji),(.i .i64 jo),(.b b30),(.sl .nil 0),(.sl .nil 0)]).bind fun h32=>
 (aQ (S:=List AV × AH O) (T:=List AV × AH O) (dp h2 p0 r19 ZA) ([(.i .i64 0)],h32)).bind fun r52=>
 (aQ (S:=List AV × AH O) (T:=List AV × AH O) (dq h2 p0 r19 Uj) ([(.i .i64 0)],r52.2)).bind fun WL=>
 bI WL.2 (.n r19.2.next) 0 fun n74=>
 bI WL.2 (.n r19.2.next) 1 fun n76=>
 bI WL.2 (.n r19.2.next) 2 fun n78=>
 bI WL.2 (.n r19.2.next) 3 fun n80=>
 (WL.2.ld (.n r19.2.next) 4).bind fun w81=>
 (AV.aV w81).bind fun b82=>
 cJ WL.2 (.n r19.2.next) 5 fun l84=>
 cJ WL.2 (.n r19.2.next) 6 fun l86=>
 (WL.2.st (.n h.next) 0 [(.i .i64 n74),(.i .i64 n76),(.i .i64 n78),(.i .i64 n80),(.b b82),(.sl l84.1 l84.2),(.sl l86.1 l86.2)]).bind fun Zw=>
 bI Zw (.n h.next) 0 fun n89=>
 bI Zw (.n h.next) 1 fun n91=>
 bI Zw (.n h.next) 2 fun n93=>
 bI Zw (.n h.next) 3 fun n95=>
 (Zw.ld (.n h.next) 4).bind fun w96=>
 (AV.aV w96).bind fun b97=>
 cJ Zw (.n h.next) 5 fun l99=>
 cJ Zw (.n h.next) 6 fun aeW=>
 some ((.agg [(.i .i64 n89),(.i .i64 n91),(.i .i64 n93),(.i .i64 n95),(.b b97),(.sl l99.1 l99.2),(.sl aeW.1 aeW.2)]),Zw)
 else none
def cj:Sm O:=yh (dz bx cR aW)
theorem yI:aa Tryz.prog 33:=Tryz.call33
theorem yJ (Uj ZB ZA:Sm O):run (O:=O) Tryz.prog [(59,Uj),(60,ZB),(61,ZA)] Tryz.f33 (.n .z (.n .z (.n (.n .z (.j false [] .z .z)) (.n .z (.n (.n .z (.n (.lp false 0 [(6,.one (.i .i64))] [] (.n (.n (.g [(5,5,[(32,.one .b)])]) .z) (.n (.n (.d [] [0,1,2,3,4,5,6,7] [0,1,0,4,12,31,63,127]) .z) .z))) .z)) (.n (.n .z (.n (.lp false 2 [(7,.one (.i .i64))] [] (.n (.n (.g [(5,5,[(53,.one .b)])]) .z) (.n (.n (.d [] [0,1,2,3,4,5,6,7] [0,1,0,4,12,31,63,127]) .z) .z))) .z)) .z))))))=dz Uj ZB ZA:=by kernel_rfl
theorem vo:ae RO Tryz.prog 33 (cj):=
   have h:ae RO Tryz.prog 33 (dz bx cR aW):=(yJ bx cR aW)▸aU (af gp (fj) <| af mq (jQ) <| af j8 (iT) <| aA) mixed Tryz.func33 (by kernel_rfl) _
   h.yh
def gX (n2:Int) (ZA:Sm O) (p0:Option (jJ × Nat)):List AV × AH O → Option ((List AV × AH O) ⊕ (List AV × AH O)):=(fun r3=>
 (AV.aG (r3.1.getD 0 .u)).bind fun l4=>
 (AV.ag .i64 (r3.1.getD 1 .u)).bind fun n5=>
 (bif (decide (n5<n2)) then
 let h6:=r3.2.bump 2
 (ZA [(.p p0)] h6).bind fun r7=>
 (AV.ag .i64 r7.1).bind fun n8=>
 let h9:=r7.2.put r3.2.next (.cells true 3 [(.i .i64 n8)])
 (h9.bC (.loc (.n r3.2.next) 0 1) 1 1).bind fun amR=>
 (bif (Nat.ble ((l4.2+1)*9) 35184372088832) then
 (h9.bP (r3.2.next+1) 3 1 l4.1 l4.2 1 amR).bind fun oq=>
 (AV.aG oq.1).bind fun l12=>
 some (Sum.inl ([(.sl l12.1 l12.2),(.i .i64 (IntKind.i64.wrap (n5+1)))],oq.2))
 else none)
 else some (Sum.inr ([(.sl l4.1 l4.2)],r3.2))))
def cN (k32 ZA:Sm O):Sm O:=fun xs h=>
 bif Nat.beq xs.length 1 then
 (AV.aT (xs.getD 0 .u)).bind fun p0=>
 (k32 [(.p p0)] h).bind fun r1=>
 (AV.ag .i64 r1.1).bind fun n2=>
 (aQ (S:=List AV × AH O) (T:=List AV × AH O) (gX n2 ZA p0) ([(.sl .nil 0),(.i .i64 0)],r1.2)).bind fun pZ=>
 (AV.aG (pZ.1.getD 0 .u)).bind fun H3=>
 some ((.sl H3.1 H3.2),pZ.2)
 else none
def cK:Sm O:=yh (cN ba aW)
theorem yK:aa Tryz.prog 34:=Tryz.call34
theorem yL (k32 ZA:Sm O):run (O:=O) Tryz.prog [(32,k32),(61,ZA)] Tryz.f34 (.n .z (.n .z (.n (.n .z (.n (.lp false 0 [(3,.one .sl),(6,.one (.i .i64))] [(3,.one .sl)] (.n .z (.n .z (.n .z .z)))) .z)) .z)))=cN k32 ZA:=by kernel_rfl
theorem vp:ae RO Tryz.prog 34 (cK):=
   have h:ae RO Tryz.prog 34 (cN ba aW):=(yL ba aW)▸aU (af lv (jE) <| af j8 (iT) <| aA) mixed Tryz.func34 (by kernel_rfl) _
   h.yh
def lT (ot:Int) (r14:AV × AH O) (h26:AH O) (k33:Sm O):List AV × AH O → Option ((List AV × AH O) ⊕ (List AV × AH O)):=(fun Lp=>
 (AV.ag .i64 (Lp.1.getD 0 .u)).bind fun lJ=>
 ((bif ((decide (lJ<ot)) == true) then
 (Lp.2.ld (.n r14.2.next) 1).bind fun FE=>
 (AV.aV FE).bind fun b34=>
 some ([(.b (!b34))],Lp.2)
 else some ([(.b false)],Lp.2)):Option (List AV × AH O)).bind fun WM=>
 (AV.aV (WM.1.getD 0 .u)).bind fun b36=>
 (bif b36 then
 let Vr:=WM.2.bump 2
 cJ Vr (.n h26.next) 0 fun Zx=>
 (k33 [(.p (some ((.n r14.2.next),0)))] Vr).bind fun Vx=>
 (AV.asAgg 7 Vx.1).bind fun c41=>
 kG c41 0 fun Oe=>
 kG c41 1 fun KC=>
 kG c41 2 fun SI=>
 kG c41 3 fun Ov=>
 (AV.aV (c41.getD 4 .u)).bind fun b46=>
 kH c41 5 fun l47=>
 kH c41 6 fun l48=>
 (bc (Vx.2.ld (.n h26.next) 0) (some (.sl Zx.1 Zx.2))).bind fun _=>
 let h49:=Vx.2.put WM.2.next (.cells true 50 [(.i .i64 Oe),(.i .i64 KC),(.i .i64 SI),(.i .i64 Ov),(.b b46),(.sl l47.1 l47.2),(.sl l48.1 l48.2)])
 (h49.bC (.loc (.n WM.2.next) 0 7) 1 7).bind fun amU=>
 (bif (Nat.ble ((Zx.2+1)*89) 35184372088832) then
 (h49.bP (WM.2.next+1) 50 7 Zx.1 Zx.2 1 amU).bind fun r51=>
 (AV.aG r51.1).bind fun l52=>
 (r51.2.st (.n h26.next) 0 [(.sl l52.1 l52.2)]).bind fun h53=>
 some (Sum.inl ([(.i .i64 (IntKind.i64.wrap (lJ+1)))],h53))
 else none)
 else some (Sum.inr ([],WM.2))))
def lk (k30 k31 k32 k33 k34 k5:Sm O):Sm O:=fun xs h=>
 bif Nat.beq xs.length 1 then
 kH xs 0 fun l0=>
 let h1:=h.bump 1
 let h2:=h1.put h.next (.cells true 25 [(.sl .nil 0),(.sl .nil 0),(.sl .nil 0)])
 (k30 [(.sl l0.1 l0.2)] h2).bind fun r3=>
 (AV.aE 2 r3.1).bind fun c4=>
 kH c4 0 fun l5=>
 kG c4 1 fun n6=>
 (bif ((n6:Int) != 0) then
 (r3.2.st (.n h.next) 0 [(.sl .nil 0),(.sl .nil 0),(.sl .nil 0)]).bind fun h7=>
 cJ h7 (.n h.next) 0 fun l9=>
 cJ h7 (.n h.next) 1 fun Ub=>
 cJ h7 (.n h.next) 2 fun P7=>
 some ((.aS [(.agg [(.sl l9.1 l9.2),(.sl Ub.1 Ub.2),(.sl P7.1 P7.2)]),(.i .i64 n6)]),h7)
 else (k31 [(.sl l5.1 l5.2)] r3.2).bind fun r14=>
 (AV.aE 2 r14.1).bind fun c15=>
 kH c15 0 fun l16=>
 kG c15 1 fun iO=>
 (bif ((iO:Int) != 0) then
 (r14.2.st (.n h.next) 0 [(.sl .nil 0),(.sl .nil 0),(.sl .nil 0)]).bind fun qp=>
 cJ qp (.n h.next) 0 fun XR=>
 cJ qp (.n h.next) 1 fun XN=>
 cJ qp (.n h.next) 2 fun l24=>
 some ((.aS [(.agg [(.sl XR.1 XR.2),(.sl XN.1 XN.2),(.sl l24.1 l24.2)]),(.i .i64 iO)]),qp)
 else let Vy:=r14.2.bump 1
 let h26:=Vy.put r14.2.next (.cells true 82 [(.sl l16.1 l16.2),(.b false)])
 let Rf:=h26.bump 1
 let H4:=Rf.put h26.next (.cells true 25 [(.sl .nil 0),(.sl .nil 0),(.sl .nil 0)])
 (k32 [(.p (some ((.n r14.2.next),0)))] H4).bind fun JT=>
 (AV.ag .i64 JT.1).bind fun ot=>
 (aQ (S:=List AV × AH O) (T:=List AV × AH O) (lT ot r14 h26 k33) ([(.i .i64 0)],JT.2)).bind fun r54=>
 (k34 [(.p (some ((.n r14.2.next),0)))] r54.2).bind fun r55=>
 (AV.aG r55.1).bind fun l56=>
 (r55.2.st (.n h26.next) 1 [(.sl l56.1 l56.2)]).bind fun Rb=>
 (k34 [(.p (some ((.n r14.2.next),0)))] Rb).bind fun r58=>
 (AV.aG r58.1).bind fun l59=>
 (r58.2.st (.n h26.next) 2 [(.sl l59.1 l59.2)]).bind fun h60=>
 (h60.ld (.n r14.2.next) 1).bind fun w61=>
 (AV.aV w61).bind fun b62=>
 ((bif (b62 == false) then
 cJ h60 (.n r14.2.next) 0 fun l64=>
 some ([(.b (decide ((l64.2:Int) > 0)))],h60)
 else some ([(.b true)],h60)):Option (List AV × AH O)).bind fun r65=>
 (AV.aV (r65.1.getD 0 .u)).bind fun b66=>
 ((bif (b66 == false) then
 cJ r65.2 (.n h26.next) 0 fun l68=>
 cJ r65.2 (.n h26.next) 1 fun l70=>
 cJ r65.2 (.n h26.next) 2 fun l72=>
 (k5 [(.agg [(.sl l68.1 l68.2),(.sl l70.1 l70.2),(.sl l72.1 l72.2)])] r65.2).bind fun r73=>
 (AV.aV r73.1).bind fun b74=>
 some ([(.b (!b74))],r73.2)
 else some ([(.b true)],r65.2)):Option (List AV × AH O)).bind fun r75=>
 (AV.aV (r75.1.getD 0 .u)).bind fun b76=>
 (bif b76 then
 (r75.2.st (.n h.next) 0 [(.sl .nil 0),(.sl .nil 0),(.sl .nil 0)]).bind fun h77=>
 cJ h77 (.n h.next) 0 fun l79=>
 cJ h77 (.n h.next) 1 fun l81=>
 cJ h77 (.n h.next) 2 fun l83=>
 some ((.aS [(.agg [(.sl l79.1 l79.2),(.sl l81.1 l81.2),(.sl l83.1 l83.2)]),(.i .i64 5)]),h77)
 else cJ r75.2 (.n h26.next) 0 fun Z9=>
 cJ r75.2 (.n h26.next) 1 fun l87=>
 cJ r75.2 (.n h26.next) 2 fun l89=>
 (r75.2.st (.n h.next) 0 [(.sl Z9.1 Z9.2),(.sl l87.1 l87.2),(.sl l89.1 l89.2)]).bind fun h90=>
 cJ h90 (.n h.next) 0 fun l92=>
 cJ h90 (.n h.next) 1 fun l94=>
 cJ h90 (.n h.next) 2 fun l96=>
 some ((.aS [(.agg [(.sl l92.1 l92.2),(.sl l94.1 l94.2),(.sl l96.1 l96.2)]),(.i .i64 0)]),h90))))
 else none
def wF:Sm O:=yh (lk rP gj ba cj cK bq)
theorem OH:aa Tryz.prog 10:=Tryz.call10
theorem OI (k30 k31 k32 k33 k34 k5:Sm O):run (O:=O) Tryz.prog [(30,k30),(31,k31),(32,k32),(33,k33),(34,k34),(5,k5)] Tryz.f10 (.n .z (.n .z (.n (.n .z (.n .z .z)) (.n .z (.n (.n .z (.n .z .z)) (.n .z (.n .z (.n .z (.n (.n .z (.n (.lp false 0 [(10,.one (.i .i64))] [] (.n (.n (.g [(3,5,[(43,.one .b)])]) .z) (.n (.n (.d [] [0,1,2,3,4,5,6,7] [0,1,0,4,12,31,63,127]) .z) .z))) .z)) (.n .z (.n .z (.n (.n (.g [(4,6,[(70,.one .b)]),(12,3,[(75,.one .b)])]) (.n .z .z)) .z))))))))))))=lk k30 k31 k32 k33 k34 k5:=by kernel_rfl
theorem KR:ae RO Tryz.prog 10 (wF):=
   have h:ae RO Tryz.prog 10 (lk rP gj ba cj cK bq):=(OI rP gj ba cj cK bq)▸aU (af Rr (M3) <| af IW (FJ) <| af lv (jE) <| af yI (vo) <| af yK (vp) <| af gL (eU) <| aA) mixed Tryz.func10 (by kernel_rfl) _
   h.yh
def cV (l0:SA × Nat) (l1:SA × Nat):List AV × AH O → Option ((List AV × AH O) ⊕ ((List AV × AH O) ⊕ (AV × AH O))):=(fun r2=>
 (AV.ag .i64 (r2.1.getD 0 .u)).bind fun n3=>
 (bif (decide (n3<(l0.2:Int))) then
 (bif ((decide ((0:Int) ≤ n3)) && (decide (n3<(l0.2:Int)))) then
 (SA.ref l0.1).bind fun q4=>
 bI r2.2 q4.1 (q4.2+(n3.toNat*1)) fun n6=>
 (bif ((decide ((0:Int) ≤ n3)) && (decide (n3<(l1.2:Int)))) then
 (SA.ref l1.1).bind fun q7=>
 bI r2.2 q7.1 (q7.2+(n3.toNat*1)) fun n9=>
 (bif ((n6:Int) != n9) then
 ((some ((.b false),r2.2):Option (AV × AH O)).map fun r=>Sum.inr (Sum.inr r))
 else some (Sum.inl ([(.i .i64 (IntKind.i64.wrap (n3+1)))],r2.2)))
 else none)
 else none)
 else some (Sum.inr (Sum.inl ([],r2.2)))))
def dj:Sm O:=fun xs h=>
 bif Nat.beq xs.length 2 then
 kH xs 0 fun l0=>
 kH xs 1 fun l1=>
 (bif (((l0.2:Int):Int) != (l1.2:Int)) then
 some ((.b false),h)
 else bK (S:=List AV × AH O) (R:=(AV × AH O)) (aQ (S:=List AV × AH O) (T:=(List AV × AH O) ⊕ (AV × AH O)) (cV l0 l1) ([(.i .i64 0)],h)) fun dw=>
 some ((.b true),dw.2))
 else none
def bZ:Sm O:=dj
theorem iu:aa Tryz.prog 37:=Tryz.call37
theorem ry:run (O:=O) Tryz.prog [] Tryz.f37 (.n .z (.n (.n .z (.n .z .z)) (.n (.n .z (.n (.lp true 0 [(13,.one (.i .i64))] [] (.n .z (.n .z (.n (.n (.n .z (.n (.d [] [0,1,2,3,4,5,6,7,8] [0,0,3,7,0,0,48,112,255]) (.n .z .z))) .z) .z)))) .z)) .z)))=dj:=by kernel_rfl
theorem gf:ae RO Tryz.prog 37 bZ:=bt ry (aA) Tryz.func37 (by kernel_rfl)
def bX (l0:SA × Nat) (l1:SA × Nat):List AV × AH O → Option ((List AV × AH O) ⊕ ((List AV × AH O) ⊕ (AV × AH O))):=(fun r2=>
 (AV.ag .i64 (r2.1.getD 0 .u)).bind fun n3=>
 (bif (decide (n3<(l0.2:Int))) then
 (bif ((decide ((0:Int) ≤ n3)) && (decide (n3<(l0.2:Int)))) then
 (SA.ref l0.1).bind fun q4=>
 ldU r2.2 q4.1 (q4.2+(n3.toNat*1)) fun n6=>
 (bif ((decide ((0:Int) ≤ n3)) && (decide (n3<(l1.2:Int)))) then
 (SA.ref l1.1).bind fun q7=>
 ldU r2.2 q7.1 (q7.2+(n3.toNat*1)) fun n9=>
 (bif ((n6:Int) != n9) then
 ((some ((.b false),r2.2):Option (AV × AH O)).map fun r=>Sum.inr (Sum.inr r))
 else some (Sum.inl ([(.i .i64 (IntKind.i64.wrap (n3+1)))],r2.2)))
 else none)
 else none)
 else some (Sum.inr (Sum.inl ([],r2.2)))))
def cd:Sm O:=fun xs h=>
 bif Nat.beq xs.length 2 then
 kH xs 0 fun l0=>
 kH xs 1 fun l1=>
 (bif (((l0.2:Int):Int) != (l1.2:Int)) then
 some ((.b false),h)
 else bK (S:=List AV × AH O) (R:=(AV × AH O)) (aQ (S:=List AV × AH O) (T:=(List AV × AH O) ⊕ (AV × AH O)) (bX l0 l1) ([(.i .i64 0)],h)) fun dw=>
 some ((.b true),dw.2))
 else none
def bQ:Sm O:=cd
theorem lK:aa Tryz.prog 62:=Tryz.call62
theorem lL:run (O:=O) Tryz.prog [] Tryz.f62 (.n .z (.n (.n .z (.n .z .z)) (.n (.n .z (.n (.lp true 0 [(13,.one (.i .i64))] [] (.n .z (.n .z (.n (.n (.n .z (.n (.d [] [0,1,2,3,4,5,6,7,8] [0,0,3,7,0,0,48,112,255]) (.n .z .z))) .z) .z)))) .z)) .z)))=cd:=by kernel_rfl
theorem j9:ae RO Tryz.prog 62 bQ:=bt lL (aA) Tryz.func62 (by kernel_rfl)
def gl (k37 k62:Sm O):Sm O:=fun xs h=>
 bif Nat.beq xs.length 2 then
 (AV.asAgg 7 (xs.getD 0 .u)).bind fun c0=>
 kG c0 0 fun n1=>
 kG c0 1 fun n2=>
 kG c0 2 fun n3=>
 kG c0 3 fun n4=>
 (AV.aV (c0.getD 4 .u)).bind fun b5=>
 kH c0 5 fun l6=>
 kH c0 6 fun l7=>
 (AV.asAgg 7 (xs.getD 1 .u)).bind fun c8=>
 kG c8 0 fun n9=>
 kG c8 1 fun cQ=>
 kG c8 2 fun dZ=>
 kG c8 3 fun dy=>
 (AV.aV (c8.getD 4 .u)).bind fun Zs=>
 kH c8 5 fun H3=>
 kH c8 6 fun Rh=>
 let zI:=h.bump 2
 let Ln:=zI.put h.next (.cells true 50 [(.i .i64 n1),(.i .i64 n2),(.i .i64 n3),(.i .i64 n4),(.b b5),(.sl l6.1 l6.2),(.sl l7.1 l7.2)])
 let qp:=Ln.put (h.next+1) (.cells true 50 [(.i .i64 n9),(.i .i64 cQ),(.i .i64 dZ),(.i .i64 dy),(.b Zs),(.sl H3.1 H3.2),(.sl Rh.1 Rh.2)])
 bI qp (.n h.next) 0 fun nv=>
 bI qp (.n h.next) 1 fun fC=>
 bI qp (.n h.next) 2 fun rZ=>
 bI qp (.n h.next) 3 fun ji=>
 (qp.ld (.n h.next) 4).bind fun yM=>
 (AV.aV yM).bind fun b28=>
 bI qp (.n (h.next+1)) 0 fun ot=>
 bI qp (.n (h.next+1)) 1 fun lJ=>
 bI qp (.n (h.next+1)) 2 fun wg=>
 bI qp (.n (h.next+1)) 3 fun GU=>
 (qp.ld (.n (h.next+1)) 4).bind fun M1=>
 (AV.aV M1).bind fun b38=>
 ((bif (((((nv:Int) == ot) && (((fC:Int) == lJ) && true)) && (((rZ:Int) == wg) && (((ji:Int) == GU) && ((b28 == b38) && true)))) == true) then
 cJ qp (.n h.next) 5 fun P8=>
 cJ qp (.n (h.next+1)) 5 fun l42=>
 (k37 [(.sl P8.1 P8.2),(.sl l42.1 l42.2)] qp).bind fun r43=>
 (AV.aV r43.1).bind fun b44=>
 some ([(.b b44)],r43.2)
 else some ([(.b false)],qp)):Option (List AV × AH O)).bind fun SJ=>
 (AV.aV (SJ.1.getD 0 .u)).bind fun b46=>
 ((bif (b46 == true) then
 cJ SJ.2 (.n h.next) 6 fun l48=>
 cJ SJ.2 (.n (h.next+1)) 6 fun l50=>
 (k62 [(.sl l48.1 l48.2),(.sl l50.1 l50.2)] SJ.2).bind fun r51=>
 (AV.aV r51.1).bind fun b52=>
 some ([(.b b52)],r51.2)
 else some ([(.b false)],SJ.2)):Option (List AV × AH O)).bind fun JV=>
 (AV.aV (JV.1.getD 0 .u)).bind fun b54=>
 some ((.b b54),JV.2)
 else none
def ee:Sm O:=gl bZ bQ
theorem oZ:aa Tryz.prog 36:=Tryz.call36
theorem Cf (k37 k62:Sm O):run (O:=O) Tryz.prog [(37,k37),(62,k62)] Tryz.f36 (.n .z (.n (.g [(5,5,[(16,.one .b)]),(12,5,[(23,.one .b)])]) .z))=gl k37 k62:=by kernel_rfl
theorem mr:ae RO Tryz.prog 36 ee:=bt (Cf _ _) (af iu gf <| af lK j9 <| aA) Tryz.func36 (by kernel_rfl)
def di (l0:SA × Nat) (l1:SA × Nat) (k36:Sm O) (f2:Option (Fn × List AV × List AV)):List AV × AH O → Option ((List AV × AH O) ⊕ ((List AV × AH O) ⊕ (AV × AH O))):=(fun r3=>
 (AV.ag .i64 (r3.1.getD 0 .u)).bind fun n4=>
 (bif (decide (n4<(l0.2:Int))) then
 let h5:=r3.2.bump 1
 (bif ((decide ((0:Int) ≤ n4)) && (decide (n4<(l0.2:Int)))) then
 (SA.ref l0.1).bind fun q6=>
 bI h5 q6.1 (q6.2+(n4.toNat*7)) fun n8=>
 bI h5 q6.1 ((q6.2+(n4.toNat*7))+1) fun cQ=>
 bI h5 q6.1 (((q6.2+(n4.toNat*7))+1)+1) fun dy=>
 bI h5 q6.1 ((((q6.2+(n4.toNat*7))+1)+1)+1) fun fW=>
 (h5.ld q6.1 (((((q6.2+(n4.toNat*7))+1)+1)+1)+1)).bind fun tx=>
 (AV.aV tx).bind fun WN=>
 cJ h5 q6.1 ((((((q6.2+(n4.toNat*7))+1)+1)+1)+1)+1) fun l18=>
 cJ h5 q6.1 (((((((q6.2+(n4.toNat*7))+1)+1)+1)+1)+1)+1) fun XR=>
 let Rt:=h5.put r3.2.next (.cells true 50 [(.i .i64 0),(.i .i64 0),(.i .i64 0),(.i .i64 0),(.b false),(.sl .nil 0),(.sl .nil 0)])
 (Rt.st (.n r3.2.next) 0 [(.i .i64 n8),(.i .i64 cQ),(.i .i64 dy),(.i .i64 fW),(.b WN),(.sl l18.1 l18.2),(.sl XR.1 XR.2)]).bind fun H5=>
 let tW:=H5.bump 1
 (bif ((decide ((0:Int) ≤ n4)) && (decide (n4<(l1.2:Int)))) then
 (SA.ref l1.1).bind fun wR=>
 bI tW wR.1 (wR.2+(n4.toNat*7)) fun ji=>
 bI tW wR.1 ((wR.2+(n4.toNat*7))+1) fun jo=>
 bI tW wR.1 (((wR.2+(n4.toNat*7))+1)+1) fun ot=>
 bI tW wR.1 ((((wR.2+(n4.toNat*7))+1)+1)+1) fun lJ=>
 (tW.ld wR.1 (((((wR.2+(n4.toNat*7))+1)+1)+1)+1)).bind fun FE=>
 (AV.aV FE).bind fun b34=>
 cJ tW wR.1 ((((((wR.2+(n4.toNat*7))+1)+1)+1)+1)+1) fun l36=>
 cJ tW wR.1 (((((((wR.2+(n4.toNat*7))+1)+1)+1)+1)+1)+1) fun l38=>
 let Od:=tW.put H5.next (.cells true 50 [(.i .i64 0),(.i .i64 0),(.i .i64 0),(.i .i64 0),(.b false),(.sl .nil 0),(.sl .nil 0)])
 (Od.st (.n H5.next) 0 [(.i .i64 ji),(.i .i64 jo),(.i .i64 ot),(.i .i64 lJ),(.b b34),(.sl l36.1 l36.2),(.sl l38.1 l38.2)]).bind fun wS=>
 bI wS (.n r3.2.next) 0 fun Oe=>
 bI wS (.n r3.2.next) 1 fun SI=>
 bI wS (.n r3.2.next) 2 fun Ue=>
 bI wS (.n r3.2.next) 3 fun WC=>
 (wS.ld (.n r3.2.next) 4).bind fun w49=>
 (AV.aV w49).bind fun b50=>
 cJ wS (.n r3.2.next) 5 fun l52=>
 cJ wS (.n r3.2.next) 6 fun l54=>
 bI wS (.n H5.next) 0 fun SG=>
 bI wS (.n H5.next) 1 fun Uk=>
 bI wS (.n H5.next) 2 fun Zq=>
 bI wS (.n H5.next) 3 fun n62=>
 (wS.ld (.n H5.next) 4).bind fun w63=>
 (AV.aV w63).bind fun b64=>
 cJ wS (.n H5.next) 5 fun l66=>
 cJ wS (.n H5.next) 6 fun l68=>
 (JA [(36,k36)] f2 [(.agg [(.i .i64 Oe),(.i .i64 SI),(.i .i64 Ue),(.i .i64 WC),(.b b50),(.sl l52.1 l52.2),(.sl l54.1 l54.2)]),(.agg [(.i .i64 SG),(.i .i64 Uk),(.i .i64 Zq),(.i .i64 n62),(.b b64),(.sl l66.1 l66.2),(.sl l68.1 l68.2)])] wS).bind fun r69=>
 (AV.aV r69.1).bind fun b70=>
 (bif (!b70) then
 ((some ((.b false),r69.2):Option (AV × AH O)).map fun r=>Sum.inr (Sum.inr r))
 else some (Sum.inl ([(.i .i64 (IntKind.i64.wrap (n4+1)))],r69.2)))
 else none)
 else none)
 else some (Sum.inr (Sum.inl ([],r3.2)))))
def cp (k36:Sm O):Sm O:=fun xs h=>
 bif Nat.beq xs.length 3 then
 kH xs 0 fun l0=>
 kH xs 1 fun l1=>
 (AV.Qt (xs.getD 2 .u)).bind fun f2=>
 (bif (((l0.2:Int):Int) != (l1.2:Int)) then
 some ((.b false),h)
 else bK (S:=List AV × AH O) (R:=(AV × AH O)) (aQ (S:=List AV × AH O) (T:=(List AV × AH O) ⊕ (AV × AH O)) (di l0 l1 k36 f2) ([(.i .i64 0)],h)) fun r71=>
 some ((.b true),r71.2))
 else none
def bV:Sm O:=cp ee
theorem mu:aa Tryz.prog 35:=Tryz.call35
theorem mw (k36:Sm O):run (O:=O) Tryz.prog [(36,k36)] Tryz.f35 (.n .z (.n (.n .z (.n .z .z)) (.n (.n .z (.n (.lp true 0 [(17,.one (.i .i64))] [] (.n .z (.n .z (.n (.n (.n .z (.n .z (.n .z (.n .z .z)))) .z) .z)))) .z)) .z)))=cp k36:=by kernel_rfl
theorem kS:ae RO Tryz.prog 35 bV:=bt (mw _) (af oZ mr <| aA) Tryz.func35 (by kernel_rfl)
def yr (k35 k36 k37:Sm O):Sm O:=fun xs h=>
 bif Nat.beq xs.length 2 then
 (AV.asAgg 3 (xs.getD 0 .u)).bind fun c0=>
 kH c0 0 fun l1=>
 kH c0 1 fun l2=>
 kH c0 2 fun l3=>
 (AV.asAgg 3 (xs.getD 1 .u)).bind fun c4=>
 kH c4 0 fun l5=>
 kH c4 1 fun l6=>
 kH c4 2 fun l7=>
 let h8:=h.bump 2
 let h9:=h8.put h.next (.cells true 25 [(.sl l1.1 l1.2),(.sl l2.1 l2.2),(.sl l3.1 l3.2)])
 let gS:=h9.put (h.next+1) (.cells true 25 [(.sl l5.1 l5.2),(.sl l6.1 l6.2),(.sl l7.1 l7.2)])
 cJ gS (.n h.next) 0 fun l12=>
 cJ gS (.n (h.next+1)) 0 fun H3=>
 (k35 [(.sl l12.1 l12.2),(.sl H3.1 H3.2),(.fn (some (.func 36,[],[])))] gS).bind fun ij=>
 (AV.aV ij.1).bind fun WN=>
 ((bif (WN == true) then
 cJ ij.2 (.n h.next) 1 fun l18=>
 cJ ij.2 (.n (h.next+1)) 1 fun XR=>
 (k37 [(.sl l18.1 l18.2),(.sl XR.1 XR.2)] ij.2).bind fun Bt=>
 (AV.aV Bt.1).bind fun b22=>
 some ([(.b b22)],Bt.2)
 else some ([(.b false)],ij.2)):Option (List AV × AH O)).bind fun zG=>
 (AV.aV (zG.1.getD 0 .u)).bind fun b24=>
 ((bif (b24 == true) then
 cJ zG.2 (.n h.next) 2 fun T9=>
 cJ zG.2 (.n (h.next+1)) 2 fun Re=>
 (k37 [(.sl T9.1 T9.2),(.sl Re.1 Re.2)] zG.2).bind fun JT=>
 (AV.aV JT.1).bind fun b30=>
 some ([(.b b30)],JT.2)
 else some ([(.b false)],zG.2)):Option (List AV × AH O)).bind fun Lp=>
 (AV.aV (Lp.1.getD 0 .u)).bind fun b32=>
 some ((.b b32),Lp.2)
 else none
def nX:Sm O:=yr bV ee bZ
theorem M6:aa Tryz.prog 11:=Tryz.call11
theorem M7 (k35 k36 k37:Sm O):run (O:=O) Tryz.prog [(35,k35),(36,k36),(37,k37)] Tryz.f11 (.n .z (.n (.g [(5,5,[(16,.one .b)]),(12,5,[(23,.one .b)])]) .z))=yr k35 k36 k37:=by kernel_rfl
theorem IY:ae RO Tryz.prog 11 nX:=bt (M7 _ _ _) (af mu kS <| af oZ mr <| af iu gf <| aA) Tryz.func11 (by kernel_rfl)
end
end Go.Abs.Tryz
