/-
  What functions of the program do. No conditions.
-/
import Derived.Test.YtncohicmiihjiaaGreatS9e
import Derived.Test.YtncohicmiihjiaaGreatProg
import Derived.KernelRfl
set_option linter.unusedVariables false
set_option linter.unusedSimpArgs false
set_option linter.constructorNameAsVariable false
set_option maxRecDepth 100000
namespace Go.Abs.Tryz
open Go Go.Abs Go.Proofs
noncomputable section
variable {O:Type} {RO:O->Loc->(Nat->Option Obj)->Prop}
def Yk:Sm O:=fun xs h=>
 bif Nat.beq xs.length 1 then
 (AV.bH (xs.getD 0 .u)).bind fun p0=>
 Option.bind p0 fun q1=>
 ai h q1.1 ((q1.2+3)+1) fun n3=>
 some ((.i .i64 n3),h)
 else none
def Ti:Sm O:=Yk
theorem qrl:ag Tryz.prog 35:=Tryz.call35
theorem qrm:run (O:=O) Tryz.prog [] Tryz.f35 (.n .z .z)=Yk:=by kernel_rfl
theorem qrn:ah RO Tryz.prog 35 Ti:=bJ qrm (aJ) Tryz.func35 (by kernel_rfl)
def qro (qm wq:Sm O):Sm O:=fun xs h=>
 bif Nat.beq xs.length 2 then
 (AV.asAgg 5 (xs.getD 0 .u)).bind fun c0=>
 (AV.bH (c0.getD 0 .u)).bind fun p1=>
 au c0 1 fun n2=>
 au c0 2 fun n3=>
 au c0 3 fun n4=>
 au c0 4 fun n5=>
 au xs 1 fun n6=>
 let h7:=h.ax 1
 let h8:=h7.put h.next (.cells true 184 [(.p p1),(.i .i64 n2),(.i .i64 n3),(.i .i64 n4),(.i .i64 n5)])
 cV h8 (.n h.next) 0 fun vm=>
 ai h8 (.n h.next) 1 fun eB=>
 ai h8 (.n h.next) 2 fun ig=>
 ai h8 (.n h.next) 3 fun iy=>
 ai h8 (.n h.next) 4 fun iM=>
 (qm [(.agg [(.p vm),(.i .i64 eB),(.i .i64 ig),(.i .i64 iy),(.i .i64 iM)]),(.i .i64 n6)] h8).bind fun gY=>
 (AV.aX .i64 gY.1).bind fun jK=>
 (bif ((jK:Int) != 0) then
 some ((.aG [(.i .i64 0),(.i .i64 jK)]),gY.2)
 else cV gY.2 (.n h.next) 0 fun UO=>
 ai gY.2 (.n h.next) 1 fun np=>
 ai gY.2 (.n h.next) 2 fun eJ=>
 ai gY.2 (.n h.next) 3 fun nq=>
 ai gY.2 (.n h.next) 4 fun lN=>
 ai gY.2 (.n h.next) 3 fun nu=>
 (wq [(.agg [(.p UO),(.i .i64 np),(.i .i64 eJ),(.i .i64 nq),(.i .i64 lN)]),(.i .i64 n6),(.i .i64 nu)] gY.2).bind fun lL=>
 (AV.aX .i64 lL.1).bind fun sL=>
 some ((.aG [(.i .i64 sL),(.i .i64 0)]),lL.2))
 else none
def YO:Sm O:=qro VP YJ
theorem qrq:ag Tryz.prog 125:=Tryz.call125
theorem qrr (qm wq:Sm O):run (O:=O) Tryz.prog [(165,qm),(166,wq)] Tryz.f125 (.n .z (.n (.n .z (.n .z (.n .z .z))) .z))=qro qm wq:=by kernel_rfl
theorem qrs:ah RO Tryz.prog 125 YO:=bJ (qrr _ _) (ab qic qie <| ab qpx qpz <| aJ) Tryz.func125 (by kernel_rfl)
def qrt (zk gf eN:Sm O):Sm O:=fun xs h=>
 bif Nat.beq xs.length 2 then
 (AV.bH (xs.getD 0 .u)).bind fun p0=>
 au xs 1 fun n1=>
 (zk [(.p p0),(.i .i64 n1)] h).bind fun r2=>
 (AV.az 2 r2.1).bind fun c3=>
 cf c3 0 fun n4=>
 (AV.aZ (c3.getD 1 .u)).bind fun b5=>
 ((bif ((!b5) == false) then
 some ([(.b (((bK .and .u64 n4 1):Int) == 0))],r2.2)
 else some ([(.b true)],r2.2)):Option (List AV × AH O)).bind fun r6=>
 (AV.aZ (r6.1.getD 0 .u)).bind fun b7=>
 (bif b7 then
 some ((.i .i64 4),r6.2)
 else Option.bind p0 fun q8=>
 cV r6.2 q8.1 q8.2 fun vm=>
 Option.bind p0 fun Ha=>
 ai r6.2 Ha.1 (Ha.2+1) fun fE=>
 let v14:Int:=(IntKind.u64.wrap ((IntKind.u64.wrap ((Int.fdiv n4 (2 ^ 1))+1))*2 ^ 1))
 (gf [(.p p0),(.i .i64 n1),(.i .i64 (-1))] r6.2).bind fun iw=>
 (AV.aX .i64 iw.1).bind fun iy=>
 (aO (iw.2.ld q8.1 q8.2) (some (.p vm))).bind fun _=>
 (aO (iw.2.ld Ha.1 (Ha.2+1)) (some (.i .i64 fE))).bind fun _=>
 (eN [(.p vm),(.i .i64 fE),(.i .i64 iy),(.i .u64 v14)] iw.2).bind fun fP=>
 (AV.aX .i64 fP.1).bind fun iM=>
 Option.bind p0 fun Hb=>
 cV fP.2 Hb.1 Hb.2 fun Wv=>
 Option.bind p0 fun UM=>
 ai fP.2 UM.1 (UM.2+1) fun np=>
 Option.bind p0 fun MV=>
 ai fP.2 MV.1 (MV.2+5) fun qy=>
 (gf [(.p p0),(.i .i64 n1),(.i .i64 0)] fP.2).bind fun zM=>
 (AV.aX .i64 zM.1).bind fun xO=>
 (aO (zM.2.ld Hb.1 Hb.2) (some (.p Wv))).bind fun _=>
 (aO (zM.2.ld UM.1 (UM.2+1)) (some (.i .i64 np))).bind fun _=>
 (aO (zM.2.ld MV.1 (MV.2+5)) (some (.i .i64 qy))).bind fun _=>
 (eN [(.p Wv),(.i .i64 np),(.i .i64 xO),(.i .u64 (IntKind.u64.wrap qy))] zM.2).bind fun WK=>
 (AV.aX .i64 WK.1).bind fun wg=>
 Option.bind p0 fun UI=>
 (WK.2.st UI.1 (UI.2+5) [(.i .i64 n1)]).bind fun sM=>
 Option.bind p0 fun oK=>
 ai sM oK.1 (oK.2+6) fun qd=>
 Option.bind p0 fun LW=>
 (sM.st LW.1 (LW.2+6) [(.i .i64 (IntKind.i64.wrap (qd - 1)))]).bind fun Fx=>
 some ((.i .i64 0),Fx))
 else none
def qru:Sm O:=qrt YB EJ yO
theorem qrv:ag Tryz.prog 127:=Tryz.call127
theorem qrw (zk gf eN:Sm O):run (O:=O) Tryz.prog [(168,zk),(159,gf),(141,eN)] Tryz.f127 (.n .z (.n .z (.n (.n (.g [(2,3,[(19,.one .b)])]) (.n .z .z)) (.n (.d [] [0,1,2,3,4,5,6,7,8,9,11,12,13,14,10,15] [0,1,3,7,0,16,48,112,0,0,768,0,2048,6144,14336,32767]) (.n (.d [] [0,1,2,3,4,5,6,7,8,9,11,12,13,14,15,10,16] [0,1,3,7,0,16,48,112,0,0,768,0,2048,6144,14336,30720,65535]) (.n .z (.n .z .z)))))))=qrt zk gf eN:=by kernel_rfl
theorem qrx:ah RO Tryz.prog 127 qru:=bJ (qrw _ _ _) (ab qgy qg0 <| ab qfa qfc <| ab UE UF <| aJ) Tryz.func127 (by kernel_rfl)
def qry (n6:Int) (gD:Sm O) (p0:Option (fJ × Nat)) (vu:Sm O) (js:Sm O) (nE:Sm O) (Hs:Sm O):List AV × AH O->Option ((List AV × AH O) ⊕ (List AV × AH O)):=(fun r7=>
 (AV.aX .i64 (r7.1.getD 0 .u)).bind fun n8=>
 (AV.aX .i64 (r7.1.getD 1 .u)).bind fun n9=>
 (AV.aX .i64 (r7.1.getD 2 .u)).bind fun eu=>
 (AV.aX .i64 (r7.1.getD 3 .u)).bind fun fc=>
 (bif (decide (fc<n6)) then
 (gD [(.p p0)] r7.2).bind fun ij=>
 (AV.asAgg 5 ij.1).bind fun Fm=>
 (AV.bH (Fm.getD 0 .u)).bind fun p14=>
 au Fm 1 fun dU=>
 au Fm 2 fun iy=>
 au Fm 3 fun fq=>
 au Fm 4 fun iM=>
 (vu [(.agg [(.p p14),(.i .i64 dU),(.i .i64 iy),(.i .i64 fq),(.i .i64 iM)]),(.i .i64 eu)] ij.2).bind fun gY=>
 (AV.az 2 gY.1).bind fun Fi=>
 au Fi 0 fun nR=>
 au Fi 1 fun gZ=>
 Option.bind p0 fun Lw=>
 cV gY.2 Lw.1 (Lw.2+1) fun zQ=>
 (js [(.p zQ),(.i .i64 eu),(.i .i64 0)] gY.2).bind fun nS=>
 (AV.az 2 nS.1).bind fun BC=>
 cf BC 0 fun nq=>
 au BC 1 fun xO=>
 Option.bind p0 fun q30=>
 cV nS.2 q30.1 (q30.2+1) fun p32=>
 (js [(.p p32),(.i .i64 eu),(.i .i64 1)] nS.2).bind fun lL=>
 (AV.az 2 lL.1).bind fun c34=>
 cf c34 0 fun zn=>
 au c34 1 fun qd=>
 Option.bind p0 fun LW=>
 cV lL.2 LW.1 LW.2 fun p39=>
 (nE [(.p p39),(.i .i64 (IntKind.i64.wrap nq))] lL.2).bind fun Ft=>
 (AV.aX .i64 Ft.1).bind fun Hi=>
 Option.bind p0 fun RF=>
 cV Ft.2 RF.1 (RF.2+1) fun p44=>
 (Hs [(.p p44),(.i .i64 eu)] Ft.2).bind fun LY=>
 (AV.aX .i64 LY.1).bind fun G6=>
 some (Sum.inl ([(.i .i64 (IntKind.i64.wrap (n8+1))),(.i .i64 (IntKind.i64.wrap (n9+(IntKind.i64.wrap zn)))),(.i .i64 nR),(.i .i64 (IntKind.i64.wrap (fc+1)))],LY.2))
 else some (Sum.inr ([(.i .i64 n8),(.i .i64 n9)],r7.2))))
def qrz (gD vu js nE Hs:Sm O):Sm O:=fun xs h=>
 bif Nat.beq xs.length 1 then
 (AV.bH (xs.getD 0 .u)).bind fun p0=>
 Option.bind p0 fun q1=>
 ai h q1.1 (q1.2+5) fun n3=>
 Option.bind p0 fun q4=>
 ai h q4.1 ((q4.2+5)+2) fun n6=>
 (bu (S:=List AV × AH O) (T:=List AV × AH O) (qry n6 gD p0 vu js nE Hs) ([(.i .i64 0),(.i .i64 0),(.i .i64 n3),(.i .i64 0)],h)).bind fun HZ=>
 (AV.aX .i64 (HZ.1.getD 0 .u)).bind fun DN=>
 (AV.aX .i64 (HZ.1.getD 1 .u)).bind fun sn=>
 Option.bind p0 fun q50=>
 (HZ.2.st q50.1 (q50.2+5) [(.i .i64 0),(.i .i64 0),(.i .i64 0)]).bind fun GZ=>
 Option.bind p0 fun q52=>
 ai GZ q52.1 (q52.2+10) fun zO=>
 Option.bind p0 fun Z5=>
 (GZ.st Z5.1 (Z5.2+10) [(.i .i64 (IntKind.i64.wrap (zO - sn)))]).bind fun h56=>
 some ((.aG [(.i .i64 DN),(.i .i64 sn)]),h56)
 else none
def qr0:Sm O:=qrz Ou YO Q5 Kt qru
theorem qr1:ag Tryz.prog 75:=Tryz.call75
theorem qr2 (gD vu js nE Hs:Sm O):run (O:=O) Tryz.prog [(100,gD),(125,vu),(119,js),(126,nE),(127,Hs)] Tryz.f75 (.n .z (.n .z (.n (.n .z (.n (.lp false 0 [(2,.one (.i .i64)),(3,.one (.i .i64)),(4,.one (.i .i64)),(21,.one (.i .i64))] [(2,.one (.i .i64)),(3,.one (.i .i64))] (.n .z (.n .z (.n (.n (.n .z (.n .z (.n .z (.n .z (.n .z .z))))) .z) .z)))) .z)) (.n .z (.n .z .z)))))=qrz gD vu js nE Hs:=by kernel_rfl
theorem qr3:ah RO Tryz.prog 75 qr0:=bJ (qr2 _ _ _ _ _) (ab qhn qhp <| ab qrq qrs <| ab qi1 qi3 <| ab qgt qgv <| ab qrv qrx <| aJ) Tryz.func75 (by kernel_rfl)
def qr4 (nE:Sm O):Sm O:=fun xs h=>
 bif Nat.beq xs.length 1 then
 (AV.bH (xs.getD 0 .u)).bind fun p0=>
 Option.bind p0 fun q1=>
 (h.ld q1.1 (q1.2+5)).bind fun w2=>
 (AV.aZ w2).bind fun b3=>
 (bif (!b3) then
 some ((.i .i64 4),h)
 else Option.bind p0 fun q4=>
 cV h q4.1 q4.2 fun p6=>
 Option.bind p0 fun q7=>
 ai h q7.1 (q7.2+3) fun n9=>
 (nE [(.p p6),(.i .i64 n9)] h).bind fun ee=>
 (AV.aX .i64 ee.1).bind fun fc=>
 Option.bind p0 fun zj=>
 (ee.2.st zj.1 (zj.2+3) [(.i .i64 0),(.i .i64 0)]).bind fun lz=>
 Option.bind p0 fun qh=>
 (lz.st qh.1 (qh.2+5) [(.b false)]).bind fun tA=>
 some ((.i .i64 0),tA))
 else none
def qr5:Sm O:=qr4 Kt
theorem qr6:ag Tryz.prog 76:=Tryz.call76
theorem qr7 (nE:Sm O):run (O:=O) Tryz.prog [(126,nE)] Tryz.f76 (.n .z (.n (.n .z (.n .z .z)) (.n (.d [] [0,1,2,3,4,5,6,7,8,9] [0,1,3,7,0,16,48,112,240,511]) (.n .z .z))))=qr4 nE:=by kernel_rfl
theorem qr8:ah RO Tryz.prog 76 qr5:=bJ (qr7 _) (ab qgt qgv <| aJ) Tryz.func76 (by kernel_rfl)
def qr9 (jL Fy Fu oW k75 k76:Sm O):Sm O:=fun xs h=>
 bif Nat.beq xs.length 1 then
 (AV.bH (xs.getD 0 .u)).bind fun p0=>
 let h1:=h.ax 1
 let h2:=h1.put h.next (.cells true 88 [(.i .i64 0),(.i .i64 0),(.i .i64 0)])
 let h3:=h2.ax 1
 let h4:=h3.put h2.next (.cells true 88 [(.i .i64 0),(.i .i64 0),(.i .i64 0)])
 (jL [(.p p0)] h4).bind fun r5=>
 (AV.bH r5.1).bind fun p6=>
 (Fy [(.p p6)] r5.2).bind fun r7=>
 (AV.aX .i64 r7.1).bind fun n8=>
 (jL [(.p p0)] r7.2).bind fun r9=>
 (AV.bH r9.1).bind fun vm=>
 (Fu [(.p vm)] r9.2).bind fun eM=>
 (AV.aX .i64 eM.1).bind fun eB=>
 let RJ:Int:=(if 0 > (IntKind.i64.wrap (n8 - eB)) then 0 else (IntKind.i64.wrap (n8 - eB)))
 (eM.2.st (.n h2.next) 2 [(.i .i64 RJ)]).bind fun nC=>
 (oW [(.p p0)] nC).bind fun iw=>
 (AV.bH iw.1).bind fun xP=>
 (k75 [(.p xP)] iw.2).bind fun fP=>
 (AV.az 2 fP.1).bind fun LX=>
 au LX 0 fun fk=>
 au LX 1 fun jK=>
 (fP.2.st (.n h2.next) 0 [(.i .i64 fk)]).bind fun He=>
 (He.st (.n h2.next) 1 [(.i .i64 jK)]).bind fun DT=>
 (jL [(.p p0)] DT).bind fun v9=>
 (AV.bH v9.1).bind fun p24=>
 (k76 [(.p p24)] v9.2).bind fun ft=>
 (AV.aX .i64 ft.1).bind fun eJ=>
 ai ft.2 (.n h2.next) 0 fun nq=>
 ai ft.2 (.n h2.next) 1 fun lN=>
 ai ft.2 (.n h2.next) 2 fun nu=>
 (ft.2.st (.n h.next) 0 [(.i .i64 nq),(.i .i64 lN),(.i .i64 nu)]).bind fun sM=>
 ai sM (.n h.next) 0 fun zn=>
 ai sM (.n h.next) 1 fun B7=>
 ai sM (.n h.next) 2 fun vk=>
 some ((.agg [(.i .i64 zn),(.i .i64 B7),(.i .i64 vk)]),sM)
 else none
def Yj:Sm O:=qr9 xj Ti Oa BW qr0 qr5
theorem qsb:ag Tryz.prog 37:=Tryz.call37
theorem qsc (jL Fy Fu oW k75 k76:Sm O):run (O:=O) Tryz.prog [(23,jL),(35,Fy),(24,Fu),(32,oW),(75,k75),(76,k76)] Tryz.f37 (.n .z (.n .z (.n .z (.n .z (.n .z .z)))))=qr9 jL Fy Fu oW k75 k76:=by kernel_rfl
theorem qsd:ah RO Tryz.prog 37 Yj:=bJ (qsc _ _ _ _ _ _) (ab RG RH <| ab qrl qrn <| ab qnf qnh <| ab Wr Ws <| ab qr1 qr3 <| ab qr6 qr8 <| aJ) Tryz.func37 (by kernel_rfl)
def qse:Sm O:=fun xs h=>
 bif Nat.beq xs.length 1 then
 (AV.asAgg 3 (xs.getD 0 .u)).bind fun c0=>
 au c0 0 fun n1=>
 au c0 1 fun n2=>
 au c0 2 fun n3=>
 let h4:=h.ax 1
 let h5:=h4.put h.next (.cells true 88 [(.i .i64 n1),(.i .i64 n2),(.i .i64 n3)])
 ai h5 (.n h.next) 1 fun n7=>
 ai h5 (.n h.next) 2 fun n9=>
 some ((.i .i64 (IntKind.i64.wrap (n7+n9))),h5)
 else none
def Yp:Sm O:=qse
theorem qsg:ag Tryz.prog 39:=Tryz.call39
theorem qsh:run (O:=O) Tryz.prog [] Tryz.f39 (.n .z .z)=qse:=by kernel_rfl
theorem qsi:ah RO Tryz.prog 39 Yp:=bJ qsh (aJ) Tryz.func39 (by kernel_rfl)
def qsj:Sm O:=fun xs h=>
 bif Nat.beq xs.length 1 then
 (AV.bH (xs.getD 0 .u)).bind fun p0=>
 Option.bind p0 fun q1=>
 (h.ld q1.1 (q1.2+5)).bind fun w2=>
 (AV.aZ w2).bind fun b3=>
 some ((.b b3),h)
 else none
def qsk:Sm O:=qsj
theorem qsl:ag Tryz.prog 68:=Tryz.call68
theorem qsm:run (O:=O) Tryz.prog [] Tryz.f68 (.n .z .z)=qsj:=by kernel_rfl
theorem qsn:ah RO Tryz.prog 68 qsk:=bJ qsm (aJ) Tryz.func68 (by kernel_rfl)
def qso (k9 Qa Qb zS Qc Qd jL k68:Sm O):Sm O:=fun xs h=>
 bif Nat.beq xs.length 0 then
 let h0:=h.ax 1
 let h1:=h0.put h.next (.cells true 73 [(.i .i64 0),(.i .i64 0),(.i .u8 0),(.i .u64 0)])
 (h1.st (.n h.next) 0 [(.i .i64 0),(.i .i64 3),(.i .u8 0),(.i .u64 0)]).bind fun h2=>
 let h3:=h2.ax 1
 ai h3 (.n h.next) 0 fun n5=>
 ai h3 (.n h.next) 1 fun n7=>
 (h3.ld (.n h.next) 2).bind fun w8=>
 (AV.aX .u8 w8).bind fun n9=>
 cQ h3 (.n h.next) 3 fun fc=>
 ai h3 (.n h.next) 0 fun fE=>
 ai h3 (.n h.next) 1 fun dU=>
 (h3.ld (.n h.next) 2).bind fun w16=>
 (AV.aX .u8 w16).bind fun fq=>
 cQ h3 (.n h.next) 3 fun fk=>
 ai h3 (.n h.next) 0 fun nR=>
 ai h3 (.n h.next) 1 fun fm=>
 (h3.ld (.n h.next) 2).bind fun w24=>
 (AV.aX .u8 w24).bind fun qi=>
 cQ h3 (.n h.next) 3 fun qy=>
 let we:=h3.put h2.next (.cells true 73 [(.i .i64 n5),(.i .i64 n7),(.i .u8 n9),(.i .u64 fc),(.i .i64 fE),(.i .i64 dU),(.i .u8 fq),(.i .u64 fk),(.i .i64 nR),(.i .i64 fm),(.i .u8 qi),(.i .u64 qy)])
 (k9 [(.sl (.loc (.n h2.next) 0 4) 3)] we).bind fun jC=>
 (AV.az 3 jC.1).bind fun WJ=>
 (AV.bH (WJ.getD 0 .u)).bind fun Wt=>
 cT WJ 1 fun l32=>
 (AV.aZ (WJ.getD 2 .u)).bind fun b33=>
 (bif (!b33) then
 some ((.b false),jC.2)
 else (Qa [(.p Wt),(.fn none)] jC.2).bind fun Pu=>
 (AV.bH Pu.1).bind fun MY=>
 ((bif ((Option.isNone MY) == false) then
 (Qb [(.p MY)] Pu.2).bind fun r36=>
 (AV.aX .i64 r36.1).bind fun B7=>
 some ([(.b ((B7:Int) != 0))],r36.2)
 else some ([(.b true)],Pu.2)):Option (List AV × AH O)).bind fun MX=>
 (AV.aZ (MX.1.getD 0 .u)).bind fun b39=>
 (bif b39 then
 some ((.b false),MX.2)
 else (bif (decide ((1:Int)<(l32.2:Int))) then
 (SA.ref l32.1).bind fun q40=>
 cQ MX.2 q40.1 ((q40.2+8)+7) fun Ff=>
 (zS [(.p MY),(.i .u64 Ff)] MX.2).bind fun zR=>
 (AV.aX .u64 zR.1).bind fun MT=>
 let h45:=zR.2.ax 1
 (Qc [(.p Wt)] h45).bind fun RV=>
 (AV.asAgg 3 RV.1).bind fun Hj=>
 au Hj 0 fun DN=>
 au Hj 1 fun sn=>
 au Hj 2 fun zb=>
 let GZ:=RV.2.put zR.2.next (.cells true 88 [(.i .i64 0),(.i .i64 0),(.i .i64 0)])
 (GZ.st (.n zR.2.next) 0 [(.i .i64 DN),(.i .i64 sn),(.i .i64 zb)]).bind fun sI=>
 ai sI (.n zR.2.next) 0 fun zO=>
 ai sI (.n zR.2.next) 1 fun BD=>
 ai sI (.n zR.2.next) 2 fun H0=>
 ((bif ((((zO:Int) == 0) && (((BD:Int) == 0) && (((H0:Int) == 8) && true))) == true) then
 ai sI (.n zR.2.next) 0 fun B9=>
 ai sI (.n zR.2.next) 1 fun LB=>
 ai sI (.n zR.2.next) 2 fun Ba=>
 (Qd [(.agg [(.i .i64 B9),(.i .i64 LB),(.i .i64 Ba)])] sI).bind fun wo=>
 (AV.aX .i64 wo.1).bind fun vD=>
 some ([(.b ((vD:Int) == 8))],wo.2)
 else some ([(.b false)],sI)):Option (List AV × AH O)).bind fun Ih=>
 (AV.aZ (Ih.1.getD 0 .u)).bind fun b68=>
 ((bif (b68 == true) then
 (jL [(.p Wt)] Ih.2).bind fun Sb=>
 (AV.bH Sb.1).bind fun p70=>
 (k68 [(.p p70)] Sb.2).bind fun r71=>
 (AV.aZ r71.1).bind fun b72=>
 some ([(.b (!b72))],r71.2)
 else some ([(.b false)],Ih.2)):Option (List AV × AH O)).bind fun r73=>
 (AV.aZ (r73.1.getD 0 .u)).bind fun b74=>
 some ((.b b74),r73.2)
 else none)))
 else none
def Yn:Sm O:=qso XV Zi Zj zG Yj Yp xj qsk
theorem qsq:ag Tryz.prog 28:=Tryz.call28
theorem qsr (k9 Qa Qb zS Qc Qd jL k68:Sm O):run (O:=O) Tryz.prog [(9,k9),(10,Qa),(11,Qb),(12,zS),(37,Qc),(39,Qd),(23,jL),(68,k68)] Tryz.f28 (.n .z (.n .z (.n .z (.n (.n .z (.n .z .z)) (.n .z (.n (.n (.g [(2,3,[(28,.one .b)])]) (.n .z .z)) (.n .z (.n .z (.n (.g [(3,3,[(44,.one .b)]),(8,4,[(50,.one .b)])]) .z)))))))))=qso k9 Qa Qb zS Qc Qd jL k68:=by kernel_rfl
theorem qss:ah RO Tryz.prog 28 Yn:=bJ (qsr _ _ _ _ _ _ _ _) (ab qmv qmx <| ab qm5 qm7 <| ab qnz qn1 <| ab qqh qqj <| ab qsb qsd <| ab qsg qsi <| ab RG RH <| ab qsl qsn <| aJ) Tryz.func28 (by kernel_rfl)
def Yo:Sm O:=fun xs h=>
 bif Nat.beq xs.length 1 then
 (AV.asAgg 3 (xs.getD 0 .u)).bind fun c0=>
 cT c0 0 fun l1=>
 cT c0 1 fun l2=>
 cT c0 2 fun l3=>
 let h4:=h.ax 1
 let h5:=h4.put h.next (.cells true 78 [(.sl l1.1 l1.2),(.sl l2.1 l2.2),(.sl l3.1 l3.2)])
 aV h5 (.n h.next) 0 fun l7=>
 ((bif ((decide ((l7.2:Int)<=14)) == true) then
 aV h5 (.n h.next) 1 fun l9=>
 some ([(.b (decide ((l9.2:Int)<=40)))],h5)
 else some ([(.b false)],h5)):Option (List AV × AH O)).bind fun ee=>
 (AV.aZ (ee.1.getD 0 .u)).bind fun Lx=>
 ((bif (Lx == true) then
 aV ee.2 (.n h.next) 2 fun DE=>
 some ([(.b (decide ((DE.2:Int)<=10)))],ee.2)
 else some ([(.b false)],ee.2)):Option (List AV × AH O)).bind fun ej=>
 (AV.aZ (ej.1.getD 0 .u)).bind fun JR=>
 some ((.b JR),ej.2)
 else none
def VL:Sm O:=Yo
theorem qsv:ag Tryz.prog 29:=Tryz.call29
theorem qsw:run (O:=O) Tryz.prog [] Tryz.f29 (.n .z (.n (.g [(4,4,[(12,.one .b)]),(10,4,[(18,.one .b)])]) .z))=Yo:=by kernel_rfl
theorem qsx:ah RO Tryz.prog 29 VL:=bJ qsw (aJ) Tryz.func29 (by kernel_rfl)
def qsy (qe:Sm O):Sm O:=fun xs h=>
 bif Nat.beq xs.length 2 then
 (AV.asAgg 2 (xs.getD 0 .u)).bind fun c0=>
 au c0 0 fun n1=>
 au c0 1 fun n2=>
 au xs 1 fun n3=>
 let h4:=h.ax 1
 let h5:=h4.put h.next (.cells true 37 [(.i .i64 n1),(.i .i64 n2)])
 ai h5 (.n h.next) 0 fun n7=>
 ai h5 (.n h.next) 1 fun n9=>
 (qe [(.agg [(.i .i64 n7),(.i .i64 n9)])] h5).bind fun ee=>
 (AV.aZ ee.1).bind fun Lx=>
 ((bif ((!Lx) == false) then
 some ([(.b (decide (n3<0)))],ee.2)
 else some ([(.b true)],ee.2)):Option (List AV × AH O)).bind fun ij=>
 (AV.aZ (ij.1.getD 0 .u)).bind fun Pt=>
 ((bif (Pt == false) then
 ai ij.2 (.n h.next) 0 fun dU=>
 some ([(.b (decide (n3>=dU)))],ij.2)
 else some ([(.b true)],ij.2)):Option (List AV × AH O)).bind fun gR=>
 (AV.aZ (gR.1.getD 0 .u)).bind fun Fh=>
 (bif Fh then
 some ((.aG [(.i .i64 0),(.i .i64 32)]),gR.2)
 else some ((.aG [(.i .i64 (IntKind.i64.wrap (1+n3))),(.i .i64 0)]),gR.2))
 else none
def qsz:Sm O:=qsy TO
theorem qs0:ag Tryz.prog 160:=Tryz.call160
theorem qs1 (qe:Sm O):run (O:=O) Tryz.prog [(145,qe)] Tryz.f160 (.n .z (.n (.n (.g [(3,2,[(12,.one .b)]),(7,4,[(18,.one .b)])]) (.n .z .z)) .z))=qsy qe:=by kernel_rfl
theorem qs2:ah RO Tryz.prog 160 qsz:=bJ (qs1 _) (ab qcz qc1 <| aJ) Tryz.func160 (by kernel_rfl)
def qs3 (Ce Qe qp Cf:Sm O):Sm O:=fun xs h=>
 bif Nat.beq xs.length 4 then
 (AV.bH (xs.getD 0 .u)).bind fun p0=>
 cf xs 1 fun n1=>
 au xs 2 fun n2=>
 cf xs 3 fun n3=>
 let h4:=h.ax 1
 (Ce [(.p p0),(.i .u64 n1)] h4).bind fun r5=>
 (AV.az 2 r5.1).bind fun c6=>
 (AV.asAgg 5 (c6.getD 0 .u)).bind fun c7=>
 au c7 0 fun n8=>
 au c7 1 fun n9=>
 au c7 2 fun eu=>
 au c7 3 fun fc=>
 (AV.aZ (c7.getD 4 .u)).bind fun uQ=>
 au c6 1 fun fE=>
 let nC:=r5.2.put h.next (.cells true 39 [(.i .i64 0),(.i .i64 0),(.i .i64 0),(.i .i64 0),(.b false)])
 (nC.st (.n h.next) 0 [(.i .i64 n8),(.i .i64 n9),(.i .i64 eu),(.i .i64 fc),(.b uQ)]).bind fun tA=>
 (bif ((fE:Int) != 0) then
 some ((.i .i64 fE),tA)
 else ai tA (.n h.next) 0 fun fq=>
 ai tA (.n h.next) 1 fun fk=>
 (Qe [(.agg [(.i .i64 fq),(.i .i64 fk)]),(.i .i64 n2)] tA).bind fun gC=>
 (AV.az 2 gC.1).bind fun xQ=>
 au xQ 0 fun gZ=>
 au xQ 1 fun fm=>
 (bif ((fm:Int) != 0) then
 some ((.i .i64 fm),gC.2)
 else (qp [(.i .u64 n3)] gC.2).bind fun kV=>
 (AV.aX .i64 kV.1).bind fun qi=>
 (bif ((qi:Int) == 3) then
 some ((.i .i64 5),kV.2)
 else (Cf [(.p p0),(.i .u64 n1),(.i .i64 gZ),(.i .u64 n3)] kV.2).bind fun nS=>
 (AV.aX .i64 nS.1).bind fun qy=>
 some ((.i .i64 qy),nS.2))))
 else none
def Tb:Sm O:=qs3 Q1 qsz De OD
theorem qs5:ag Tryz.prog 120:=Tryz.call120
theorem qs6 (Ce Qe qp Cf:Sm O):run (O:=O) Tryz.prog [(13,Ce),(160,Qe),(53,qp),(97,Cf)] Tryz.f120 (.n .z (.n .z (.n (.n .z (.n .z .z)) (.n .z (.n (.n (.n .z (.n .z (.n .z (.n .z .z)))) .z) .z)))))=qs3 Ce Qe qp Cf:=by kernel_rfl
theorem qs7:ah RO Tryz.prog 120 Tb:=bJ (qs6 _ _ _ _) (ab qlz ql1 <| ab qs0 qs2 <| ab Wy Wz <| ab ql9 qmb <| aJ) Tryz.func120 (by kernel_rfl)
def ZM (PR:Sm O):Sm O:=fun xs h=>
 bif Nat.beq xs.length 4 then
 (AV.asAgg 5 (xs.getD 0 .u)).bind fun c0=>
 au c0 0 fun n1=>
 au c0 1 fun n2=>
 au c0 2 fun n3=>
 au c0 3 fun n4=>
 cT c0 4 fun l5=>
 au xs 1 fun n6=>
 au xs 2 fun n7=>
 cf xs 3 fun n8=>
 let h9:=h.ax 2
 let fM:=h9.put h.next (.cells true 105 [(.i .i64 n1),(.i .i64 n2),(.i .i64 n3),(.i .i64 n4),(.sl l5.1 l5.2)])
 let hU:=fM.put (h.next+1) (.cells true 105 [(.i .i64 0),(.i .i64 0),(.i .i64 0),(.i .i64 0),(.sl .nil 0)])
 let mO:=hU.ax 1
 aV mO (.n h.next) 4 fun sH=>
 (bif ((decide ((0:Int)<=n6)) && (decide (n6<(sH.2:Int)))) then
 (SA.ref sH.1).bind fun kW=>
 ai mO kW.1 (kW.2+(n6.toNat*8)) fun fq=>
 ai mO kW.1 ((kW.2+(n6.toNat*8))+1) fun fk=>
 ai mO kW.1 (((kW.2+(n6.toNat*8))+1)+1) fun nR=>
 ai mO kW.1 ((((kW.2+(n6.toNat*8))+1)+1)+1) fun fm=>
 (mO.ld kW.1 (((((kW.2+(n6.toNat*8))+1)+1)+1)+1)).bind fun w24=>
 (AV.aZ w24).bind fun b25=>
 aV mO kW.1 ((((((kW.2+(n6.toNat*8))+1)+1)+1)+1)+1) fun MU=>
 aV mO kW.1 (((((((kW.2+(n6.toNat*8))+1)+1)+1)+1)+1)+1) fun DK=>
 cQ mO kW.1 ((((((((kW.2+(n6.toNat*8))+1)+1)+1)+1)+1)+1)+1) fun wg=>
 let Cg:=mO.put hU.next (.cells true 42 [(.i .i64 0),(.i .i64 0),(.i .i64 0),(.i .i64 0),(.b false),(.sl .nil 0),(.sl .nil 0),(.i .u64 0)])
 (Cg.st (.n hU.next) 0 [(.i .i64 fq),(.i .i64 fk),(.i .i64 nR),(.i .i64 fm),(.b b25),(.sl MU.1 MU.2),(.sl DK.1 DK.2),(.i .u64 wg)]).bind fun sM=>
 ((bif ((decide (n7<0)) == false) then
 aV sM (.n hU.next) 5 fun PT=>
 some ([(.b (decide (n7>=(PT.2:Int))))],sM)
 else some ([(.b true)],sM)):Option (List AV × AH O)).bind fun r36=>
 (AV.aZ (r36.1.getD 0 .u)).bind fun b37=>
 (bif b37 then
 ai r36.2 (.n h.next) 0 fun vk=>
 ai r36.2 (.n h.next) 1 fun Hi=>
 ai r36.2 (.n h.next) 2 fun vC=>
 ai r36.2 (.n h.next) 3 fun tB=>
 aV r36.2 (.n h.next) 4 fun R3=>
 (r36.2.st (.n (h.next+1)) 0 [(.i .i64 vk),(.i .i64 Hi),(.i .i64 vC),(.i .i64 tB),(.sl R3.1 R3.2)]).bind fun BA=>
 ai BA (.n (h.next+1)) 0 fun zb=>
 ai BA (.n (h.next+1)) 1 fun B4=>
 ai BA (.n (h.next+1)) 2 fun zO=>
 ai BA (.n (h.next+1)) 3 fun BD=>
 aV BA (.n (h.next+1)) 4 fun LP=>
 some ((.aG [(.agg [(.i .i64 zb),(.i .i64 B4),(.i .i64 zO),(.i .i64 BD),(.sl LP.1 LP.2)]),(.i .i64 32)]),BA)
 else let h59:=r36.2.ax 2
 let LQ:=h59.put r36.2.next (.cells true 33 [])
 aV LQ (.n hU.next) 5 fun xS=>
 (LQ.bU xS.1 xS.2 1).bind fun BF=>
 (bif (Nat.ble ((0+xS.2)*9) 35184372088832) then
 (LQ.cL (r36.2.next+1) 33 1 (.loc (.n r36.2.next) 0 1) 0 xS.2 BF).bind fun xT=>
 (AV.eG xT.1).bind fun PU=>
 (xT.2.st (.n hU.next) 5 [(.sl PU.1 PU.2)]).bind fun MR=>
 aV MR (.n hU.next) 5 fun xM=>
 (bif ((decide ((0:Int)<=n7)) && (decide (n7<(xM.2:Int)))) then
 (SA.ref xM.1).bind fun MP=>
 (MR.st MP.1 (MP.2+(n7.toNat*1)) [(.i .u64 n8)]).bind fun nv=>
 ai nv (.n h.next) 0 fun Ry=>
 ai nv (.n h.next) 1 fun Hh=>
 ai nv (.n h.next) 2 fun Bw=>
 ai nv (.n h.next) 3 fun LF=>
 aV nv (.n h.next) 4 fun zu=>
 ai nv (.n hU.next) 0 fun Pz=>
 ai nv (.n hU.next) 1 fun Ib=>
 ai nv (.n hU.next) 2 fun UP=>
 ai nv (.n hU.next) 3 fun HY=>
 (nv.ld (.n hU.next) 4).bind fun w89=>
 (AV.aZ w89).bind fun b90=>
 aV nv (.n hU.next) 5 fun R4=>
 aV nv (.n hU.next) 6 fun R5=>
 cQ nv (.n hU.next) 7 fun Ca=>
 (PR [(.agg [(.i .i64 Ry),(.i .i64 Hh),(.i .i64 Bw),(.i .i64 LF),(.sl zu.1 zu.2)]),(.i .i64 n6),(.agg [(.i .i64 Pz),(.i .i64 Ib),(.i .i64 UP),(.i .i64 HY),(.b b90),(.sl R4.1 R4.2),(.sl R5.1 R5.2),(.i .u64 Ca)])] nv).bind fun r97=>
 (AV.asAgg 5 r97.1).bind fun LR=>
 au LR 0 fun n99=>
 au LR 1 fun LJ=>
 au LR 2 fun zp=>
 au LR 3 fun Ho=>
 cT LR 4 fun BG=>
 (r97.2.st (.n (h.next+1)) 0 [(.i .i64 n99),(.i .i64 LJ),(.i .i64 zp),(.i .i64 Ho),(.sl BG.1 BG.2)]).bind fun rH=>
 ai rH (.n (h.next+1)) 0 fun sR=>
 ai rH (.n (h.next+1)) 1 fun Hp=>
 ai rH (.n (h.next+1)) 2 fun Ll=>
 ai rH (.n (h.next+1)) 3 fun Lm=>
 aV rH (.n (h.next+1)) 4 fun LS=>
 some ((.aG [(.agg [(.i .i64 sR),(.i .i64 Hp),(.i .i64 Ll),(.i .i64 Lm),(.sl LS.1 LS.2)]),(.i .i64 0)]),rH)
 else none)
 else none))
 else none)
 else none
def VC:Sm O:=vB (ZM K5)
theorem qta:ag Tryz.prog 121:=Tryz.call121
theorem qtb (PR:Sm O):run (O:=O) Tryz.prog [(98,PR)] Tryz.f121 (.n .z (.n .z (.n (.n (.g [(2,5,[(24,.one .b)])]) (.n .z .z)) (.n .z (.n .z .z)))))=ZM PR:=by kernel_rfl
theorem qtc:ah RO Tryz.prog 121 (VC):=
   have h:ah RO Tryz.prog 121 (ZM K5):=(qtb K5)▸eY (ab qmj (qml) <| aJ) mixed Tryz.func121 (by kernel_rfl) _
   h.vB
def VD (h:AH O) (iS:SA × Nat):List AV × AH O->Option ((List AV × AH O) ⊕ (List AV × AH O)):=(fun vE=>
 (AV.eG (vE.1.getD 0 .u)).bind fun M9=>
 (AV.aX .i64 (vE.1.getD 1 .u)).bind fun LF=>
 aV vE.2 (.n h.next) 2 fun zu=>
 ((bif ((decide (LF<(zu.2:Int))) == true) then
 some ([(.b (decide ((iS.2:Int) > 0)))],vE.2)
 else some ([(.b false)],vE.2)):Option (List AV × AH O)).bind fun WL=>
 (AV.aZ (WL.1.getD 0 .u)).bind fun b82=>
 (bif b82 then
 let h83:=WL.2.ax 2
 aV h83 (.n h.next) 2 fun l85=>
 (bif ((decide ((0:Int)<=LF)) && (decide (LF<(l85.2:Int)))) then
 (SA.ref l85.1).bind fun q86=>
 (h83.ld q86.1 (q86.2+(LF.toNat*1))).bind fun w87=>
 (AV.aX .u8 w87).bind fun HY=>
 (bif ((iS.2:Int) == 0) then
 none
 else let Sc:=h83.put WL.2.next (.cells true 3 [(.i .i64 (Int.tmod (IntKind.i64.wrap HY) (iS.2:Int)))])
 (Sc.bU (.loc (.n WL.2.next) 0 1) 1 1).bind fun abt=>
 (bif (Nat.ble ((M9.2+1)*9) 35184372088832) then
 (Sc.cL (WL.2.next+1) 3 1 M9.1 M9.2 1 abt).bind fun r91=>
 (AV.eG r91.1).bind fun R4=>
 some (Sum.inl ([(.sl R4.1 R4.2),(.i .i64 (IntKind.i64.wrap (LF+1)))],r91.2))
 else none))
 else none)
 else some (Sum.inr ([(.sl M9.1 M9.2)],WL.2))))
def Ta (h:AH O) (iS:SA × Nat) (Ht:Sm O) (vm:Option (fJ × Nat)) (r8:AV × AH O) (Hu:Sm O):List AV × AH O->Option ((List AV × AH O) ⊕ ((List AV × AH O) ⊕ (AV × AH O))):=(fun gR=>
 (AV.aX .i64 (gR.1.getD 0 .u)).bind fun fq=>
 aV gR.2 (.n h.next) 1 fun l19=>
 ((bif ((decide (fq<(l19.2:Int))) == true) then
 some ([(.b (decide ((iS.2:Int) > 0)))],gR.2)
 else some ([(.b false)],gR.2)):Option (List AV × AH O)).bind fun gC=>
 (AV.aZ (gC.1.getD 0 .u)).bind fun MM=>
 (bif MM then
 cE (S:=List AV × AH O) (R:=((List AV × AH O) ⊕ ((List AV × AH O) ⊕ (AV × AH O)))) ((gC.2.ld (.n h.next) 1).bind fun w22=>
 (AV.eG w22).bind fun G9=>
 (bif ((decide ((0:Int)<=fq)) && (decide (fq<(G9.2:Int)))) then
 (SA.ref G9.1).bind fun Lz=>
 (gC.2.ld Lz.1 (Lz.2+(fq.toNat*3))).bind fun w25=>
 (AV.aX .u8 w25).bind fun eJ=>
 (bif ((iS.2:Int) == 0) then
 none
 else aV gC.2 (.n h.next) 1 fun za=>
 (bif ((decide ((0:Int)<=fq)) && (decide (fq<(za.2:Int)))) then
 (SA.ref za.1).bind fun MO=>
 (gC.2.ld MO.1 ((MO.2+(fq.toNat*3))+2)).bind fun w30=>
 (AV.aX .u8 w30).bind fun wg=>
 (bif ((iS.2:Int) == 0) then
 none
 else aV gC.2 (.n h.next) 1 fun xL=>
 (bif ((decide ((0:Int)<=fq)) && (decide (fq<(xL.2:Int)))) then
 (SA.ref xL.1).bind fun oK=>
 (gC.2.ld oK.1 ((oK.2+(fq.toNat*3))+1)).bind fun w35=>
 (AV.aX .u8 w35).bind fun qd=>
 (bif ((decide ((0:Int)<=(Int.tmod (IntKind.i64.wrap eJ) (iS.2:Int)))) && (decide ((Int.tmod (IntKind.i64.wrap eJ) (iS.2:Int))<(iS.2:Int)))) then
 (SA.ref iS.1).bind fun LW=>
 aV gC.2 LW.1 ((LW.2+((Int.tmod (IntKind.i64.wrap eJ) (iS.2:Int)).toNat*8))+5) fun l39=>
 (bif (((l39.2:Int):Int) == 0) then
 some (Sum.inl ([],gC.2))
 else (bif ((decide ((0:Int)<=(Int.tmod (IntKind.i64.wrap eJ) (iS.2:Int)))) && (decide ((Int.tmod (IntKind.i64.wrap eJ) (iS.2:Int))<(iS.2:Int)))) then
 (SA.ref iS.1).bind fun q40=>
 aV gC.2 q40.1 ((q40.2+((Int.tmod (IntKind.i64.wrap eJ) (iS.2:Int)).toNat*8))+5) fun WM=>
 (bif ((WM.2:Int) == 0) then
 none
 else (bif ((decide ((0:Int)<=(Int.tmod (IntKind.i64.wrap eJ) (iS.2:Int)))) && (decide ((Int.tmod (IntKind.i64.wrap eJ) (iS.2:Int))<(iS.2:Int)))) then
 (SA.ref iS.1).bind fun q43=>
 cQ gC.2 q43.1 ((q43.2+((Int.tmod (IntKind.i64.wrap eJ) (iS.2:Int)).toNat*8))+7) fun tB=>
 (bif ((decide ((0:Int)<=(Int.tmod (IntKind.i64.wrap wg) (iS.2:Int)))) && (decide ((Int.tmod (IntKind.i64.wrap wg) (iS.2:Int))<(iS.2:Int)))) then
 (SA.ref iS.1).bind fun q46=>
 cQ gC.2 q46.1 ((q46.2+((Int.tmod (IntKind.i64.wrap wg) (iS.2:Int)).toNat*8))+7) fun DN=>
 (Ht [(.p vm),(.i .u64 tB),(.i .i64 (Int.tmod (IntKind.i64.wrap qd) (WM.2:Int))),(.i .u64 DN)] gC.2).bind fun B8=>
 (AV.aX .i64 B8.1).bind fun zb=>
 (bif ((zb:Int) != 0) then
 ((((some ((.aG [(.p none),(.sl .nil 0),(.sl .nil 0),(.b false)]),B8.2):Option (AV × AH O)).map fun r=>Sum.inr (Sum.inr r)):Option ((List AV × AH O) ⊕ ((List AV × AH O) ⊕ (AV × AH O)))).map Sum.inr)
 else ai B8.2 (.n r8.2.next) 0 fun B4=>
 ai B8.2 (.n r8.2.next) 1 fun zO=>
 ai B8.2 (.n r8.2.next) 2 fun BD=>
 ai B8.2 (.n r8.2.next) 3 fun H0=>
 aV B8.2 (.n r8.2.next) 4 fun l60=>
 (bif ((decide ((0:Int)<=(Int.tmod (IntKind.i64.wrap wg) (iS.2:Int)))) && (decide ((Int.tmod (IntKind.i64.wrap wg) (iS.2:Int))<(iS.2:Int)))) then
 (SA.ref iS.1).bind fun q61=>
 cQ B8.2 q61.1 ((q61.2+((Int.tmod (IntKind.i64.wrap wg) (iS.2:Int)).toNat*8))+7) fun RR=>
 (Hu [(.agg [(.i .i64 B4),(.i .i64 zO),(.i .i64 BD),(.i .i64 H0),(.sl l60.1 l60.2)]),(.i .i64 (Int.tmod (IntKind.i64.wrap eJ) (iS.2:Int))),(.i .i64 (Int.tmod (IntKind.i64.wrap qd) (WM.2:Int))),(.i .u64 RR)] B8.2).bind fun xT=>
 (AV.az 2 xT.1).bind fun c65=>
 (AV.asAgg 5 (c65.getD 0 .u)).bind fun WH=>
 au WH 0 fun Ia=>
 au WH 1 fun Wu=>
 au WH 2 fun PO=>
 au WH 3 fun RY=>
 cT WH 4 fun l71=>
 au c65 1 fun Ry=>
 (xT.2.st (.n r8.2.next) 0 [(.i .i64 Ia),(.i .i64 Wu),(.i .i64 PO),(.i .i64 RY),(.sl l71.1 l71.2)]).bind fun h73=>
 some (Sum.inl ([],h73))
 else none))
 else none)
 else none))
 else none))
 else none)
 else none))
 else none))
 else none)) fun Fk=>
 some (Sum.inl ([(.i .i64 (IntKind.i64.wrap (fq+1)))],Fk.2))
 else some (Sum.inr (Sum.inl ([],gC.2)))))
def qtf (k9 Ht Hu:Sm O):Sm O:=fun xs h=>
 bif Nat.beq xs.length 1 then
 (AV.asAgg 3 (xs.getD 0 .u)).bind fun c0=>
 cT c0 0 fun l1=>
 cT c0 1 fun l2=>
 cT c0 2 fun l3=>
 let h4:=h.ax 1
 let h5:=h4.put h.next (.cells true 78 [(.sl l1.1 l1.2),(.sl l2.1 l2.2),(.sl l3.1 l3.2)])
 aV h5 (.n h.next) 0 fun l7=>
 (k9 [(.sl l7.1 l7.2)] h5).bind fun r8=>
 (AV.az 3 r8.1).bind fun c9=>
 (AV.bH (c9.getD 0 .u)).bind fun vm=>
 cT c9 1 fun iS=>
 (AV.aZ (c9.getD 2 .u)).bind fun uQ=>
 (bif (!uQ) then
 some ((.aG [(.p none),(.sl .nil 0),(.sl .nil 0),(.b false)]),r8.2)
 else let lz:=r8.2.ax 1
 let nC:=lz.put r8.2.next (.cells true 105 [(.i .i64 0),(.i .i64 0),(.i .i64 0),(.i .i64 0),(.sl .nil 0)])
 (nC.st (.n r8.2.next) 0 [(.i .i64 8),(.i .i64 0),(.i .i64 0),(.i .i64 0),(.sl iS.1 iS.2)]).bind fun tA=>
 cE (S:=List AV × AH O) (R:=(AV × AH O)) (bu (S:=List AV × AH O) (T:=(List AV × AH O) ⊕ (AV × AH O)) (Ta h iS Ht vm r8 Hu) ([(.i .i64 0)],tA)) fun r75=>
 (bu (S:=List AV × AH O) (T:=List AV × AH O) (VD h iS) ([(.sl .nil 0),(.i .i64 0)],r75.2)).bind fun RT=>
 (AV.eG (RT.1.getD 0 .u)).bind fun R5=>
 aV RT.2 (.n r8.2.next) 4 fun Ui=>
 some ((.aG [(.p vm),(.sl Ui.1 Ui.2),(.sl R5.1 R5.2),(.b true)]),RT.2))
 else none
def qtg:Sm O:=qtf XV Tb VC
theorem qth:ag Tryz.prog 69:=Tryz.call69
theorem qti (k9 Ht Hu:Sm O):run (O:=O) Tryz.prog [(9,k9),(120,Ht),(121,Hu)] Tryz.f69 (.n .z (.n .z (.n (.n .z (.n .z .z)) (.n .z (.n .z (.n (.n .z (.n (.lp true 0 [(11,.one (.i .i64))] [] (.n (.n (.g [(5,2,[(38,.one .b)])]) .z) (.n (.j true [] (.n (.d [] [0,1,2,3,4,5,6,7,8,9,10,11,12,13,14,15,16,17,18,19] [0,1,0,7,15,31,63,0,255,0,512,0,3584,7680,15872,32256,0,130560,511,524287]) (.n .z (.n (.n .z .z) (.n .z (.n (.n (.d [] [0,1,2,3,4,5,6,7,8,9,10,11,12,13] [0,0,0,6,14,30,0,0,0,384,896,1920,4095,8191]) (.n .z .z)) (.d [] [0,1,2,3,4,5,6,7,8,9,10,11,12] [0,0,0,0,0,24,56,120,255,511,1023,1023,2047])))))) .z) .z))) .z)) (.n .z (.n (.n .z (.n (.lp false 2 [(15,.one .sl),(16,.one (.i .i64))] [(15,.one .sl)] (.n (.n (.g [(5,2,[(115,.one .b)])]) .z) (.n .z .z))) .z)) (.n (.d [] [0,1,2,3,4,5,6,7] [0,0,2,0,1,23,63,127]) .z)))))))))=qtf k9 Ht Hu:=by kernel_rfl
theorem qtj:ah RO Tryz.prog 69 qtg:=bJ (qti _ _ _) (ab qmv qmx <| ab qs5 qs7 <| ab qta qtc <| aJ) Tryz.func69 (by kernel_rfl)
def ZW (k20:Sm O):Sm O:=fun xs h=>
 bif Nat.beq xs.length 1 then
 cT xs 0 fun l0=>
 let h1:=h.ax 1
 let h2:=h1.put h.next (.cells true 81 [(.sl .nil 0),(.sl .nil 0),(.i .i64 0),(.sl .nil 0),(.i .i64 0),(.sl .nil 0),(.sl .nil 0)])
 (k20 [(.sl l0.1 l0.2)] h2).bind fun r3=>
 (AV.asAgg 5 r3.1).bind fun c4=>
 cT c4 0 fun l5=>
 cT c4 1 fun l6=>
 au c4 2 fun n7=>
 cT c4 3 fun l8=>
 au c4 4 fun n9=>
 (r3.2.st (.n h.next) 0 [(.sl l5.1 l5.2),(.sl l6.1 l6.2),(.i .i64 n7),(.sl l8.1 l8.2),(.i .i64 n9),(.sl l0.1 l0.2),(.sl .nil 0)]).bind fun fM=>
 aV fM (.n h.next) 0 fun B5=>
 aV fM (.n h.next) 1 fun sH=>
 ai fM (.n h.next) 2 fun iy=>
 aV fM (.n h.next) 3 fun Sd=>
 ai fM (.n h.next) 4 fun jK=>
 aV fM (.n h.next) 5 fun B6=>
 aV fM (.n h.next) 6 fun Fc=>
 some ((.agg [(.sl B5.1 B5.2),(.sl sH.1 sH.2),(.i .i64 iy),(.sl Sd.1 Sd.2),(.i .i64 jK),(.sl B6.1 B6.2),(.sl Fc.1 Fc.2)]),fM)
 else none
def qtl:Sm O:=vB (ZW Wm)
theorem qtm:ag Tryz.prog 70:=Tryz.call70
theorem qtn (k20:Sm O):run (O:=O) Tryz.prog [(20,k20)] Tryz.f70 (.n .z .z)=ZW k20:=by kernel_rfl
theorem qto:ah RO Tryz.prog 70 (qtl):=
   have h:ah RO Tryz.prog 70 (ZW Wm):=(qtn Wm)▸eY (ab qac (qae) <| aJ) mixed Tryz.func70 (by kernel_rfl) _
   h.vB
def qtp:Sm O:=fun xs h=>
 bif Nat.beq xs.length 1 then
 (AV.bH (xs.getD 0 .u)).bind fun p0=>
 let h1:=h.ax 1
 let h2:=h1.put h.next (.cells true 205 [(.p p0),(.i .i64 0),(.i .i64 0)])
 some ((.p (some ((.n h.next),0))),h2)
 else none
def qtq:Sm O:=qtp
theorem qtr:ag Tryz.prog 71:=Tryz.call71
theorem qts:run (O:=O) Tryz.prog [] Tryz.f71 (.n .z .z)=qtp:=by kernel_rfl
theorem qtt:ah RO Tryz.prog 71 qtq:=bJ qts (aJ) Tryz.func71 (by kernel_rfl)
def VY (gD vu:Sm O):Sm O:=fun xs h=>
 bif Nat.beq xs.length 1 then
 (AV.bH (xs.getD 0 .u)).bind fun p0=>
 Option.bind p0 fun q1=>
 ai h q1.1 (q1.2+2) fun n3=>
 Option.bind p0 fun q4=>
 ai h q4.1 (q4.2+9) fun n6=>
 ((bif ((n6:Int) != 0) then
 Option.bind p0 fun q7=>
 ai h q7.1 (q7.2+9) fun n9=>
 (gD [(.p p0)] h).bind fun ee=>
 (AV.asAgg 5 ee.1).bind fun tz=>
 (AV.bH (tz.getD 0 .u)).bind fun Fg=>
 au tz 1 fun fE=>
 au tz 2 fun ig=>
 au tz 3 fun dU=>
 au tz 4 fun iy=>
 (aO (ee.2.ld q7.1 (q7.2+9)) (some (.i .i64 n9))).bind fun _=>
 (vu [(.agg [(.p Fg),(.i .i64 fE),(.i .i64 ig),(.i .i64 dU),(.i .i64 iy)]),(.i .i64 n9)] ee.2).bind fun fP=>
 (AV.az 2 fP.1).bind fun LX=>
 au LX 0 fun fk=>
 au LX 1 fun jK=>
 some ([(.i .i64 fk)],fP.2)
 else some ([(.i .i64 n3)],h)):Option (List AV × AH O)).bind fun zK=>
 (AV.aX .i64 (zK.1.getD 0 .u)).bind fun gZ=>
 (bif ((gZ:Int) == 0) then
 some ((.aG [(.i .i64 0),(.b false)]),zK.2)
 else Option.bind p0 fun Lw=>
 (zK.2.st Lw.1 (Lw.2+9) [(.i .i64 gZ)]).bind fun BB=>
 some ((.aG [(.i .i64 gZ),(.b true)]),BB))
 else none
def Rh:Sm O:=VY Ou YO
theorem qtw:ag Tryz.prog 180:=Tryz.call180
theorem qtx (gD vu:Sm O):run (O:=O) Tryz.prog [(100,gD),(125,vu)] Tryz.f180 (.n .z (.n .z (.n (.n .z (.j false [(4,.one (.i .i64))] (.d [] [0,2,3,4,5,1,6,7,8,9,10] [0,1,0,4,12,28,63,127,255,255,511]) .z)) (.n (.n .z (.n .z .z)) (.n .z .z)))))=VY gD vu:=by kernel_rfl
theorem qty:ah RO Tryz.prog 180 Rh:=bJ (qtx _ _) (ab qhn qhp <| ab qrq qrs <| aJ) Tryz.func180 (by kernel_rfl)
def Zl (zT jL Fu DS oW Qf PC:Sm O):Sm O:=fun xs h=>
 bif Nat.beq xs.length 1 then
 (AV.bH (xs.getD 0 .u)).bind fun p0=>
 Option.bind p0 fun q1=>
 ai h q1.1 (q1.2+1) fun n3=>
 Option.bind p0 fun q4=>
 cV h q4.1 q4.2 fun p6=>
 (zT [(.p p6)] h).bind fun r7=>
 (AV.bH r7.1).bind fun p8=>
 (aO (r7.2.ld q1.1 (q1.2+1)) (some (.i .i64 n3))).bind fun _=>
 (jL [(.p p8)] r7.2).bind fun r9=>
 (AV.bH r9.1).bind fun vm=>
 (aO (r9.2.ld q1.1 (q1.2+1)) (some (.i .i64 n3))).bind fun _=>
 (Fu [(.p vm)] r9.2).bind fun eM=>
 (AV.aX .i64 eM.1).bind fun eB=>
 (aO (eM.2.ld q1.1 (q1.2+1)) (some (.i .i64 n3))).bind fun _=>
 (bif (decide (n3<eB)) then
 Option.bind p0 fun kv=>
 ai eM.2 kv.1 (kv.2+1) fun dU=>
 (DS [(.i .i64 dU)] eM.2).bind fun gR=>
 (AV.az 2 gR.1).bind fun L9=>
 cf L9 0 fun iM=>
 au L9 1 fun fk=>
 some ((.aG [(.i .u64 iM),(.b ((fk:Int) == 0))]),gR.2)
 else Option.bind p0 fun RQ=>
 cV eM.2 RQ.1 RQ.2 fun UO=>
 (zT [(.p UO)] eM.2).bind fun v9=>
 (AV.bH v9.1).bind fun p24=>
 (oW [(.p p24)] v9.2).bind fun ft=>
 (AV.bH ft.1).bind fun p26=>
 (Qf [(.p p26)] ft.2).bind fun mK=>
 (AV.az 2 mK.1).bind fun Ig=>
 au Ig 0 fun xO=>
 (AV.aZ (Ig.getD 1 .u)).bind fun b30=>
 (bif (!b30) then
 some ((.aG [(.i .u64 0),(.b false)]),mK.2)
 else (PC [(.i .i64 xO)] mK.2).bind fun Px=>
 (AV.az 2 Px.1).bind fun c32=>
 cf c32 0 fun Hf=>
 au c32 1 fun sL=>
 some ((.aG [(.i .u64 Hf),(.b ((sL:Int) == 0))]),Px.2)))
 else none
def MD:Sm O:=Zl KJ xj Oa V3 BW Rh Za
theorem qt1:ag Tryz.prog 161:=Tryz.call161
theorem qt2 (zT jL Fu DS oW Qf PC:Sm O):run (O:=O) Tryz.prog [(44,zT),(23,jL),(24,Fu),(65,DS),(32,oW),(180,Qf),(91,PC)] Tryz.f161 (.n .z (.n (.n (.d [] [0,1,2,3,4,5,6,7,8,9,10,11] [0,1,3,7,0,16,48,112,240,496,1008,2047]) (.n (.n .z .z) .z)) (.n .z (.n (.n .z (.n .z .z)) (.n .z .z)))))=Zl zT jL Fu DS oW Qf PC:=by kernel_rfl
theorem qt3:ah RO Tryz.prog 161 MD:=bJ (qt2 _ _ _ _ _ _ _) (ab qna qnc <| ab RG RH <| ab qnf qnh <| ab qj5 qj7 <| ab Wr Ws <| ab qtw qty <| ab qjb qjd <| aJ) Tryz.func161 (by kernel_rfl)
def qt4 (n2:Int) (p0:Option (fJ × Nat)) (zT:Sm O) (Cd:Sm O) (n1:Int) (zS:Sm O) (Cf:Sm O):List AV × AH O->Option ((List AV × AH O) ⊕ ((List AV × AH O) ⊕ (AV × AH O))):=(fun r3=>
 (AV.aX .i64 (r3.1.getD 0 .u)).bind fun n4=>
 (bif (decide (n4<n2)) then
 Option.bind p0 fun q5=>
 cV r3.2 q5.1 q5.2 fun p7=>
 (zT [(.p p7)] r3.2).bind fun r8=>
 (AV.bH r8.1).bind fun p9=>
 (Cd [(.p p9),(.i .u64 n1),(.i .i64 (IntKind.i64.wrap (1+n4)))] r8.2).bind fun ee=>
 (AV.az 2 ee.1).bind fun tz=>
 cf tz 0 fun eB=>
 au tz 1 fun fE=>
 (bif ((fE:Int) != 0) then
 ((some ((.aG []),ee.2):Option (AV × AH O)).map fun r=>Sum.inr (Sum.inr r))
 else ((bif ((eB:Int) != 0) then
 Option.bind p0 fun qh=>
 cV ee.2 qh.1 qh.2 fun xP=>
 Option.bind p0 fun vn=>
 cV ee.2 vn.1 vn.2 fun p19=>
 (zT [(.p xP)] ee.2).bind fun gC=>
 (AV.bH gC.1).bind fun Wv=>
 (aO (gC.2.ld vn.1 vn.2) (some (.p p19))).bind fun _=>
 (zS [(.p p19),(.i .u64 eB)] gC.2).bind fun fV=>
 (AV.aX .u64 fV.1).bind fun fm=>
 (Cf [(.p Wv),(.i .u64 n1),(.i .i64 (IntKind.i64.wrap (1+n4))),(.i .u64 fm)] fV.2).bind fun kV=>
 (AV.aX .i64 kV.1).bind fun qi=>
 some ([],kV.2)
 else some ([],ee.2)):Option (List AV × AH O)).bind fun nS=>
 some (Sum.inl ([(.i .i64 (IntKind.i64.wrap (n4+1)))],nS.2)))
 else some (Sum.inr (Sum.inl ([],r3.2)))))
def qt5 (zT Cd zS Cf:Sm O):Sm O:=fun xs h=>
 bif Nat.beq xs.length 3 then
 (AV.bH (xs.getD 0 .u)).bind fun p0=>
 cf xs 1 fun n1=>
 au xs 2 fun n2=>
 cE (S:=List AV × AH O) (R:=(AV × AH O)) (bu (S:=List AV × AH O) (T:=(List AV × AH O) ⊕ (AV × AH O)) (qt4 n2 p0 zT Cd n1 zS Cf) ([(.i .i64 0)],h)) fun mK=>
 some ((.aG []),mK.2)
 else none
def Wb:Sm O:=qt5 KJ NS zG OD
theorem qt7:ag Tryz.prog 162:=Tryz.call162
theorem qt8 (zT Cd zS Cf:Sm O):run (O:=O) Tryz.prog [(44,zT),(56,Cd),(12,zS),(97,Cf)] Tryz.f162 (.n .z (.n (.lp true 0 [(10,.one (.i .i64))] [] (.n .z (.n .z (.n (.n (.n .z (.n .z (.n (.n .z .z) (.n .z (.j false [] (.d [] [0,1,2,3,5,6,7,8,9,10,11,12,4,13,14] [0,1,3,7,15,0,0,64,0,256,768,1792,0,7967,16383]) .z))))) .z) .z)))) .z))=qt5 zT Cd zS Cf:=by kernel_rfl
theorem qt9:ah RO Tryz.prog 162 Wb:=bJ (qt8 _ _ _ _) (ab qna qnc <| ab qlj qll <| ab qqh qqj <| ab ql9 qmb <| aJ) Tryz.func162 (by kernel_rfl)
def qua (Qg zT Cd sQ qp xN Qh:Sm O):Sm O:=fun xs h=>
 bif Nat.beq xs.length 1 then
 (AV.bH (xs.getD 0 .u)).bind fun p0=>
 (Qg [(.p p0)] h).bind fun r1=>
 (AV.az 2 r1.1).bind fun c2=>
 cf c2 0 fun n3=>
 (AV.aZ (c2.getD 1 .u)).bind fun b4=>
 (bif (!b4) then
 some ((.b false),r1.2)
 else Option.bind p0 fun q5=>
 cV r1.2 q5.1 q5.2 fun p7=>
 (zT [(.p p7)] r1.2).bind fun r8=>
 (AV.bH r8.1).bind fun p9=>
 (Cd [(.p p9),(.i .u64 n3),(.i .i64 0)] r8.2).bind fun ee=>
 (AV.az 2 ee.1).bind fun tz=>
 cf tz 0 fun eB=>
 au tz 1 fun fE=>
 let nC:=ee.2.ax 1
 (sQ [(.i .u64 eB)] nC).bind fun iw=>
 (AV.az 2 iw.1).bind fun vo=>
 (AV.asAgg 5 (vo.getD 0 .u)).bind fun L9=>
 au L9 0 fun iM=>
 au L9 1 fun fk=>
 au L9 2 fun jK=>
 au L9 3 fun nR=>
 (AV.aZ (L9.getD 4 .u)).bind fun b22=>
 au vo 1 fun fm=>
 let BB:=iw.2.put ee.2.next (.cells true 39 [(.i .i64 0),(.i .i64 0),(.i .i64 0),(.i .i64 0),(.b false)])
 (BB.st (.n ee.2.next) 0 [(.i .i64 iM),(.i .i64 fk),(.i .i64 jK),(.i .i64 nR),(.b b22)]).bind fun DL=>
 (bif ((fm:Int) != 0) then
 some ((.b false),DL)
 else (qp [(.i .u64 n3)] DL).bind fun nS=>
 (AV.aX .i64 nS.1).bind fun qy=>
 ((bif ((qy:Int) == 1) then
 Option.bind p0 fun UZ=>
 ai nS.2 UZ.1 (UZ.2+1) fun lN=>
 ai nS.2 (.n ee.2.next) 0 fun nu=>
 ai nS.2 (.n ee.2.next) 1 fun sL=>
 ai nS.2 (.n ee.2.next) 2 fun qd=>
 ai nS.2 (.n ee.2.next) 3 fun Lh=>
 (nS.2.ld (.n ee.2.next) 4).bind fun w39=>
 (AV.aZ w39).bind fun b40=>
 (xN [(.agg [(.i .i64 nu),(.i .i64 sL),(.i .i64 qd),(.i .i64 Lh),(.b b40)])] nS.2).bind fun r41=>
 (AV.aX .i64 r41.1).bind fun Ff=>
 (aO (r41.2.ld UZ.1 (UZ.2+1)) (some (.i .i64 lN))).bind fun _=>
 Option.bind p0 fun q43=>
 (r41.2.st q43.1 (q43.2+1) [(.i .i64 (IntKind.i64.wrap (lN+Ff)))]).bind fun Ii=>
 some ([],Ii)
 else some ([],nS.2)):Option (List AV × AH O)).bind fun LY=>
 ai LY.2 (.n ee.2.next) 0 fun Hg=>
 (Qh [(.p p0),(.i .u64 n3),(.i .i64 Hg)] LY.2).bind fun ME=>
 (AV.az 0 ME.1).bind fun c49=>
 Option.bind p0 fun q50=>
 ai ME.2 q50.1 (q50.2+2) fun B4=>
 Option.bind p0 fun UK=>
 (ME.2.st UK.1 (UK.2+2) [(.i .i64 (IntKind.i64.wrap (B4+1)))]).bind fun HR=>
 some ((.b true),HR)))
 else none
def Rl:Sm O:=qua MD KJ NS MB De TN Wb
theorem quc:ag Tryz.prog 122:=Tryz.call122
theorem qud (Qg zT Cd sQ qp xN Qh:Sm O):run (O:=O) Tryz.prog [(161,Qg),(44,zT),(56,Cd),(57,sQ),(53,qp),(89,xN),(162,Qh)] Tryz.f122 (.n .z (.n .z (.n (.n .z (.n .z .z)) (.n .z (.n .z (.n (.n .z (.n .z .z)) (.n (.n .z (.j false [] (.d [] [0,1,2,3,4,5,6,7,8,9] [0,1,3,7,0,16,63,127,255,511]) .z)) (.n .z (.n .z .z)))))))))=qua Qg zT Cd sQ qp xN Qh:=by kernel_rfl
theorem que:ah RO Tryz.prog 122 Rl:=bJ (qud _ _ _ _ _ _ _) (ab qt1 qt3 <| ab qna qnc <| ab qlj qll <| ab qlu qlw <| ab Wy Wz <| ab qc4 qc6 <| ab qt7 qt9 <| aJ) Tryz.func122 (by kernel_rfl)
def quf (Hv:Sm O) (p0:Option (fJ × Nat)):List AV × AH O->Option ((List AV × AH O) ⊕ (List AV × AH O)):=(fun r4=>
 (Hv [(.p p0)] r4.2).bind fun r5=>
 (AV.aZ r5.1).bind fun b6=>
 (bif b6 then
 some (Sum.inl ([],r5.2))
 else some (Sum.inr ([],r5.2))))
def qug (Hv:Sm O):Sm O:=fun xs h=>
 bif Nat.beq xs.length 1 then
 (AV.bH (xs.getD 0 .u)).bind fun p0=>
 Option.bind p0 fun q1=>
 ai h q1.1 (q1.2+2) fun n3=>
 (bu (S:=List AV × AH O) (T:=List AV × AH O) (quf Hv p0) ([],h)).bind fun r7=>
 Option.bind p0 fun q8=>
 ai r7.2 q8.1 (q8.2+2) fun eu=>
 some ((.i .i64 (IntKind.i64.wrap (eu - n3))),r7.2)
 else none
def quh:Sm O:=qug Rl
theorem qui:ag Tryz.prog 72:=Tryz.call72
theorem quj (Hv:Sm O):run (O:=O) Tryz.prog [(122,Hv)] Tryz.f72 (.n .z (.n .z (.n (.n (.lp false 0 [] [] (.n (.n .z .z) .z)) .z) .z)))=qug Hv:=by kernel_rfl
theorem quk:ah RO Tryz.prog 72 quh:=bJ (quj _) (ab quc que <| aJ) Tryz.func72 (by kernel_rfl)
def ZO (l0:SA × Nat) (n1:Int):List AV × AH O->Option ((List AV × AH O) ⊕ ((List AV × AH O) ⊕ (AV × AH O))):=(fun r2=>
 (AV.aX .i64 (r2.1.getD 0 .u)).bind fun n3=>
 (bif (decide (n3<(l0.2:Int))) then
 (bif ((decide ((0:Int)<=n3)) && (decide (n3<(l0.2:Int)))) then
 (SA.ref l0.1).bind fun q4=>
 ai r2.2 q4.1 (q4.2+(n3.toNat*1)) fun n6=>
 (bif ((n6:Int) == n1) then
 ((some ((.b true),r2.2):Option (AV × AH O)).map fun r=>Sum.inr (Sum.inr r))
 else some (Sum.inl ([(.i .i64 (IntKind.i64.wrap (n3+1)))],r2.2)))
 else none)
 else some (Sum.inr (Sum.inl ([],r2.2)))))
def qum:Sm O:=fun xs h=>
 bif Nat.beq xs.length 2 then
 cT xs 0 fun l0=>
 au xs 1 fun n1=>
 cE (S:=List AV × AH O) (R:=(AV × AH O)) (bu (S:=List AV × AH O) (T:=(List AV × AH O) ⊕ (AV × AH O)) (ZO l0 n1) ([(.i .i64 0)],h)) fun r7=>
 some ((.b false),r7.2)
 else none
def K8:Sm O:=qum
theorem qup:ag Tryz.prog 181:=Tryz.call181
theorem quq:run (O:=O) Tryz.prog [] Tryz.f181 (.n .z (.n (.n .z (.n (.lp true 0 [(5,.one (.i .i64))] [] (.n (.n .z .z) (.n (.n (.n .z (.n .z .z)) .z) .z))) .z)) .z))=qum:=by kernel_rfl
theorem qur:ah RO Tryz.prog 181 K8:=bJ quq (aJ) Tryz.func181 (by kernel_rfl)
def Wn (h:AH O) (BI:Sm O) (fc:Int):List AV × AH O->Option ((List AV × AH O) ⊕ ((List AV × AH O) ⊕ ((List AV × AH O) ⊕ ((List AV × AH O) ⊕ (AV × AH O))))):=(fun ij=>
 (AV.aX .i64 (ij.1.getD 0 .u)).bind fun fE=>
 aV ij.2 (.n h.next) 3 fun Wq=>
 (bif (decide (fE<(Wq.2:Int))) then
 aV ij.2 (.n h.next) 3 fun zI=>
 (bif ((decide ((0:Int)<=fE)) && (decide (fE<(zI.2:Int)))) then
 (SA.ref zI.1).bind fun Ly=>
 ai ij.2 Ly.1 (Ly.2+(fE.toNat*1)) fun jK=>
 aV ij.2 (.n h.next) 6 fun B6=>
 (BI [(.sl B6.1 B6.2),(.i .i64 jK)] ij.2).bind fun v9=>
 (AV.aZ v9.1).bind fun b24=>
 ((bif ((!b24) == true) then
 aV v9.2 (.n h.next) 0 fun LO=>
 (bif ((decide ((0:Int)<=jK)) && (decide (jK<(LO.2:Int)))) then
 (SA.ref LO.1).bind fun RD=>
 (v9.2.ld RD.1 ((RD.2+(jK.toNat*8))+4)).bind fun w28=>
 (AV.aZ w28).bind fun UN=>
 some ([(.b (UN == ((fc:Int) == 1)))],v9.2)
 else none)
 else some ([(.b false)],v9.2)):Option (List AV × AH O)).bind fun WK=>
 (AV.aZ (WK.1.getD 0 .u)).bind fun b31=>
 (bif b31 then
 ((((some ((.i .i64 jK),WK.2):Option (AV × AH O)).map fun r=>Sum.inr (Sum.inr r)):Option ((List AV × AH O) ⊕ ((List AV × AH O) ⊕ (AV × AH O)))).map fun r=>Sum.inr (Sum.inr r))
 else some (Sum.inl ([(.i .i64 (IntKind.i64.wrap (fE+1)))],WK.2)))
 else none)
 else some (Sum.inr (Sum.inl ([],ij.2)))))
def Lb (h:AH O) (BI:Sm O):List AV × AH O->Option ((List AV × AH O) ⊕ ((List AV × AH O) ⊕ (AV × AH O))):=(fun ee=>
 (AV.aX .i64 (ee.1.getD 0 .u)).bind fun fc=>
 (bif (decide (fc<2)) then
 cE (S:=List AV × AH O) (R:=((List AV × AH O) ⊕ ((List AV × AH O) ⊕ (AV × AH O)))) (bu (S:=List AV × AH O) (T:=(List AV × AH O) ⊕ ((List AV × AH O) ⊕ ((List AV × AH O) ⊕ (AV × AH O)))) (Wn h BI fc) ([(.i .i64 0)],ee.2)) fun UC=>
 some (Sum.inl ([(.i .i64 (IntKind.i64.wrap (fc+1)))],UC.2))
 else some (Sum.inr (Sum.inl ([],ee.2)))))
def quu (BI:Sm O):Sm O:=fun xs h=>
 bif Nat.beq xs.length 1 then
 (AV.asAgg 7 (xs.getD 0 .u)).bind fun c0=>
 cT c0 0 fun l1=>
 cT c0 1 fun l2=>
 au c0 2 fun n3=>
 cT c0 3 fun l4=>
 au c0 4 fun n5=>
 cT c0 5 fun l6=>
 cT c0 6 fun l7=>
 let h8:=h.ax 1
 let h9:=h8.put h.next (.cells true 81 [(.sl l1.1 l1.2),(.sl l2.1 l2.2),(.i .i64 n3),(.sl l4.1 l4.2),(.i .i64 n5),(.sl l6.1 l6.2),(.sl l7.1 l7.2)])
 cE (S:=List AV × AH O) (R:=(AV × AH O)) (bu (S:=List AV × AH O) (T:=(List AV × AH O) ⊕ (AV × AH O)) (Lb h BI) ([(.i .i64 0)],h9)) fun lL=>
 some ((.i .i64 (-1)),lL.2)
 else none
def MH:Sm O:=quu K8
theorem quw:ag Tryz.prog 163:=Tryz.call163
theorem qux (BI:Sm O):run (O:=O) Tryz.prog [(181,BI)] Tryz.f163 (.n .z (.n (.n .z (.n (.lp true 0 [(3,.one (.i .i64))] [] (.n (.n .z .z) (.n (.n (.n .z (.n (.lp true 2 [(4,.one (.i .i64))] [] (.n (.n .z .z) (.n (.n (.n .z (.n (.g [(5,11,[(41,.one .b)])]) (.n .z .z))) .z) .z))) .z)) .z) .z))) .z)) .z))=quu BI:=by kernel_rfl
theorem quy:ah RO Tryz.prog 163 MH:=bJ (qux _) (ab qup qur <| aJ) Tryz.func163 (by kernel_rfl)
def ZP (l0:SA × Nat) (n1:Int):List AV × AH O->Option ((List AV × AH O) ⊕ ((List AV × AH O) ⊕ (AV × AH O))):=(fun r2=>
 (AV.aX .i64 (r2.1.getD 0 .u)).bind fun n3=>
 (bif (decide (n3<(l0.2:Int))) then
 (bif ((decide ((0:Int)<=n3)) && (decide (n3<(l0.2:Int)))) then
 (SA.ref l0.1).bind fun q4=>
 cQ r2.2 q4.1 ((q4.2+(n3.toNat*8))+7) fun n6=>
 (bif ((n6:Int) == n1) then
 ((some ((.i .i64 n3),r2.2):Option (AV × AH O)).map fun r=>Sum.inr (Sum.inr r))
 else some (Sum.inl ([(.i .i64 (IntKind.i64.wrap (n3+1)))],r2.2)))
 else none)
 else some (Sum.inr (Sum.inl ([],r2.2)))))
def qu0:Sm O:=fun xs h=>
 bif Nat.beq xs.length 2 then
 cT xs 0 fun l0=>
 cf xs 1 fun n1=>
 cE (S:=List AV × AH O) (R:=(AV × AH O)) (bu (S:=List AV × AH O) (T:=(List AV × AH O) ⊕ (AV × AH O)) (ZP l0 n1) ([(.i .i64 0)],h)) fun r7=>
 some ((.i .i64 (-1)),r7.2)
 else none
def K9:Sm O:=qu0
theorem qu2:ag Tryz.prog 164:=Tryz.call164
theorem qu3:run (O:=O) Tryz.prog [] Tryz.f164 (.n .z (.n (.n .z (.n (.lp true 0 [(5,.one (.i .i64))] [] (.n (.n .z .z) (.n (.n (.n .z (.n .z .z)) .z) .z))) .z)) .z))=qu0:=by kernel_rfl
theorem qu4:ah RO Tryz.prog 164 K9:=bJ qu3 (aJ) Tryz.func164 (by kernel_rfl)
def qu5 (zu:SA × Nat) (h:AH O) (Hw:Sm O) (Hx:Sm O):List AV × AH O->Option ((List AV × AH O) ⊕ (List AV × AH O)):=(fun Na=>
 (AV.aX .i64 (Na.1.getD 0 .u)).bind fun Ca=>
 (bif (decide (Ca<(zu.2:Int))) then
 aV Na.2 (.n h.next) 0 fun l98=>
 aV Na.2 (.n h.next) 1 fun Qi=>
 ai Na.2 (.n h.next) 2 fun Ho=>
 aV Na.2 (.n h.next) 3 fun zc=>
 ai Na.2 (.n h.next) 4 fun sR=>
 aV Na.2 (.n h.next) 5 fun abv=>
 (bif ((decide ((0:Int)<=Ca)) && (decide (Ca<(zu.2:Int)))) then
 (SA.ref zu.1).bind fun abw=>
 cQ Na.2 abw.1 (abw.2+(Ca.toNat*1)) fun sN=>
 (Hw [(.sl abv.1 abv.2),(.i .u64 sN)] Na.2).bind fun DY=>
 (AV.aX .i64 DY.1).bind fun BH=>
 (aO (DY.2.ld (.n h.next) 0) (some (.sl l98.1 l98.2))).bind fun _=>
 (aO (DY.2.ld (.n h.next) 1) (some (.sl Qi.1 Qi.2))).bind fun _=>
 (aO (DY.2.ld (.n h.next) 2) (some (.i .i64 Ho))).bind fun _=>
 (aO (DY.2.ld (.n h.next) 3) (some (.sl zc.1 zc.2))).bind fun _=>
 (aO (DY.2.ld (.n h.next) 4) (some (.i .i64 sR))).bind fun _=>
 (Hx [(.agg [(.sl l98.1 l98.2),(.sl Qi.1 Qi.2),(.i .i64 Ho),(.sl zc.1 zc.2),(.i .i64 sR)]),(.i .i64 BH)] DY.2).bind fun BJ=>
 (AV.az 2 BJ.1).bind fun abx=>
 (AV.asAgg 5 (abx.getD 0 .u)).bind fun Ma=>
 cT Ma 0 fun aby=>
 cT Ma 1 fun abz=>
 au Ma 2 fun UT=>
 cT Ma 3 fun abA=>
 au Ma 4 fun Lo=>
 cf abx 1 fun DF=>
 (BJ.2.st (.n h.next) 0 [(.sl aby.1 aby.2),(.sl abz.1 abz.2),(.i .i64 UT),(.sl abA.1 abA.2),(.i .i64 Lo)]).bind fun U1=>
 (bif ((decide ((0:Int)<=Ca)) && (decide (Ca<(zu.2:Int)))) then
 (SA.ref zu.1).bind fun abB=>
 (U1.st abB.1 (abB.2+(Ca.toNat*1)) [(.i .u64 DF)]).bind fun al8=>
 some (Sum.inl ([(.i .i64 (IntKind.i64.wrap (Ca+1)))],al8))
 else none)
 else none)
 else some (Sum.inr ([],Na.2))))
def Ru (Qj Hw Hx:Sm O):Sm O:=fun xs h=>
 bif Nat.beq xs.length 1 then
 (AV.asAgg 7 (xs.getD 0 .u)).bind fun c0=>
 cT c0 0 fun l1=>
 cT c0 1 fun l2=>
 au c0 2 fun n3=>
 cT c0 3 fun l4=>
 au c0 4 fun n5=>
 cT c0 5 fun l6=>
 cT c0 6 fun l7=>
 let h8:=h.ax 2
 let h9:=h8.put h.next (.cells true 81 [(.sl l1.1 l1.2),(.sl l2.1 l2.2),(.i .i64 n3),(.sl l4.1 l4.2),(.i .i64 n5),(.sl l6.1 l6.2),(.sl l7.1 l7.2)])
 let fM:=h9.put (h.next+1) (.cells true 81 [(.sl .nil 0),(.sl .nil 0),(.i .i64 0),(.sl .nil 0),(.i .i64 0),(.sl .nil 0),(.sl .nil 0)])
 aV fM (.n h.next) 0 fun B5=>
 aV fM (.n h.next) 1 fun sH=>
 ai fM (.n h.next) 2 fun iy=>
 aV fM (.n h.next) 3 fun Sd=>
 ai fM (.n h.next) 4 fun jK=>
 aV fM (.n h.next) 5 fun B6=>
 aV fM (.n h.next) 6 fun Fc=>
 (Qj [(.agg [(.sl B5.1 B5.2),(.sl sH.1 sH.2),(.i .i64 iy),(.sl Sd.1 Sd.2),(.i .i64 jK),(.sl B6.1 B6.2),(.sl Fc.1 Fc.2)])] fM).bind fun ft=>
 (AV.aX .i64 ft.1).bind fun eJ=>
 (bif (decide (eJ<0)) then
 ai ft.2 (.n h.next) 4 fun nq=>
 (ft.2.st (.n h.next) 4 [(.i .i64 (IntKind.i64.wrap (nq+1)))]).bind fun DX=>
 aV DX (.n h.next) 0 fun Mb=>
 aV DX (.n h.next) 1 fun xL=>
 ai DX (.n h.next) 2 fun zn=>
 aV DX (.n h.next) 3 fun l37=>
 ai DX (.n h.next) 4 fun vk=>
 aV DX (.n h.next) 5 fun R0=>
 aV DX (.n h.next) 6 fun R1=>
 (DX.st (.n (h.next+1)) 0 [(.sl Mb.1 Mb.2),(.sl xL.1 xL.2),(.i .i64 zn),(.sl l37.1 l37.2),(.i .i64 vk),(.sl R0.1 R0.2),(.sl R1.1 R1.2)]).bind fun Ii=>
 aV Ii (.n (h.next+1)) 0 fun Rx=>
 aV Ii (.n (h.next+1)) 1 fun Z4=>
 ai Ii (.n (h.next+1)) 2 fun zb=>
 aV Ii (.n (h.next+1)) 3 fun l52=>
 ai Ii (.n (h.next+1)) 4 fun zO=>
 aV Ii (.n (h.next+1)) 5 fun Se=>
 aV Ii (.n (h.next+1)) 6 fun LP=>
 some ((.aG [(.agg [(.sl Rx.1 Rx.2),(.sl Z4.1 Z4.2),(.i .i64 zb),(.sl l52.1 l52.2),(.i .i64 zO),(.sl Se.1 Se.2),(.sl LP.1 LP.2)]),(.b false)]),Ii)
 else let h59:=ft.2.ax 4
 let LQ:=h59.put ft.2.next (.cells true 3 [])
 aV LQ (.n h.next) 6 fun xS=>
 (LQ.bU xS.1 xS.2 1).bind fun BF=>
 (bif (Nat.ble ((0+xS.2)*9) 35184372088832) then
 (LQ.cL (ft.2.next+1) 3 1 (.loc (.n ft.2.next) 0 1) 0 xS.2 BF).bind fun xT=>
 (AV.eG xT.1).bind fun PU=>
 let MR:=xT.2.put ((ft.2.next+1)+1) (.cells true 3 [(.i .i64 eJ)])
 (MR.bU (.loc (.n ((ft.2.next+1)+1)) 0 1) 1 1).bind fun abD=>
 (bif (Nat.ble ((PU.2+1)*9) 35184372088832) then
 (MR.cL (((ft.2.next+1)+1)+1) 3 1 PU.1 PU.2 1 abD).bind fun Fl=>
 (AV.eG Fl.1).bind fun l69=>
 (Fl.2.st (.n h.next) 6 [(.sl l69.1 l69.2)]).bind fun nv=>
 let h71:=nv.ax 2
 let Py:=h71.put nv.next (.cells true 33 [])
 aV Py (.n h.next) 0 fun Rz=>
 (bif ((decide ((0:Int)<=eJ)) && (decide (eJ<(Rz.2:Int)))) then
 (SA.ref Rz.1).bind fun q75=>
 aV Py q75.1 ((q75.2+(eJ.toNat*8))+5) fun M9=>
 (Py.bU M9.1 M9.2 1).bind fun abE=>
 (bif (Nat.ble ((0+M9.2)*9) 35184372088832) then
 (Py.cL (nv.next+1) 33 1 (.loc (.n nv.next) 0 1) 0 M9.2 abE).bind fun U2=>
 (AV.eG U2.1).bind fun zu=>
 aV U2.2 (.n h.next) 0 fun l82=>
 (bif ((decide ((0:Int)<=eJ)) && (decide (eJ<(l82.2:Int)))) then
 (SA.ref l82.1).bind fun q83=>
 (U2.2.ld q83.1 ((q83.2+(eJ.toNat*8))+4)).bind fun w84=>
 (AV.aZ w84).bind fun b85=>
 ((bif b85 then
 ai U2.2 (.n h.next) 4 fun LI=>
 let v88:Int:=(IntKind.i64.wrap ((IntKind.i64.wrap (LI+3))+(IntKind.i64.wrap (6*(zu.2:Int)))))
 (U2.2.st (.n h.next) 4 [(.i .i64 (IntKind.i64.wrap (v88+1)))]).bind fun Sc=>
 some ([],Sc)
 else ai U2.2 (.n h.next) 4 fun n91=>
 let v92:Int:=(IntKind.i64.wrap ((IntKind.i64.wrap (n91+1))+(IntKind.i64.wrap (2*(zu.2:Int)))))
 (U2.2.st (.n h.next) 4 [(.i .i64 v92)]).bind fun h93=>
 some ([],h93)):Option (List AV × AH O)).bind fun r94=>
 (bu (S:=List AV × AH O) (T:=List AV × AH O) (qu5 zu h Hw Hx) ([(.i .i64 0)],r94.2)).bind fun sS=>
 let wu:=sS.2.ax 1
 aV wu (.n h.next) 0 fun Mc=>
 (bif ((decide ((0:Int)<=eJ)) && (decide (eJ<(Mc.2:Int)))) then
 (SA.ref Mc.1).bind fun nG=>
 ai wu nG.1 (nG.2+(eJ.toNat*8)) fun Hm=>
 ai wu nG.1 ((nG.2+(eJ.toNat*8))+1) fun U3=>
 ai wu nG.1 (((nG.2+(eJ.toNat*8))+1)+1) fun Md=>
 ai wu nG.1 ((((nG.2+(eJ.toNat*8))+1)+1)+1) fun Me=>
 (wu.ld nG.1 (((((nG.2+(eJ.toNat*8))+1)+1)+1)+1)).bind fun al9=>
 (AV.aZ al9).bind fun al'=>
 aV wu nG.1 ((((((nG.2+(eJ.toNat*8))+1)+1)+1)+1)+1) fun abF=>
 aV wu nG.1 (((((((nG.2+(eJ.toNat*8))+1)+1)+1)+1)+1)+1) fun Hn=>
 cQ wu nG.1 ((((((((nG.2+(eJ.toNat*8))+1)+1)+1)+1)+1)+1)+1) fun Qk=>
 let ama:=wu.put sS.2.next (.cells true 42 [(.i .i64 0),(.i .i64 0),(.i .i64 0),(.i .i64 0),(.b false),(.sl .nil 0),(.sl .nil 0),(.i .u64 0)])
 (ama.st (.n sS.2.next) 0 [(.i .i64 Hm),(.i .i64 U3),(.i .i64 Md),(.i .i64 Me),(.b al'),(.sl abF.1 abF.2),(.sl Hn.1 Hn.2),(.i .u64 Qk)]).bind fun amb=>
 (amb.st (.n sS.2.next) 5 [(.sl zu.1 zu.2)]).bind fun sO=>
 let amc:=sO.ax 2
 let U4:=amc.put sO.next (.cells true 42 [])
 aV U4 (.n h.next) 0 fun DZ=>
 (U4.bU DZ.1 DZ.2 8).bind fun U5=>
 (bif (Nat.ble ((0+DZ.2)*97) 35184372088832) then
 (U4.cL (sO.next+1) 42 8 (.loc (.n sO.next) 0 8) 0 DZ.2 U5).bind fun abG=>
 (AV.eG abG.1).bind fun abH=>
 (abG.2.st (.n h.next) 0 [(.sl abH.1 abH.2)]).bind fun jJ=>
 aV jJ (.n h.next) 0 fun LM=>
 ai jJ (.n sS.2.next) 0 fun G4=>
 ai jJ (.n sS.2.next) 1 fun Un=>
 ai jJ (.n sS.2.next) 2 fun Uo=>
 ai jJ (.n sS.2.next) 3 fun Up=>
 (jJ.ld (.n sS.2.next) 4).bind fun Uq=>
 (AV.aZ Uq).bind fun Ur=>
 aV jJ (.n sS.2.next) 5 fun Lr=>
 aV jJ (.n sS.2.next) 6 fun Ls=>
 cQ jJ (.n sS.2.next) 7 fun Us=>
 (bif ((decide ((0:Int)<=eJ)) && (decide (eJ<(LM.2:Int)))) then
 (SA.ref LM.1).bind fun abI=>
 (jJ.st abI.1 (abI.2+(eJ.toNat*8)) [(.i .i64 G4),(.i .i64 Un),(.i .i64 Uo),(.i .i64 Up),(.b Ur),(.sl Lr.1 Lr.2),(.sl Ls.1 Ls.2),(.i .u64 Us)]).bind fun BK=>
 aV BK (.n h.next) 0 fun abJ=>
 aV BK (.n h.next) 1 fun Lt=>
 ai BK (.n h.next) 2 fun Lu=>
 aV BK (.n h.next) 3 fun abK=>
 ai BK (.n h.next) 4 fun amd=>
 aV BK (.n h.next) 5 fun abL=>
 aV BK (.n h.next) 6 fun abM=>
 (BK.st (.n (h.next+1)) 0 [(.sl abJ.1 abJ.2),(.sl Lt.1 Lt.2),(.i .i64 Lu),(.sl abK.1 abK.2),(.i .i64 amd),(.sl abL.1 abL.2),(.sl abM.1 abM.2)]).bind fun BL=>
 aV BL (.n (h.next+1)) 0 fun abN=>
 aV BL (.n (h.next+1)) 1 fun abO=>
 ai BL (.n (h.next+1)) 2 fun ame=>
 aV BL (.n (h.next+1)) 3 fun Mf=>
 ai BL (.n (h.next+1)) 4 fun amf=>
 aV BL (.n (h.next+1)) 5 fun abP=>
 aV BL (.n (h.next+1)) 6 fun abQ=>
 some ((.aG [(.agg [(.sl abN.1 abN.2),(.sl abO.1 abO.2),(.i .i64 ame),(.sl Mf.1 Mf.2),(.i .i64 amf),(.sl abP.1 abP.2),(.sl abQ.1 abQ.2)]),(.b true)]),BL)
 else none)
 else none)
 else none)
 else none)
 else none)
 else none)
 else none)
 else none))
 else none
def Le:Sm O:=vB (Ru MH K9 Dh)
theorem qu8:ag Tryz.prog 123:=Tryz.call123
theorem qu9 (Qj Hw Hx:Sm O):run (O:=O) Tryz.prog [(163,Qj),(164,Hw),(21,Hx)] Tryz.f123 (.n .z (.n .z (.n (.n .z (.n (.n .z .z) .z)) (.n .z (.n .z (.n (.n .z (.j false [] .z .z)) (.n (.n .z (.n (.lp false 0 [(6,.one (.i .i64))] [] (.n (.n .z .z) (.n (.n (.d [] [0,1,2,3,4,5,6,7,8,9,10,11,12,13,14,15,16,17,18] [0,0,0,4,0,16,0,0,192,448,1008,2044,4092,8188,8188,16380,49148,131071,262143]) .z) .z))) .z)) (.n .z (.n .z (.n .z (.n .z .z)))))))))))=Ru Qj Hw Hx:=by kernel_rfl
theorem qva:ah RO Tryz.prog 123 (Le):=
   have h:ah RO Tryz.prog 123 (Ru MH K9 Dh):=(qu9 MH K9 Dh)▸eY (ab quw (quy) <| ab qu2 (qu4) <| ab qam (qao) <| aJ) mixed Tryz.func123 (by kernel_rfl) _
   h.vB
def ZX (h:AH O) (Hy:Sm O):List AV × AH O->Option ((List AV × AH O) ⊕ (List AV × AH O)):=(fun eM=>
 (AV.aZ (eM.1.getD 0 .u)).bind fun uQ=>
 (bif uQ then
 aV eM.2 (.n h.next) 0 fun sH=>
 aV eM.2 (.n h.next) 1 fun Ql=>
 ai eM.2 (.n h.next) 2 fun iM=>
 aV eM.2 (.n h.next) 3 fun Pj=>
 ai eM.2 (.n h.next) 4 fun gZ=>
 aV eM.2 (.n h.next) 5 fun Fc=>
 aV eM.2 (.n h.next) 6 fun LO=>
 (Hy [(.agg [(.sl sH.1 sH.2),(.sl Ql.1 Ql.2),(.i .i64 iM),(.sl Pj.1 Pj.2),(.i .i64 gZ),(.sl Fc.1 Fc.2),(.sl LO.1 LO.2)])] eM.2).bind fun mK=>
 (AV.az 2 mK.1).bind fun Ig=>
 (AV.asAgg 7 (Ig.getD 0 .u)).bind fun Hr=>
 cT Hr 0 fun RI=>
 cT Hr 1 fun Mb=>
 au Hr 2 fun nu=>
 cT Hr 3 fun xL=>
 au Hr 4 fun sL=>
 cT Hr 5 fun PT=>
 cT Hr 6 fun l36=>
 (AV.aZ (Ig.getD 1 .u)).bind fun b37=>
 (mK.2.st (.n h.next) 0 [(.sl RI.1 RI.2),(.sl Mb.1 Mb.2),(.i .i64 nu),(.sl xL.1 xL.2),(.i .i64 sL),(.sl PT.1 PT.2),(.sl l36.1 l36.2)]).bind fun Fx=>
 some (Sum.inl ([(.b b37)],Fx))
 else some (Sum.inr ([],eM.2))))
def Wo (Hy:Sm O):Sm O:=fun xs h=>
 bif Nat.beq xs.length 1 then
 (AV.asAgg 7 (xs.getD 0 .u)).bind fun c0=>
 cT c0 0 fun l1=>
 cT c0 1 fun l2=>
 au c0 2 fun n3=>
 cT c0 3 fun l4=>
 au c0 4 fun n5=>
 cT c0 5 fun l6=>
 cT c0 6 fun l7=>
 let h8:=h.ax 2
 let h9:=h8.put h.next (.cells true 81 [(.sl l1.1 l1.2),(.sl l2.1 l2.2),(.i .i64 n3),(.sl l4.1 l4.2),(.i .i64 n5),(.sl l6.1 l6.2),(.sl l7.1 l7.2)])
 let fM:=h9.put (h.next+1) (.cells true 81 [(.sl .nil 0),(.sl .nil 0),(.i .i64 0),(.sl .nil 0),(.i .i64 0),(.sl .nil 0),(.sl .nil 0)])
 (bu (S:=List AV × AH O) (T:=List AV × AH O) (ZX h Hy) ([(.b true)],fM)).bind fun jq=>
 aV jq.2 (.n h.next) 0 fun R0=>
 aV jq.2 (.n h.next) 1 fun R1=>
 ai jq.2 (.n h.next) 2 fun tB=>
 aV jq.2 (.n h.next) 3 fun R3=>
 ai jq.2 (.n h.next) 4 fun sn=>
 aV jq.2 (.n h.next) 5 fun wv=>
 aV jq.2 (.n h.next) 6 fun tD=>
 (jq.2.st (.n (h.next+1)) 0 [(.sl R0.1 R0.2),(.sl R1.1 R1.2),(.i .i64 tB),(.sl R3.1 R3.2),(.i .i64 sn),(.sl wv.1 wv.2),(.sl tD.1 tD.2)]).bind fun HR=>
 aV HR (.n (h.next+1)) 0 fun Se=>
 aV HR (.n (h.next+1)) 1 fun LP=>
 ai HR (.n (h.next+1)) 2 fun B9=>
 aV HR (.n (h.next+1)) 3 fun xS=>
 ai HR (.n (h.next+1)) 4 fun Ba=>
 aV HR (.n (h.next+1)) 5 fun l66=>
 aV HR (.n (h.next+1)) 6 fun xM=>
 some ((.agg [(.sl Se.1 Se.2),(.sl LP.1 LP.2),(.i .i64 B9),(.sl xS.1 xS.2),(.i .i64 Ba),(.sl l66.1 l66.2),(.sl xM.1 xM.2)]),HR)
 else none
def qvd:Sm O:=vB (Wo Le)
theorem qve:ag Tryz.prog 73:=Tryz.call73
theorem qvf (Hy:Sm O):run (O:=O) Tryz.prog [(123,Hy)] Tryz.f73 (.n .z (.n .z (.n (.n (.lp false 0 [(3,.one .b)] [] (.n (.n .z .z) .z)) .z) .z)))=Wo Hy:=by kernel_rfl
theorem qvg:ah RO Tryz.prog 73 (qvd):=
   have h:ah RO Tryz.prog 73 (Wo Le):=(qvf Le)▸eY (ab qu8 (qva) <| aJ) mixed Tryz.func73 (by kernel_rfl) _
   h.vB
def Yb (zI:SA × Nat) (r36:AV × AH O) (Hx:Sm O) (Ql:SA × Nat) (zS:Sm O) (MY:Option (fJ × Nat)):List AV × AH O->Option ((List AV × AH O) ⊕ (List AV × AH O)):=(fun wo=>
 (AV.aX .i64 (wo.1.getD 0 .u)).bind fun vD=>
 (bif (decide (vD<(zI.2:Int))) then
 aV wo.2 (.n r36.2.next) 0 fun xM=>
 aV wo.2 (.n r36.2.next) 1 fun Z7=>
 ai wo.2 (.n r36.2.next) 2 fun Ry=>
 aV wo.2 (.n r36.2.next) 3 fun Rz=>
 ai wo.2 (.n r36.2.next) 4 fun Bw=>
 (bif ((decide ((0:Int)<=vD)) && (decide (vD<(zI.2:Int)))) then
 (SA.ref zI.1).bind fun q77=>
 ai wo.2 q77.1 (q77.2+(vD.toNat*1)) fun PQ=>
 (Hx [(.agg [(.sl xM.1 xM.2),(.sl Z7.1 Z7.2),(.i .i64 Ry),(.sl Rz.1 Rz.2),(.i .i64 Bw)]),(.i .i64 PQ)] wo.2).bind fun Ic=>
 (AV.az 2 Ic.1).bind fun U0=>
 (AV.asAgg 5 (U0.getD 0 .u)).bind fun c82=>
 cT c82 0 fun l83=>
 cT c82 1 fun Z9=>
 au c82 2 fun RX=>
 cT c82 3 fun l86=>
 au c82 4 fun LI=>
 cf U0 1 fun HY=>
 (Ic.2.st (.n r36.2.next) 0 [(.sl l83.1 l83.2),(.sl Z9.1 Z9.2),(.i .i64 RX),(.sl l86.1 l86.2),(.i .i64 LI)]).bind fun Sc=>
 (bif ((decide ((0:Int)<=vD)) && (decide (vD<(zI.2:Int)))) then
 (SA.ref zI.1).bind fun q90=>
 ai Sc q90.1 (q90.2+(vD.toNat*1)) fun Lj=>
 (bif ((decide ((0:Int)<=Lj)) && (decide (Lj<(Ql.2:Int)))) then
 (SA.ref Ql.1).bind fun q93=>
 cQ Sc q93.1 ((q93.2+(Lj.toNat*8))+7) fun n95=>
 (zS [(.p MY),(.i .u64 n95)] Sc).bind fun r96=>
 (AV.aX .u64 r96.1).bind fun n97=>
 some (Sum.inl ([(.i .i64 (IntKind.i64.wrap (vD+1)))],r96.2))
 else none)
 else none)
 else none)
 else some (Sum.inr ([],wo.2))))
def qvi (k69 Qa Qb k70 Hx zS k71 k72 k73:Sm O):Sm O:=fun xs h=>
 bif Nat.beq xs.length 1 then
 (AV.asAgg 3 (xs.getD 0 .u)).bind fun c0=>
 cT c0 0 fun l1=>
 cT c0 1 fun l2=>
 cT c0 2 fun l3=>
 let h4:=h.ax 2
 let h5:=h4.put h.next (.cells true 78 [(.sl l1.1 l1.2),(.sl l2.1 l2.2),(.sl l3.1 l3.2)])
 let h6:=h5.put (h.next+1) (.cells true 81 [(.sl .nil 0),(.sl .nil 0),(.i .i64 0),(.sl .nil 0),(.i .i64 0),(.sl .nil 0),(.sl .nil 0)])
 aV h6 (.n h.next) 0 fun l8=>
 aV h6 (.n h.next) 1 fun l10=>
 aV h6 (.n h.next) 2 fun B5=>
 (k69 [(.agg [(.sl l8.1 l8.2),(.sl l10.1 l10.2),(.sl B5.1 B5.2)])] h6).bind fun fA=>
 (AV.az 4 fA.1).bind fun Cb=>
 (AV.bH (Cb.getD 0 .u)).bind fun LC=>
 cT Cb 1 fun Ql=>
 cT Cb 2 fun zI=>
 (AV.aZ (Cb.getD 3 .u)).bind fun Lv=>
 (bif (!Lv) then
 (fA.2.st (.n (h.next+1)) 0 [(.sl .nil 0),(.sl .nil 0),(.i .i64 0),(.sl .nil 0),(.i .i64 0),(.sl .nil 0),(.sl .nil 0)]).bind fun vZ=>
 aV vZ (.n (h.next+1)) 0 fun l21=>
 aV vZ (.n (h.next+1)) 1 fun G9=>
 ai vZ (.n (h.next+1)) 2 fun qi=>
 aV vZ (.n (h.next+1)) 3 fun MU=>
 ai vZ (.n (h.next+1)) 4 fun xO=>
 aV vZ (.n (h.next+1)) 5 fun Mb=>
 aV vZ (.n (h.next+1)) 6 fun xL=>
 some ((.aG [(.p none),(.p none),(.agg [(.sl l21.1 l21.2),(.sl G9.1 G9.2),(.i .i64 qi),(.sl MU.1 MU.2),(.i .i64 xO),(.sl Mb.1 Mb.2),(.sl xL.1 xL.2)]),(.b false)]),vZ)
 else (Qa [(.p LC),(.fn none)] fA.2).bind fun Pu=>
 (AV.bH Pu.1).bind fun MY=>
 (Qb [(.p MY)] Pu.2).bind fun r36=>
 (AV.aX .i64 r36.1).bind fun B7=>
 (bif ((B7:Int) != 0) then
 (r36.2.st (.n (h.next+1)) 0 [(.sl .nil 0),(.sl .nil 0),(.i .i64 0),(.sl .nil 0),(.i .i64 0),(.sl .nil 0),(.sl .nil 0)]).bind fun Fx=>
 aV Fx (.n (h.next+1)) 0 fun l40=>
 aV Fx (.n (h.next+1)) 1 fun WM=>
 ai Fx (.n (h.next+1)) 2 fun MT=>
 aV Fx (.n (h.next+1)) 3 fun Rx=>
 ai Fx (.n (h.next+1)) 4 fun DN=>
 aV Fx (.n (h.next+1)) 5 fun l50=>
 aV Fx (.n (h.next+1)) 6 fun l52=>
 some ((.aG [(.p none),(.p none),(.agg [(.sl l40.1 l40.2),(.sl WM.1 WM.2),(.i .i64 MT),(.sl Rx.1 Rx.2),(.i .i64 DN),(.sl l50.1 l50.2),(.sl l52.1 l52.2)]),(.b false)]),Fx)
 else let h53:=r36.2.ax 1
 (k70 [(.sl Ql.1 Ql.2)] h53).bind fun ze=>
 (AV.asAgg 7 ze.1).bind fun DQ=>
 cT DQ 0 fun Se=>
 cT DQ 1 fun l57=>
 au DQ 2 fun H0=>
 cT DQ 3 fun l59=>
 au DQ 4 fun B9=>
 cT DQ 5 fun l61=>
 cT DQ 6 fun xS=>
 let HC:=ze.2.put r36.2.next (.cells true 81 [(.sl .nil 0),(.sl .nil 0),(.i .i64 0),(.sl .nil 0),(.i .i64 0),(.sl .nil 0),(.sl .nil 0)])
 (HC.st (.n r36.2.next) 0 [(.sl Se.1 Se.2),(.sl l57.1 l57.2),(.i .i64 H0),(.sl l59.1 l59.2),(.i .i64 B9),(.sl l61.1 l61.2),(.sl xS.1 xS.2)]).bind fun h64=>
 (bu (S:=List AV × AH O) (T:=List AV × AH O) (Yb zI r36 Hx Ql zS MY) ([(.i .i64 0)],h64)).bind fun r98=>
 (k71 [(.p MY)] r98.2).bind fun WI=>
 (AV.bH WI.1).bind fun abS=>
 (bif (Option.isNone abS) then
 (WI.2.st (.n (h.next+1)) 0 [(.sl .nil 0),(.sl .nil 0),(.i .i64 0),(.sl .nil 0),(.i .i64 0),(.sl .nil 0),(.sl .nil 0)]).bind fun vX=>
 aV vX (.n (h.next+1)) 0 fun BG=>
 aV vX (.n (h.next+1)) 1 fun abT=>
 ai vX (.n (h.next+1)) 2 fun LK=>
 aV vX (.n (h.next+1)) 3 fun abU=>
 ai vX (.n (h.next+1)) 4 fun sN=>
 aV vX (.n (h.next+1)) 5 fun BE=>
 aV vX (.n (h.next+1)) 6 fun abV=>
 some ((.aG [(.p none),(.p none),(.agg [(.sl BG.1 BG.2),(.sl abT.1 abT.2),(.i .i64 LK),(.sl abU.1 abU.2),(.i .i64 sN),(.sl BE.1 BE.2),(.sl abV.1 abV.2)]),(.b false)]),vX)
 else (k72 [(.p abS)] WI.2).bind fun zA=>
 (AV.aX .i64 zA.1).bind fun abj=>
 aV zA.2 (.n r36.2.next) 0 fun abW=>
 aV zA.2 (.n r36.2.next) 1 fun abX=>
 ai zA.2 (.n r36.2.next) 2 fun Uk=>
 aV zA.2 (.n r36.2.next) 3 fun abY=>
 ai zA.2 (.n r36.2.next) 4 fun amg=>
 aV zA.2 (.n r36.2.next) 5 fun Mc=>
 aV zA.2 (.n r36.2.next) 6 fun abZ=>
 (k73 [(.agg [(.sl abW.1 abW.2),(.sl abX.1 abX.2),(.i .i64 Uk),(.sl abY.1 abY.2),(.i .i64 amg),(.sl Mc.1 Mc.2),(.sl abZ.1 abZ.2)])] zA.2).bind fun ab0=>
 (AV.asAgg 7 ab0.1).bind fun D1=>
 cT D1 0 fun ab1=>
 cT D1 1 fun ab2=>
 au D1 2 fun Md=>
 cT D1 3 fun ab3=>
 au D1 4 fun Me=>
 cT D1 5 fun ab4=>
 cT D1 6 fun ab5=>
 (ab0.2.st (.n (h.next+1)) 0 [(.sl ab1.1 ab1.2),(.sl ab2.1 ab2.2),(.i .i64 Md),(.sl ab3.1 ab3.2),(.i .i64 Me),(.sl ab4.1 ab4.2),(.sl ab5.1 ab5.2)]).bind fun vq=>
 aV vq (.n (h.next+1)) 0 fun ab6=>
 aV vq (.n (h.next+1)) 1 fun Lp=>
 ai vq (.n (h.next+1)) 2 fun amh=>
 aV vq (.n (h.next+1)) 3 fun ab7=>
 ai vq (.n (h.next+1)) 4 fun Lq=>
 aV vq (.n (h.next+1)) 5 fun DZ=>
 aV vq (.n (h.next+1)) 6 fun ab8=>
 some ((.aG [(.p LC),(.p MY),(.agg [(.sl ab6.1 ab6.2),(.sl Lp.1 Lp.2),(.i .i64 amh),(.sl ab7.1 ab7.2),(.i .i64 Lq),(.sl DZ.1 DZ.2),(.sl ab8.1 ab8.2)]),(.b true)]),vq))))
 else none
def qvj:Sm O:=qvi qtg Zi Zj qtl Dh zG qtq quh qvd
theorem qvk:ag Tryz.prog 30:=Tryz.call30
theorem qvl (k69 Qa Qb k70 Hx zS k71 k72 k73:Sm O):run (O:=O) Tryz.prog [(69,k69),(10,Qa),(11,Qb),(70,k70),(21,Hx),(12,zS),(71,k71),(72,k72),(73,k73)] Tryz.f30 (.n .z (.n .z (.n (.n .z (.n .z .z)) (.n .z (.n (.n .z (.n .z .z)) (.n .z (.n (.n .z (.n (.lp false 0 [(12,.one (.i .i64))] [] (.n (.n .z .z) (.n (.n (.n (.d [] [0,1,2,3,4,5,6,7,8,9,10,11] [0,1,0,0,12,28,63,127,255,255,511,1535]) .z) .z) .z))) .z)) (.n .z (.n (.n .z (.n .z .z)) (.n .z .z))))))))))=qvi k69 Qa Qb k70 Hx zS k71 k72 k73:=by kernel_rfl
theorem qvm:ah RO Tryz.prog 30 qvj:=bJ (qvl _ _ _ _ _ _ _ _ _) (ab qth qtj <| ab qm5 qm7 <| ab qnz qn1 <| ab qtm qto <| ab qam qao <| ab qqh qqj <| ab qtr qtt <| ab qui quk <| ab qve qvg <| aJ) Tryz.func30 (by kernel_rfl)
def qvn:Sm O:=fun xs h=>
 bif Nat.beq xs.length 1 then
 (AV.bH (xs.getD 0 .u)).bind fun p0=>
 (bif (Option.isNone p0) then
 some ((.i .i64 0),h)
 else Option.bind p0 fun q1=>
 ai h q1.1 (q1.2+4) fun n3=>
 some ((.i .i64 n3),h))
 else none
def qvo:Sm O:=qvn
theorem qvp:ag Tryz.prog 31:=Tryz.call31
theorem qvq:run (O:=O) Tryz.prog [] Tryz.f31 (.n .z (.n (.n .z (.n .z .z)) .z))=qvn:=by kernel_rfl
theorem qvr:ah RO Tryz.prog 31 qvo:=bJ qvq (aJ) Tryz.func31 (by kernel_rfl)
def qvs:Sm O:=fun xs h=>
 bif Nat.beq xs.length 1 then
 (AV.bH (xs.getD 0 .u)).bind fun p0=>
 Option.bind p0 fun q1=>
 ai h q1.1 (q1.2+10) fun n3=>
 some ((.i .i64 n3),h)
 else none
def qvt:Sm O:=qvs
theorem qvu:ag Tryz.prog 33:=Tryz.call33
theorem qvv:run (O:=O) Tryz.prog [] Tryz.f33 (.n .z .z)=qvs:=by kernel_rfl
theorem qvw:ah RO Tryz.prog 33 qvt:=bJ qvv (aJ) Tryz.func33 (by kernel_rfl)
def qvx (jL Fy:Sm O):Sm O:=fun xs h=>
 bif Nat.beq xs.length 2 then
 (AV.asAgg 3 (xs.getD 0 .u)).bind fun c0=>
 cT c0 0 fun l1=>
 cT c0 1 fun l2=>
 cT c0 2 fun l3=>
 (AV.bH (xs.getD 1 .u)).bind fun p4=>
 let h5:=h.ax 1
 let h6:=h5.put h.next (.cells true 78 [(.sl l1.1 l1.2),(.sl l2.1 l2.2),(.sl l3.1 l3.2)])
 aV h6 (.n h.next) 0 fun l8=>
 (jL [(.p p4)] h6).bind fun r9=>
 (AV.bH r9.1).bind fun vm=>
 (aO (r9.2.ld (.n h.next) 0) (some (.sl l8.1 l8.2))).bind fun _=>
 (Fy [(.p vm)] r9.2).bind fun eM=>
 (AV.aX .i64 eM.1).bind fun eB=>
 (aO (eM.2.ld (.n h.next) 0) (some (.sl l8.1 l8.2))).bind fun _=>
 let RJ:Int:=(IntKind.i64.wrap ((IntKind.i64.wrap (8*(l8.2:Int))) - eB))
 some ((.i .i64 RJ),eM.2)
 else none
def qvy:Sm O:=qvx xj Ti
theorem qvz:ag Tryz.prog 36:=Tryz.call36
theorem qv0 (jL Fy:Sm O):run (O:=O) Tryz.prog [(23,jL),(35,Fy)] Tryz.f36 (.n .z (.n (.d [] [0,1,2,3,4,5,6,7,8] [0,1,3,7,0,16,48,127,255]) .z))=qvx jL Fy:=by kernel_rfl
theorem qv1:ah RO Tryz.prog 36 qvy:=bJ (qv0 _ _) (ab RG RH <| ab qrl qrn <| aJ) Tryz.func36 (by kernel_rfl)
def Yh (h:AH O) (fM:AH O):List AV × AH O->Option ((List AV × AH O) ⊕ (List AV × AH O)):=(fun ej=>
 (AV.aX .i64 (ej.1.getD 0 .u)).bind fun dU=>
 aV ej.2 (.n h.next) 5 fun zI=>
 (bif (decide (dU<(zI.2:Int))) then
 ((ej.2.ld (.n h.next) 5).bind fun w18=>
 (AV.eG w18).bind fun l19=>
 (bif ((decide ((0:Int)<=dU)) && (decide (dU<(l19.2:Int)))) then
 (SA.ref l19.1).bind fun RQ=>
 aV ej.2 RQ.1 ((RQ.2+(dU.toNat*8))+5) fun B6=>
 aV ej.2 (.n h.next) 5 fun Fc=>
 (bif ((decide ((0:Int)<=dU)) && (decide (dU<(Fc.2:Int)))) then
 (SA.ref Fc.1).bind fun MV=>
 aV ej.2 MV.1 ((MV.2+(dU.toNat*8))+6) fun MU=>
 let v28:Int:=(IntKind.i64.wrap ((IntKind.i64.wrap (1+(B6.2:Int)))+(MU.2:Int)))
 aV ej.2 (.n h.next) 1 fun RI=>
 (bif ((decide ((0:Int)<=dU)) && (decide (dU<(RI.2:Int)))) then
 (SA.ref RI.1).bind fun zN=>
 cQ ej.2 zN.1 (zN.2+(dU.toNat*1)) fun Hf=>
 (bif ((Hf:Int) != 0) then
 some ([],ej.2)
 else aV ej.2 (.n h.next) 5 fun PT=>
 (bif ((decide ((0:Int)<=dU)) && (decide (dU<(PT.2:Int)))) then
 (SA.ref PT.1).bind fun RZ=>
 (ej.2.ld RZ.1 ((RZ.2+(dU.toNat*8))+4)).bind fun UQ=>
 (AV.aZ UQ).bind fun UR=>
 ((bif UR then
 ai ej.2 (.n fM.next) 0 fun Li=>
 (ej.2.st (.n fM.next) 0 [(.i .i64 (IntKind.i64.wrap (Li+1)))]).bind fun RE=>
 ai RE (.n fM.next) 1 fun vC=>
 (RE.st (.n fM.next) 1 [(.i .i64 (IntKind.i64.wrap (vC+v28)))]).bind fun Ii=>
 some ([],Ii)
 else ai ej.2 (.n fM.next) 2 fun G6=>
 (ej.2.st (.n fM.next) 2 [(.i .i64 (IntKind.i64.wrap (G6+v28)))]).bind fun R2=>
 some ([],R2)):Option (List AV × AH O)).bind fun ME=>
 some ([],ME.2)
 else none))
 else none)
 else none)
 else none):Option (List AV × AH O)).bind fun B8=>
 some (Sum.inl ([(.i .i64 (IntKind.i64.wrap (dU+1)))],B8.2))
 else some (Sum.inr ([],ej.2))))
def qv3:Sm O:=fun xs h=>
 bif Nat.beq xs.length 1 then
 (AV.asAgg 7 (xs.getD 0 .u)).bind fun c0=>
 cT c0 0 fun l1=>
 cT c0 1 fun l2=>
 au c0 2 fun n3=>
 cT c0 3 fun l4=>
 au c0 4 fun n5=>
 cT c0 5 fun l6=>
 cT c0 6 fun l7=>
 let h8:=h.ax 2
 let h9:=h8.put h.next (.cells true 81 [(.sl l1.1 l1.2),(.sl l2.1 l2.2),(.i .i64 n3),(.sl l4.1 l4.2),(.i .i64 n5),(.sl l6.1 l6.2),(.sl l7.1 l7.2)])
 let fM:=h9.put (h.next+1) (.cells true 90 [(.i .i64 0),(.i .i64 0),(.i .i64 0)])
 let hU:=fM.ax 1
 let mO:=hU.put fM.next (.cells true 90 [(.i .i64 0),(.i .i64 0),(.i .i64 0)])
 (mO.st (.n fM.next) 0 [(.i .i64 0),(.i .i64 0),(.i .i64 0)]).bind fun lz=>
 (bu (S:=List AV × AH O) (T:=List AV × AH O) (Yh h fM) ([(.i .i64 0)],lz)).bind fun r50=>
 ai r50.2 (.n fM.next) 0 fun B4=>
 ai r50.2 (.n fM.next) 1 fun zO=>
 ai r50.2 (.n fM.next) 2 fun BD=>
 (r50.2.st (.n (h.next+1)) 0 [(.i .i64 B4),(.i .i64 zO),(.i .i64 BD)]).bind fun h57=>
 ai h57 (.n (h.next+1)) 0 fun DR=>
 ai h57 (.n (h.next+1)) 1 fun MJ=>
 ai h57 (.n (h.next+1)) 2 fun RR=>
 some ((.agg [(.i .i64 DR),(.i .i64 MJ),(.i .i64 RR)]),h57)
 else none
def qv4:Sm O:=qv3
theorem qv5:ag Tryz.prog 38:=Tryz.call38
theorem qv6:run (O:=O) Tryz.prog [] Tryz.f38 (.n .z (.n .z (.n (.n .z (.n (.lp false 0 [(4,.one (.i .i64))] [] (.n (.n .z .z) (.n (.j false [] (.n (.d [] [0,1,2,3,4,5,6,7,8,9,10,11,12,13,14,15,16] [0,1,0,7,15,31,63,127,0,256,0,1792,3840,7936,16128,32767,65535]) (.n (.n .z .z) (.n .z (.j false [] .z .z)))) .z) .z))) .z)) .z)))=qv3:=by kernel_rfl
theorem qv7:ah RO Tryz.prog 38 qv4:=bJ qv6 (aJ) Tryz.func38 (by kernel_rfl)
def VM (ej:AV × AH O) (Ce:Sm O) (zQ:Option (fJ × Nat)):List AV × AH O->Option ((List AV × AH O) ⊕ ((List AV × AH O) ⊕ (AV × AH O))):=(fun qs=>
 (AV.aX .i64 (qs.1.getD 0 .u)).bind fun mQ=>
 aV qs.2 (.n ej.2.next) 5 fun ami=>
 (bif (decide (mQ<(ami.2:Int))) then
 cE (S:=List AV × AH O) (R:=((List AV × AH O) ⊕ ((List AV × AH O) ⊕ (AV × AH O)))) ((qs.2.ld (.n ej.2.next) 1).bind fun amj=>
 (AV.eG amj).bind fun ab9=>
 (bif ((decide ((0:Int)<=mQ)) && (decide (mQ<(ab9.2:Int)))) then
 (SA.ref ab9.1).bind fun ab'=>
 cQ qs.2 ab'.1 (ab'.2+(mQ.toNat*1)) fun amk=>
 (bif ((amk:Int) == 0) then
 some (Sum.inl ([],qs.2))
 else let U6:=qs.2.ax 1
 aV U6 (.n ej.2.next) 1 fun aca=>
 (bif ((decide ((0:Int)<=mQ)) && (decide (mQ<(aca.2:Int)))) then
 (SA.ref aca.1).bind fun acb=>
 cQ U6 acb.1 (acb.2+(mQ.toNat*1)) fun Uu=>
 (Ce [(.p zQ),(.i .u64 Uu)] U6).bind fun acd=>
 (AV.az 2 acd.1).bind fun ace=>
 (AV.asAgg 5 (ace.getD 0 .u)).bind fun Mg=>
 au Mg 0 fun aml=>
 au Mg 1 fun amm=>
 au Mg 2 fun Lu=>
 au Mg 3 fun amn=>
 (AV.aZ (Mg.getD 4 .u)).bind fun amo=>
 au ace 1 fun amp=>
 let amq:=acd.2.put qs.2.next (.cells true 39 [(.i .i64 0),(.i .i64 0),(.i .i64 0),(.i .i64 0),(.b false)])
 (amq.st (.n qs.2.next) 0 [(.i .i64 aml),(.i .i64 amm),(.i .i64 Lu),(.i .i64 amn),(.b amo)]).bind fun rI=>
 ai rI (.n qs.2.next) 0 fun amr=>
 ai rI (.n qs.2.next) 1 fun ams=>
 ai rI (.n qs.2.next) 2 fun amt=>
 ai rI (.n qs.2.next) 3 fun amu=>
 (rI.ld (.n qs.2.next) 4).bind fun amv=>
 (AV.aZ amv).bind fun amw=>
 aV rI (.n ej.2.next) 0 fun Mf=>
 (bif ((decide ((0:Int)<=mQ)) && (decide (mQ<(Mf.2:Int)))) then
 (SA.ref Mf.1).bind fun wy=>
 ai rI wy.1 (wy.2+(mQ.toNat*8)) fun Uw=>
 ai rI wy.1 ((wy.2+(mQ.toNat*8))+1) fun amx=>
 ai rI wy.1 (((wy.2+(mQ.toNat*8))+1)+1) fun amy=>
 ai rI wy.1 ((((wy.2+(mQ.toNat*8))+1)+1)+1) fun amz=>
 (rI.ld wy.1 (((((wy.2+(mQ.toNat*8))+1)+1)+1)+1)).bind fun amA=>
 (AV.aZ amA).bind fun amB=>
 ((bif ((!((((amr:Int) == Uw) && (((ams:Int) == amx) && true)) && (((amt:Int) == amy) && (((amu:Int) == amz) && ((amw == amB) && true))))) == false) then
 some ([(.b ((amp:Int) != 0))],rI)
 else some ([(.b true)],rI)):Option (List AV × AH O)).bind fun U7=>
 (AV.aZ (U7.1.getD 0 .u)).bind fun amC=>
 (bif amC then
 ((((some ((.b false),U7.2):Option (AV × AH O)).map fun r=>Sum.inr (Sum.inr r)):Option ((List AV × AH O) ⊕ ((List AV × AH O) ⊕ (AV × AH O)))).map Sum.inr)
 else some (Sum.inl ([],U7.2)))
 else none)
 else none))
 else none)) fun amD=>
 some (Sum.inl ([(.i .i64 (IntKind.i64.wrap (mQ+1)))],amD.2))
 else some (Sum.inr (Sum.inl ([],qs.2)))))
def qv9 (k28 k29 k30 Ie P9 k31 oW k33 jL MS Fy k36 Qc k38 k19 Qd Ce:Sm O):Sm O:=fun xs h=>
 bif Nat.beq xs.length 1 then
 (AV.asAgg 3 (xs.getD 0 .u)).bind fun c0=>
 cT c0 0 fun l1=>
 cT c0 1 fun l2=>
 cT c0 2 fun l3=>
 let h4:=h.ax 1
 let h5:=h4.put h.next (.cells true 78 [(.sl l1.1 l1.2),(.sl l2.1 l2.2),(.sl l3.1 l3.2)])
 (k28 [] h5).bind fun r6=>
 (AV.aZ r6.1).bind fun b7=>
 (bif (!b7) then
 some ((.b false),r6.2)
 else aV r6.2 (.n h.next) 0 fun l9=>
 aV r6.2 (.n h.next) 1 fun iS=>
 aV r6.2 (.n h.next) 2 fun DE=>
 (k29 [(.agg [(.sl l9.1 l9.2),(.sl iS.1 iS.2),(.sl DE.1 DE.2)])] r6.2).bind fun ej=>
 (AV.aZ ej.1).bind fun JR=>
 (bif (!JR) then
 some ((.b true),ej.2)
 else let sk:=ej.2.ax 1
 aV sk (.n h.next) 0 fun Sd=>
 aV sk (.n h.next) 1 fun Pj=>
 aV sk (.n h.next) 2 fun B6=>
 (k30 [(.agg [(.sl Sd.1 Sd.2),(.sl Pj.1 Pj.2),(.sl B6.1 B6.2)])] sk).bind fun v9=>
 (AV.az 4 v9.1).bind fun Fv=>
 (AV.bH (Fv.getD 0 .u)).bind fun zQ=>
 (AV.bH (Fv.getD 1 .u)).bind fun p26=>
 (AV.asAgg 7 (Fv.getD 2 .u)).bind fun BC=>
 cT BC 0 fun za=>
 cT BC 1 fun DK=>
 au BC 2 fun lN=>
 cT BC 3 fun Mb=>
 au BC 4 fun nu=>
 cT BC 5 fun xL=>
 cT BC 6 fun l34=>
 (AV.aZ (Fv.getD 3 .u)).bind fun b35=>
 let h36:=v9.2.put ej.2.next (.cells true 81 [(.sl .nil 0),(.sl .nil 0),(.i .i64 0),(.sl .nil 0),(.i .i64 0),(.sl .nil 0),(.sl .nil 0)])
 (h36.st (.n ej.2.next) 0 [(.sl za.1 za.2),(.sl DK.1 DK.2),(.i .i64 lN),(.sl Mb.1 Mb.2),(.i .i64 nu),(.sl xL.1 xL.2),(.sl l34.1 l34.2)]).bind fun zL=>
 (bif (!b35) then
 some ((.b false),zL)
 else let Fx:=zL.ax 1
 (Ie [(.p zQ)] Fx).bind fun jq=>
 (AV.bH jq.1).bind fun p40=>
 Option.bind p40 fun UJ=>
 cV jq.2 UJ.1 UJ.2 fun p43=>
 (P9 [(.p p43)] jq.2).bind fun r44=>
 (AV.asAgg 2 r44.1).bind fun c45=>
 cf c45 0 fun G6=>
 cf c45 1 fun Hg=>
 let BA:=r44.2.put zL.next (.cells true 51 [(.i .u64 0),(.i .u64 0)])
 (BA.st (.n zL.next) 0 [(.i .u64 G6),(.i .u64 Hg)]).bind fun h49=>
 aV h49 (.n h.next) 0 fun wv=>
 aV h49 (.n h.next) 1 fun tD=>
 aV h49 (.n h.next) 2 fun zU=>
 (Ie [(.p zQ)] h49).bind fun WN=>
 (AV.bH WN.1).bind fun p57=>
 (aO (WN.2.ld (.n h.next) 0) (some (.sl wv.1 wv.2))).bind fun _=>
 (aO (WN.2.ld (.n h.next) 1) (some (.sl tD.1 tD.2))).bind fun _=>
 (aO (WN.2.ld (.n h.next) 2) (some (.sl zU.1 zU.2))).bind fun _=>
 Option.bind p57 fun RW=>
 cV WN.2 RW.1 RW.2 fun p60=>
 (k31 [(.p p60)] WN.2).bind fun qj=>
 (AV.aX .i64 qj.1).bind fun LB=>
 (aO (qj.2.ld (.n h.next) 0) (some (.sl wv.1 wv.2))).bind fun _=>
 (aO (qj.2.ld (.n h.next) 1) (some (.sl tD.1 tD.2))).bind fun _=>
 (aO (qj.2.ld (.n h.next) 2) (some (.sl zU.1 zU.2))).bind fun _=>
 (oW [(.p zQ)] qj.2).bind fun LH=>
 (AV.bH LH.1).bind fun p64=>
 (aO (LH.2.ld (.n h.next) 0) (some (.sl wv.1 wv.2))).bind fun _=>
 (aO (LH.2.ld (.n h.next) 1) (some (.sl tD.1 tD.2))).bind fun _=>
 (aO (LH.2.ld (.n h.next) 2) (some (.sl zU.1 zU.2))).bind fun _=>
 (k33 [(.p p64)] LH.2).bind fun wo=>
 (AV.aX .i64 wo.1).bind fun vD=>
 (aO (wo.2.ld (.n h.next) 0) (some (.sl wv.1 wv.2))).bind fun _=>
 (aO (wo.2.ld (.n h.next) 1) (some (.sl tD.1 tD.2))).bind fun _=>
 (aO (wo.2.ld (.n h.next) 2) (some (.sl zU.1 zU.2))).bind fun _=>
 (jL [(.p zQ)] wo.2).bind fun Ih=>
 (AV.bH Ih.1).bind fun p68=>
 (aO (Ih.2.ld (.n h.next) 0) (some (.sl wv.1 wv.2))).bind fun _=>
 (aO (Ih.2.ld (.n h.next) 1) (some (.sl tD.1 tD.2))).bind fun _=>
 (aO (Ih.2.ld (.n h.next) 2) (some (.sl zU.1 zU.2))).bind fun _=>
 (MS [(.p p68)] Ih.2).bind fun Sb=>
 (AV.aX .i64 Sb.1).bind fun RY=>
 (aO (Sb.2.ld (.n h.next) 0) (some (.sl wv.1 wv.2))).bind fun _=>
 (aO (Sb.2.ld (.n h.next) 1) (some (.sl tD.1 tD.2))).bind fun _=>
 (aO (Sb.2.ld (.n h.next) 2) (some (.sl zU.1 zU.2))).bind fun _=>
 let v71:Int:=(IntKind.i64.wrap ((IntKind.i64.wrap (LB - vD)) - RY))
 (jL [(.p zQ)] Sb.2).bind fun DP=>
 (AV.bH DP.1).bind fun p73=>
 (aO (DP.2.ld (.n h.next) 0) (some (.sl wv.1 wv.2))).bind fun _=>
 (aO (DP.2.ld (.n h.next) 1) (some (.sl tD.1 tD.2))).bind fun _=>
 (aO (DP.2.ld (.n h.next) 2) (some (.sl zU.1 zU.2))).bind fun _=>
 (Fy [(.p p73)] DP.2).bind fun Fk=>
 (AV.aX .i64 Fk.1).bind fun RP=>
 (aO (Fk.2.ld (.n h.next) 0) (some (.sl wv.1 wv.2))).bind fun _=>
 (aO (Fk.2.ld (.n h.next) 1) (some (.sl tD.1 tD.2))).bind fun _=>
 (aO (Fk.2.ld (.n h.next) 2) (some (.sl zU.1 zU.2))).bind fun _=>
 (k36 [(.agg [(.sl wv.1 wv.2),(.sl tD.1 tD.2),(.sl zU.1 zU.2)]),(.p zQ)] Fk.2).bind fun vE=>
 (AV.aX .i64 vE.1).bind fun Cc=>
 let v78:Int:=(IntKind.i64.wrap ((IntKind.i64.wrap (v71 - RP)) - Cc))
 let h79:=vE.2.ax 1
 (Qc [(.p zQ)] h79).bind fun Ic=>
 (AV.asAgg 3 Ic.1).bind fun U0=>
 au U0 0 fun Pz=>
 au U0 1 fun n83=>
 au U0 2 fun Ib=>
 let h85:=Ic.2.put vE.2.next (.cells true 88 [(.i .i64 0),(.i .i64 0),(.i .i64 0)])
 (h85.st (.n vE.2.next) 0 [(.i .i64 Pz),(.i .i64 n83),(.i .i64 Ib)]).bind fun Mh=>
 let Sf:=Mh.ax 1
 aV Sf (.n ej.2.next) 0 fun l89=>
 aV Sf (.n ej.2.next) 1 fun l91=>
 ai Sf (.n ej.2.next) 2 fun US=>
 aV Sf (.n ej.2.next) 3 fun l95=>
 ai Sf (.n ej.2.next) 4 fun n97=>
 aV Sf (.n ej.2.next) 5 fun l99=>
 aV Sf (.n ej.2.next) 6 fun ach=>
 (k38 [(.agg [(.sl l89.1 l89.2),(.sl l91.1 l91.2),(.i .i64 US),(.sl l95.1 l95.2),(.i .i64 n97),(.sl l99.1 l99.2),(.sl ach.1 ach.2)])] Sf).bind fun aci=>
 (AV.asAgg 3 aci.1).bind fun U9=>
 au U9 0 fun LV=>
 au U9 1 fun zq=>
 au U9 2 fun sR=>
 let amE:=aci.2.put Mh.next (.cells true 90 [(.i .i64 0),(.i .i64 0),(.i .i64 0)])
 (amE.st (.n Mh.next) 0 [(.i .i64 LV),(.i .i64 zq),(.i .i64 sR)]).bind fun sJ=>
 let wm:=sJ.ax 1
 cQ wm (.n zL.next) 0 fun sN=>
 cQ wm (.n zL.next) 1 fun BH=>
 (Ie [(.p zQ)] wm).bind fun BJ=>
 (AV.bH BJ.1).bind fun amF=>
 (aO (BJ.2.ld (.n zL.next) 0) (some (.i .u64 sN))).bind fun _=>
 (aO (BJ.2.ld (.n zL.next) 1) (some (.i .u64 BH))).bind fun _=>
 Option.bind amF fun acj=>
 cV BJ.2 acj.1 acj.2 fun amG=>
 (k19 [(.p amG),(.agg [(.i .u64 sN),(.i .u64 BH)])] BJ.2).bind fun Ln=>
 (AV.asAgg 2 Ln.1).bind fun By=>
 cf By 0 fun Lo=>
 cf By 1 fun DF=>
 let U1:=Ln.2.put sJ.next (.cells true 51 [(.i .u64 0),(.i .u64 0)])
 (U1.st (.n sJ.next) 0 [(.i .u64 Lo),(.i .u64 DF)]).bind fun rJ=>
 ai rJ (.n vE.2.next) 0 fun PH=>
 ai rJ (.n vE.2.next) 1 fun PJ=>
 ai rJ (.n vE.2.next) 2 fun G3=>
 ai rJ (.n Mh.next) 0 fun Hm=>
 ai rJ (.n Mh.next) 1 fun U3=>
 ai rJ (.n Mh.next) 2 fun Md=>
 ((bif ((!(((PH:Int) == Hm) && (((PJ:Int) == U3) && (((G3:Int) == Md) && true)))) == false) then
 ai rJ (.n vE.2.next) 0 fun Me=>
 ai rJ (.n vE.2.next) 1 fun PM=>
 ai rJ (.n vE.2.next) 2 fun amH=>
 ai rJ (.n Mh.next) 1 fun ack=>
 ai rJ (.n Mh.next) 2 fun Qk=>
 (Qd [(.agg [(.i .i64 Me),(.i .i64 PM),(.i .i64 amH)])] rJ).bind fun DV=>
 (AV.aX .i64 DV.1).bind fun amI=>
 (aO (DV.2.ld (.n Mh.next) 1) (some (.i .i64 ack))).bind fun _=>
 (aO (DV.2.ld (.n Mh.next) 2) (some (.i .i64 Qk))).bind fun _=>
 let amJ:Bool:=((amI:Int) != (IntKind.i64.wrap (ack+Qk)))
 some ([(.b amJ)],DV.2)
 else some ([(.b true)],rJ)):Option (List AV × AH O)).bind fun Bz=>
 (AV.aZ (Bz.1.getD 0 .u)).bind fun amK=>
 ((bif (amK == false) then
 cQ Bz.2 (.n sJ.next) 0 fun UX=>
 some ([(.b ((UX:Int) != 0))],Bz.2)
 else some ([(.b true)],Bz.2)):Option (List AV × AH O)).bind fun Mi=>
 (AV.aZ (Mi.1.getD 0 .u)).bind fun amL=>
 ((bif (amL == false) then
 cQ Mi.2 (.n sJ.next) 1 fun UY=>
 ai Mi.2 (.n Mh.next) 0 fun O6=>
 let amM:Int:=(IntKind.u64.wrap (IntKind.i64.wrap (16*O6)))
 some ([(.b (decide (UY > amM)))],Mi.2)
 else some ([(.b true)],Mi.2)):Option (List AV × AH O)).bind fun U'=>
 (AV.aZ (U'.1.getD 0 .u)).bind fun amN=>
 (bif amN then
 some ((.b false),U'.2)
 else cE (S:=List AV × AH O) (R:=(AV × AH O)) (bu (S:=List AV × AH O) (T:=(List AV × AH O) ⊕ (AV × AH O)) (VM ej Ce zQ) ([(.i .i64 0)],U'.2)) fun O8=>
 (Ie [(.p zQ)] O8.2).bind fun Va=>
 (AV.bH Va.1).bind fun amO=>
 Option.bind amO fun acm=>
 cV Va.2 acm.1 acm.2 fun amP=>
 (k31 [(.p amP)] Va.2).bind fun acn=>
 (AV.aX .i64 acn.1).bind fun amQ=>
 (oW [(.p zQ)] acn.2).bind fun aco=>
 (AV.bH aco.1).bind fun amR=>
 (k33 [(.p amR)] aco.2).bind fun acp=>
 (AV.aX .i64 acp.1).bind fun amS=>
 (jL [(.p zQ)] acp.2).bind fun acq=>
 (AV.bH acq.1).bind fun amT=>
 (MS [(.p amT)] acq.2).bind fun acr=>
 (AV.aX .i64 acr.1).bind fun amU=>
 let amV:Int:=(IntKind.i64.wrap ((IntKind.i64.wrap (v78+amS))+amU))
 some ((.b ((amQ:Int) == amV)),acr.2)))))
 else none
def law22_SweepRests:Sm O:=qv9 Yn VL qvj QY Vz qvo BW qvt xj Y8 Ti qvy Yj qv4 XZ Yp Q1
theorem qwa (k28 k29 k30 Ie P9 k31 oW k33 jL MS Fy k36 Qc k38 k19 Qd Ce:Sm O):run (O:=O) Tryz.prog [(28,k28),(29,k29),(30,k30),(16,Ie),(17,P9),(31,k31),(32,oW),(33,k33),(23,jL),(34,MS),(35,Fy),(36,k36),(37,Qc),(38,k38),(19,k19),(39,Qd),(13,Ce)] Tryz.f6 (.n .z (.n (.n .z (.n .z .z)) (.n (.n .z (.n .z .z)) (.n .z (.n (.n .z (.n .z .z)) (.n .z (.n (.d [] [0,6,10,14,18,19,1,2,3,4,5,7,8,9,11,12,13,15,16,17,20,21,22] [0,1,3,7,15,31,0,127,255,511,0,1535,3583,8191,0,24063,56831,131071,0,0,908799,2097151,4194303]) (.n .z (.n .z (.n (.d [] [0,5,1,2,3,4,6,7,8] [0,1,3,7,15,0,63,0,255]) (.n (.n (.d [(9,8,[(86,.one .b)]),(19,3,[(91,.one .b)]),(24,7,[(100,.one .b)])] [0,1,2,3,4,5,6,7,8,9,10,12,13,14,15,16,11,17,18,19,20,21,22,23,24,25,26,27,28,29,30,31,32] [0,0,2,0,8,0,32,126,255,511,1023,2047,1023,5119,1023,17407,62463,131071,262143,524287,1048575,2097151,4194303,8388607,16777215,33554431,67108863,33554431,167772159,436207615,973078527,2147483647,4294967295]) (.n .z .z)) (.n (.n .z (.n (.lp true 0 [(12,.one (.i .i64))] [] (.n (.n .z .z) (.n (.j true [] (.n (.n .z .z) (.n .z (.n (.d [(9,2,[(138,.one .b)])] [0,1,2,3,4,5,6,7,8,9,10,11,12] [0,0,2,6,0,30,62,126,255,511,1023,2047,4095]) (.n .z .z)))) .z) .z))) .z)) .z))))))))))))=qv9 k28 k29 k30 Ie P9 k31 oW k33 jL MS Fy k36 Qc k38 k19 Qd Ce:=by kernel_rfl
theorem law22_SweepRests_sound:ah RO Tryz.prog 6 law22_SweepRests:=bJ (qwa _ _ _ _ _ _ _ _ _ _ _ _ _ _ _ _ _) (ab qsq qss <| ab qsv qsx <| ab qvk qvm <| ab qck qcm <| ab qqw qqy <| ab qvp qvr <| ab Wr Ws <| ab qvu qvw <| ab RG RH <| ab qjg qji <| ab qrl qrn <| ab qvz qv1 <| ab qsb qsd <| ab qv5 qv7 <| ab qrg qri <| ab qsg qsi <| ab qlz ql1 <| aJ) Tryz.func6 (by kernel_rfl)
end
end Go.Abs.Tryz
