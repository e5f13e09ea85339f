/-
  What functions of the program do. No conditions.
-/
import Derived.Test.YtncohicmiihjiaaGreatS9e
import Derived.Test.YtncohicmiihjiaaGreatProg
import Derived.KernelRfl
set_option linter.unusedVariables false
set_option linter.unusedSimpArgs false
set_option linter.constructorNameAsVariable false
set_option maxRecDepth 100000
namespace Go.Abs.Tryz
open Go Go.Abs Go.Proofs
noncomputable section
variable {O:Type} {RO:O->Loc->(Nat->Option Obj)->Prop}
def qqw:Sm O:=fun xs h=>
 bif Nat.beq xs.length 1 then
 (AV.bD (xs.getD 0 .u)).bind fun p0=>
 Option.bind p0 fun q1=>
 aj h q1.1 ((q1.2+3)+1) fun n3=>
 some ((.i .i64 n3),h)
 else none
def qqx:Sm O:=qqw
theorem qqy:ag Tryz.prog 35:=Tryz.call35
theorem qqz:run (O:=O) Tryz.prog [] Tryz.f35 (.n .z .z)=qqw:=by kernel_rfl
theorem qq0:ai RO Tryz.prog 35 qqx:=bJ qqz (aE) Tryz.func35 (by kernel_rfl)
def qq1 (qA wk:Sm O):Sm O:=fun xs h=>
 bif Nat.beq xs.length 2 then
 (AV.asAgg 5 (xs.getD 0 .u)).bind fun c0=>
 (AV.bD (c0.getD 0 .u)).bind fun p1=>
 aq c0 1 fun n2=>
 aq c0 2 fun n3=>
 aq c0 3 fun n4=>
 aq c0 4 fun n5=>
 aq xs 1 fun n6=>
 let h7:=h.az 1
 let h8:=h7.put h.next (.cells true 184 [(.p p1),(.i .i64 n2),(.i .i64 n3),(.i .i64 n4),(.i .i64 n5)])
 cD h8 (.n h.next) 0 fun tI=>
 aj h8 (.n h.next) 1 fun eD=>
 aj h8 (.n h.next) 2 fun iX=>
 aj h8 (.n h.next) 3 fun iQ=>
 aj h8 (.n h.next) 4 fun iB=>
 (qA [(.agg [(.p tI),(.i .i64 eD),(.i .i64 iX),(.i .i64 iQ),(.i .i64 iB)]),(.i .i64 n6)] h8).bind fun gH=>
 (AV.aX .i64 gH.1).bind fun jU=>
 (bif ((jU:Int) != 0) then
 some ((.aB [(.i .i64 0),(.i .i64 jU)]),gH.2)
 else cD gH.2 (.n h.next) 0 fun TP=>
 aj gH.2 (.n h.next) 1 fun nq=>
 aj gH.2 (.n h.next) 2 fun eN=>
 aj gH.2 (.n h.next) 3 fun qw=>
 aj gH.2 (.n h.next) 4 fun nY=>
 aj gH.2 (.n h.next) 3 fun pr=>
 (wk [(.agg [(.p TP),(.i .i64 nq),(.i .i64 eN),(.i .i64 qw),(.i .i64 nY)]),(.i .i64 n6),(.i .i64 pr)] gH.2).bind fun lK=>
 (AV.aX .i64 lK.1).bind fun tJ=>
 some ((.aB [(.i .i64 tJ),(.i .i64 0)]),lK.2))
 else none
def Qr:Sm O:=qq1 UW XG
theorem qq3:ag Tryz.prog 125:=Tryz.call125
theorem qq4 (qA wk:Sm O):run (O:=O) Tryz.prog [(165,qA),(166,wk)] Tryz.f125 (.n .z (.n (.n .z (.n .z (.n .z .z))) .z))=qq1 qA wk:=by kernel_rfl
theorem qq5:ai RO Tryz.prog 125 Qr:=bJ (qq4 _ _) (ae qid qif <| ae qpz qp1 <| aE) Tryz.func125 (by kernel_rfl)
def qq6 (qy gg eS:Sm O):Sm O:=fun xs h=>
 bif Nat.beq xs.length 2 then
 (AV.bD (xs.getD 0 .u)).bind fun p0=>
 aq xs 1 fun n1=>
 (qy [(.p p0),(.i .i64 n1)] h).bind fun r2=>
 (AV.ay 2 r2.1).bind fun c3=>
 cV c3 0 fun n4=>
 (AV.aZ (c3.getD 1 .u)).bind fun b5=>
 ((bif ((!b5) == false) then
 some ([(.b (((bG .and .u64 n4 1):Int) == 0))],r2.2)
 else some ([(.b true)],r2.2)):Option (List AV × AH O)).bind fun r6=>
 (AV.aZ (r6.1.getD 0 .u)).bind fun b7=>
 (bif b7 then
 some ((.i .i64 4),r6.2)
 else Option.bind p0 fun q8=>
 cD r6.2 q8.1 q8.2 fun tI=>
 Option.bind p0 fun sC=>
 aj r6.2 sC.1 (sC.2+1) fun fc=>
 let v14:Int:=(IntKind.u64.wrap ((IntKind.u64.wrap ((Int.fdiv n4 (2 ^ 1))+1))*2 ^ 1))
 (gg [(.p p0),(.i .i64 n1),(.i .i64 (-1))] r6.2).bind fun fN=>
 (AV.aX .i64 fN.1).bind fun iQ=>
 (aT (fN.2.ld q8.1 q8.2) (some (.p tI))).bind fun _=>
 (aT (fN.2.ld sC.1 (sC.2+1)) (some (.i .i64 fc))).bind fun _=>
 (eS [(.p tI),(.i .i64 fc),(.i .i64 iQ),(.i .u64 v14)] fN.2).bind fun dZ=>
 (AV.aX .i64 dZ.1).bind fun iB=>
 Option.bind p0 fun GR=>
 cD dZ.2 GR.1 GR.2 fun VL=>
 Option.bind p0 fun TN=>
 aj dZ.2 TN.1 (TN.2+1) fun nq=>
 Option.bind p0 fun Ub=>
 aj dZ.2 Ub.1 (Ub.2+5) fun qK=>
 (gg [(.p p0),(.i .i64 n1),(.i .i64 0)] dZ.2).bind fun tG=>
 (AV.aX .i64 tG.1).bind fun vq=>
 (aT (tG.2.ld GR.1 GR.2) (some (.p VL))).bind fun _=>
 (aT (tG.2.ld TN.1 (TN.2+1)) (some (.i .i64 nq))).bind fun _=>
 (aT (tG.2.ld Ub.1 (Ub.2+5)) (some (.i .i64 qK))).bind fun _=>
 (eS [(.p VL),(.i .i64 nq),(.i .i64 vq),(.i .u64 (IntKind.u64.wrap qK))] tG.2).bind fun Mv=>
 (AV.aX .i64 Mv.1).bind fun we=>
 Option.bind p0 fun NS=>
 (Mv.2.st NS.1 (NS.2+5) [(.i .i64 n1)]).bind fun sU=>
 Option.bind p0 fun oX=>
 aj sU oX.1 (oX.2+6) fun rU=>
 Option.bind p0 fun Fj=>
 (sU.st Fj.1 (Fj.2+6) [(.i .i64 (IntKind.i64.wrap (rU - 1)))]).bind fun HS=>
 some ((.i .i64 0),HS))
 else none
def qq7:Sm O:=qq6 UT Hw yO
theorem qq8:ag Tryz.prog 127:=Tryz.call127
theorem qq9 (qy gg eS:Sm O):run (O:=O) Tryz.prog [(168,qy),(159,gg),(141,eS)] Tryz.f127 (.n .z (.n .z (.n (.n (.g [(2,3,[(19,.one .b)])]) (.n .z .z)) (.n (.d [] [0,1,2,3,4,5,6,7,8,9,11,12,13,14,10,15] [0,1,3,7,0,16,48,112,0,0,768,0,2048,6144,14336,32767]) (.n (.d [] [0,1,2,3,4,5,6,7,8,9,11,12,13,14,15,10,16] [0,1,3,7,0,16,48,112,0,0,768,0,2048,6144,14336,30720,65535]) (.n .z (.n .z .z)))))))=qq6 qy gg eS:=by kernel_rfl
theorem qra:ai RO Tryz.prog 127 qq7:=bJ (qq9 _ _ _) (ae qgz qg1 <| ae qfb qfd <| ae TI TJ <| aE) Tryz.func127 (by kernel_rfl)
def qrb (n6:Int) (gC:Sm O) (p0:Option (fH × Nat)) (lv:Sm O) (eF:Sm O) (nK:Sm O) (Ha:Sm O):List AV × AH O->Option ((List AV × AH O) ⊕ (List AV × AH O)):=(fun r7=>
 (AV.aX .i64 (r7.1.getD 0 .u)).bind fun n8=>
 (AV.aX .i64 (r7.1.getD 1 .u)).bind fun n9=>
 (AV.aX .i64 (r7.1.getD 2 .u)).bind fun eO=>
 (AV.aX .i64 (r7.1.getD 3 .u)).bind fun fy=>
 (bif (decide (fy<n6)) then
 (gC [(.p p0)] r7.2).bind fun iS=>
 (AV.asAgg 5 iS.1).bind fun Q7=>
 (AV.bD (Q7.getD 0 .u)).bind fun p14=>
 aq Q7 1 fun fR=>
 aq Q7 2 fun iQ=>
 aq Q7 3 fun fe=>
 aq Q7 4 fun iB=>
 (lv [(.agg [(.p p14),(.i .i64 fR),(.i .i64 iQ),(.i .i64 fe),(.i .i64 iB)]),(.i .i64 eO)] iS.2).bind fun gH=>
 (AV.ay 2 gH.1).bind fun Bh=>
 aq Bh 0 fun lM=>
 aq Bh 1 fun iA=>
 Option.bind p0 fun EZ=>
 cD gH.2 EZ.1 (EZ.2+1) fun p25=>
 (eF [(.p p25),(.i .i64 eO),(.i .i64 0)] gH.2).bind fun lC=>
 (AV.ay 2 lC.1).bind fun E0=>
 cV E0 0 fun qw=>
 aq E0 1 fun vq=>
 Option.bind p0 fun q30=>
 cD lC.2 q30.1 (q30.2+1) fun p32=>
 (eF [(.p p32),(.i .i64 eO),(.i .i64 1)] lC.2).bind fun lK=>
 (AV.ay 2 lK.1).bind fun c34=>
 cV c34 0 fun wg=>
 aq c34 1 fun rU=>
 Option.bind p0 fun Fj=>
 cD lK.2 Fj.1 Fj.2 fun p39=>
 (nK [(.p p39),(.i .i64 (IntKind.i64.wrap qw))] lK.2).bind fun Bp=>
 (AV.aX .i64 Bp.1).bind fun DC=>
 Option.bind p0 fun QY=>
 cD Bp.2 QY.1 (QY.2+1) fun p44=>
 (Ha [(.p p44),(.i .i64 eO)] Bp.2).bind fun LJ=>
 (AV.aX .i64 LJ.1).bind fun Ll=>
 some (Sum.inl ([(.i .i64 (IntKind.i64.wrap (n8+1))),(.i .i64 (IntKind.i64.wrap (n9+(IntKind.i64.wrap wg)))),(.i .i64 lM),(.i .i64 (IntKind.i64.wrap (fy+1)))],LJ.2))
 else some (Sum.inr ([(.i .i64 n8),(.i .i64 n9)],r7.2))))
def qrc (gC lv eF nK Ha:Sm O):Sm O:=fun xs h=>
 bif Nat.beq xs.length 1 then
 (AV.bD (xs.getD 0 .u)).bind fun p0=>
 Option.bind p0 fun q1=>
 aj h q1.1 (q1.2+5) fun n3=>
 Option.bind p0 fun q4=>
 aj h q4.1 ((q4.2+5)+2) fun n6=>
 (bC (S:=List AV × AH O) (T:=List AV × AH O) (qrb n6 gC p0 lv eF nK Ha) ([(.i .i64 0),(.i .i64 0),(.i .i64 n3),(.i .i64 0)],h)).bind fun BP=>
 (AV.aX .i64 (BP.1.getD 0 .u)).bind fun Dy=>
 (AV.aX .i64 (BP.1.getD 1 .u)).bind fun sH=>
 Option.bind p0 fun q50=>
 (BP.2.st q50.1 (q50.2+5) [(.i .i64 0),(.i .i64 0),(.i .i64 0)]).bind fun GG=>
 Option.bind p0 fun q52=>
 aj GG q52.1 (q52.2+10) fun BS=>
 Option.bind p0 fun Zr=>
 (GG.st Zr.1 (Zr.2+10) [(.i .i64 (IntKind.i64.wrap (BS - sH)))]).bind fun h56=>
 some ((.aB [(.i .i64 Dy),(.i .i64 sH)]),h56)
 else none
def qrd:Sm O:=qrc NH Qr BF qgt qq7
theorem qre:ag Tryz.prog 75:=Tryz.call75
theorem qrf (gC lv eF nK Ha:Sm O):run (O:=O) Tryz.prog [(100,gC),(125,lv),(119,eF),(126,nK),(127,Ha)] Tryz.f75 (.n .z (.n .z (.n (.n .z (.n (.lp false 0 [(2,.one (.i .i64)),(3,.one (.i .i64)),(4,.one (.i .i64)),(21,.one (.i .i64))] [(2,.one (.i .i64)),(3,.one (.i .i64))] (.n .z (.n .z (.n (.n (.n .z (.n .z (.n .z (.n .z (.n .z .z))))) .z) .z)))) .z)) (.n .z (.n .z .z)))))=qrc gC lv eF nK Ha:=by kernel_rfl
theorem qrg:ai RO Tryz.prog 75 qrd:=bJ (qrf _ _ _ _ _) (ae qho qhq <| ae qq3 qq5 <| ae TS TT <| ae qgu qgw <| ae qq8 qra <| aE) Tryz.func75 (by kernel_rfl)
def qrh (nK:Sm O):Sm O:=fun xs h=>
 bif Nat.beq xs.length 1 then
 (AV.bD (xs.getD 0 .u)).bind fun p0=>
 Option.bind p0 fun q1=>
 (h.ld q1.1 (q1.2+5)).bind fun w2=>
 (AV.aZ w2).bind fun b3=>
 (bif (!b3) then
 some ((.i .i64 4),h)
 else Option.bind p0 fun q4=>
 cD h q4.1 q4.2 fun p6=>
 Option.bind p0 fun q7=>
 aj h q7.1 (q7.2+3) fun n9=>
 (nK [(.p p6),(.i .i64 n9)] h).bind fun du=>
 (AV.aX .i64 du.1).bind fun fy=>
 Option.bind p0 fun px=>
 (du.2.st px.1 (px.2+3) [(.i .i64 0),(.i .i64 0)]).bind fun jy=>
 Option.bind p0 fun jx=>
 (jy.st jx.1 (jx.2+5) [(.b false)]).bind fun tF=>
 some ((.i .i64 0),tF))
 else none
def qri:Sm O:=qrh qgt
theorem qrj:ag Tryz.prog 76:=Tryz.call76
theorem qrk (nK:Sm O):run (O:=O) Tryz.prog [(126,nK)] Tryz.f76 (.n .z (.n (.n .z (.n .z .z)) (.n (.d [] [0,1,2,3,4,5,6,7,8,9] [0,1,3,7,0,16,48,112,240,511]) (.n .z .z))))=qrh nK:=by kernel_rfl
theorem qrl:ai RO Tryz.prog 76 qri:=bJ (qrk _) (ae qgu qgw <| aE) Tryz.func76 (by kernel_rfl)
def qrm (lO k35 Fk qD k75 k76:Sm O):Sm O:=fun xs h=>
 bif Nat.beq xs.length 1 then
 (AV.bD (xs.getD 0 .u)).bind fun p0=>
 let h1:=h.az 1
 let h2:=h1.put h.next (.cells true 88 [(.i .i64 0),(.i .i64 0),(.i .i64 0)])
 let h3:=h2.az 1
 let h4:=h3.put h2.next (.cells true 88 [(.i .i64 0),(.i .i64 0),(.i .i64 0)])
 (lO [(.p p0)] h4).bind fun r5=>
 (AV.bD r5.1).bind fun p6=>
 (k35 [(.p p6)] r5.2).bind fun r7=>
 (AV.aX .i64 r7.1).bind fun n8=>
 (lO [(.p p0)] r7.2).bind fun r9=>
 (AV.bD r9.1).bind fun tI=>
 (Fk [(.p tI)] r9.2).bind fun eQ=>
 (AV.aX .i64 eQ.1).bind fun eD=>
 let VF:Int:=(if 0 > (IntKind.i64.wrap (n8 - eD)) then 0 else (IntKind.i64.wrap (n8 - eD)))
 (eQ.2.st (.n h2.next) 2 [(.i .i64 VF)]).bind fun mQ=>
 (qD [(.p p0)] mQ).bind fun fN=>
 (AV.bD fN.1).bind fun vd=>
 (k75 [(.p vd)] fN.2).bind fun dZ=>
 (AV.ay 2 dZ.1).bind fun Rm=>
 aq Rm 0 fun fu=>
 aq Rm 1 fun jU=>
 (dZ.2.st (.n h2.next) 0 [(.i .i64 fu)]).bind fun GU=>
 (GU.st (.n h2.next) 1 [(.i .i64 jU)]).bind fun G0=>
 (lO [(.p p0)] G0).bind fun vp=>
 (AV.bD vp.1).bind fun p24=>
 (k76 [(.p p24)] vp.2).bind fun eJ=>
 (AV.aX .i64 eJ.1).bind fun eN=>
 aj eJ.2 (.n h2.next) 0 fun qw=>
 aj eJ.2 (.n h2.next) 1 fun nY=>
 aj eJ.2 (.n h2.next) 2 fun pr=>
 (eJ.2.st (.n h.next) 0 [(.i .i64 qw),(.i .i64 nY),(.i .i64 pr)]).bind fun sU=>
 aj sU (.n h.next) 0 fun wg=>
 aj sU (.n h.next) 1 fun BO=>
 aj sU (.n h.next) 2 fun v9=>
 some ((.agg [(.i .i64 wg),(.i .i64 BO),(.i .i64 v9)]),sU)
 else none
def qrn:Sm O:=qrm BC qqx QE El qrd qri
theorem qro:ag Tryz.prog 37:=Tryz.call37
theorem qrp (lO k35 Fk qD k75 k76:Sm O):run (O:=O) Tryz.prog [(23,lO),(35,k35),(24,Fk),(32,qD),(75,k75),(76,k76)] Tryz.f37 (.n .z (.n .z (.n .z (.n .z (.n .z .z)))))=qrm lO k35 Fk qD k75 k76:=by kernel_rfl
theorem qrq:ai RO Tryz.prog 37 qrn:=bJ (qrp _ _ _ _ _ _) (ae TD TE <| ae qqy qq0 <| ae qng qni <| ae VD VE <| ae qre qrg <| ae qrj qrl <| aE) Tryz.func37 (by kernel_rfl)
def qrr:Sm O:=fun xs h=>
 bif Nat.beq xs.length 1 then
 (AV.asAgg 3 (xs.getD 0 .u)).bind fun c0=>
 aq c0 0 fun n1=>
 aq c0 1 fun n2=>
 aq c0 2 fun n3=>
 let h4:=h.az 1
 let h5:=h4.put h.next (.cells true 88 [(.i .i64 n1),(.i .i64 n2),(.i .i64 n3)])
 aj h5 (.n h.next) 1 fun n7=>
 aj h5 (.n h.next) 2 fun n9=>
 some ((.i .i64 (IntKind.i64.wrap (n7+n9))),h5)
 else none
def qrs:Sm O:=qrr
theorem qrt:ag Tryz.prog 39:=Tryz.call39
theorem qru:run (O:=O) Tryz.prog [] Tryz.f39 (.n .z .z)=qrr:=by kernel_rfl
theorem qrv:ai RO Tryz.prog 39 qrs:=bJ qru (aE) Tryz.func39 (by kernel_rfl)
def qrw:Sm O:=fun xs h=>
 bif Nat.beq xs.length 1 then
 (AV.bD (xs.getD 0 .u)).bind fun p0=>
 Option.bind p0 fun q1=>
 (h.ld q1.1 (q1.2+5)).bind fun w2=>
 (AV.aZ w2).bind fun b3=>
 some ((.b b3),h)
 else none
def qrx:Sm O:=qrw
theorem qry:ag Tryz.prog 68:=Tryz.call68
theorem qrz:run (O:=O) Tryz.prog [] Tryz.f68 (.n .z .z)=qrw:=by kernel_rfl
theorem qr0:ai RO Tryz.prog 68 qrx:=bJ qrz (aE) Tryz.func68 (by kernel_rfl)
def qr1 (k9 Pk Pl zM k37 k39 lO k68:Sm O):Sm O:=fun xs h=>
 bif Nat.beq xs.length 0 then
 let h0:=h.az 1
 let h1:=h0.put h.next (.cells true 73 [(.i .i64 0),(.i .i64 0),(.i .u8 0),(.i .u64 0)])
 (h1.st (.n h.next) 0 [(.i .i64 0),(.i .i64 3),(.i .u8 0),(.i .u64 0)]).bind fun h2=>
 let h3:=h2.az 1
 aj h3 (.n h.next) 0 fun n5=>
 aj h3 (.n h.next) 1 fun n7=>
 (h3.ld (.n h.next) 2).bind fun w8=>
 (AV.aX .u8 w8).bind fun n9=>
 gO h3 (.n h.next) 3 fun fy=>
 aj h3 (.n h.next) 0 fun fc=>
 aj h3 (.n h.next) 1 fun fR=>
 (h3.ld (.n h.next) 2).bind fun w16=>
 (AV.aX .u8 w16).bind fun fe=>
 gO h3 (.n h.next) 3 fun fu=>
 aj h3 (.n h.next) 0 fun lM=>
 aj h3 (.n h.next) 1 fun fj=>
 (h3.ld (.n h.next) 2).bind fun w24=>
 (AV.aX .u8 w24).bind fun oZ=>
 gO h3 (.n h.next) 3 fun qK=>
 let Bi:=h3.put h2.next (.cells true 73 [(.i .i64 n5),(.i .i64 n7),(.i .u8 n9),(.i .u64 fy),(.i .i64 fc),(.i .i64 fR),(.i .u8 fe),(.i .u64 fu),(.i .i64 lM),(.i .i64 fj),(.i .u8 oZ),(.i .u64 qK)])
 (k9 [(.sl (.loc (.n h2.next) 0 4) 3)] Bi).bind fun lB=>
 (AV.ay 3 lB.1).bind fun DK=>
 (AV.bD (DK.getD 0 .u)).bind fun VI=>
 dx DK 1 fun l32=>
 (AV.aZ (DK.getD 2 .u)).bind fun b33=>
 (bif (!b33) then
 some ((.b false),lB.2)
 else (Pk [(.p VI),(.fn none)] lB.2).bind fun Lq=>
 (AV.bD Lq.1).bind fun Mw=>
 ((bif ((Option.isNone Mw) == false) then
 (Pl [(.p Mw)] Lq.2).bind fun r36=>
 (AV.aX .i64 r36.1).bind fun BO=>
 some ([(.b ((BO:Int) != 0))],r36.2)
 else some ([(.b true)],Lq.2)):Option (List AV × AH O)).bind fun Mu=>
 (AV.aZ (Mu.1.getD 0 .u)).bind fun b39=>
 (bif b39 then
 some ((.b false),Mu.2)
 else (bif (decide ((1:Int)<(l32.2:Int))) then
 (SA.ref l32.1).bind fun q40=>
 gO Mu.2 q40.1 ((q40.2+8)+7) fun EX=>
 (zM [(.p Mw),(.i .u64 EX)] Mu.2).bind fun vu=>
 (AV.aX .u64 vu.1).bind fun Ms=>
 let h45:=vu.2.az 1
 (k37 [(.p VI)] h45).bind fun Q8=>
 (AV.asAgg 3 Q8.1).bind fun GY=>
 aq GY 0 fun Dy=>
 aq GY 1 fun sH=>
 aq GY 2 fun za=>
 let GG:=Q8.2.put vu.2.next (.cells true 88 [(.i .i64 0),(.i .i64 0),(.i .i64 0)])
 (GG.st (.n vu.2.next) 0 [(.i .i64 Dy),(.i .i64 sH),(.i .i64 za)]).bind fun sR=>
 aj sR (.n vu.2.next) 0 fun BS=>
 aj sR (.n vu.2.next) 1 fun DD=>
 aj sR (.n vu.2.next) 2 fun HM=>
 ((bif ((((BS:Int) == 0) && (((DD:Int) == 0) && (((HM:Int) == 8) && true))) == true) then
 aj sR (.n vu.2.next) 0 fun BQ=>
 aj sR (.n vu.2.next) 1 fun OH=>
 aj sR (.n vu.2.next) 2 fun AL=>
 (k39 [(.agg [(.i .i64 BQ),(.i .i64 OH),(.i .i64 AL)])] sR).bind fun DJ=>
 (AV.aX .i64 DJ.1).bind fun xP=>
 some ([(.b ((xP:Int) == 8))],DJ.2)
 else some ([(.b false)],sR)):Option (List AV × AH O)).bind fun VY=>
 (AV.aZ (VY.1.getD 0 .u)).bind fun b68=>
 ((bif (b68 == true) then
 (lO [(.p VI)] VY.2).bind fun r69=>
 (AV.bD r69.1).bind fun p70=>
 (k68 [(.p p70)] r69.2).bind fun r71=>
 (AV.aZ r71.1).bind fun b72=>
 some ([(.b (!b72))],r71.2)
 else some ([(.b false)],VY.2)):Option (List AV × AH O)).bind fun Gz=>
 (AV.aZ (Gz.1.getD 0 .u)).bind fun b74=>
 some ((.b b74),Gz.2)
 else none)))
 else none
def YJ:Sm O:=qr1 Xb Ym Yn zG qrn qrs BC qrx
theorem qr3:ag Tryz.prog 28:=Tryz.call28
theorem qr4 (k9 Pk Pl zM k37 k39 lO k68:Sm O):run (O:=O) Tryz.prog [(9,k9),(10,Pk),(11,Pl),(12,zM),(37,k37),(39,k39),(23,lO),(68,k68)] Tryz.f28 (.n .z (.n .z (.n .z (.n (.n .z (.n .z .z)) (.n .z (.n (.n (.g [(2,3,[(28,.one .b)])]) (.n .z .z)) (.n .z (.n .z (.n (.g [(3,3,[(44,.one .b)]),(8,4,[(50,.one .b)])]) .z)))))))))=qr1 k9 Pk Pl zM k37 k39 lO k68:=by kernel_rfl
theorem qr5:ai RO Tryz.prog 28 YJ:=bJ (qr4 _ _ _ _ _ _ _ _) (ae qmw qmy <| ae qm6 qm8 <| ae qn1 qn3 <| ae qqj qql <| ae qro qrq <| ae qrt qrv <| ae TD TE <| ae qry qr0 <| aE) Tryz.func28 (by kernel_rfl)
def YK:Sm O:=fun xs h=>
 bif Nat.beq xs.length 1 then
 (AV.asAgg 3 (xs.getD 0 .u)).bind fun c0=>
 dx c0 0 fun l1=>
 dx c0 1 fun l2=>
 dx c0 2 fun l3=>
 let h4:=h.az 1
 let h5:=h4.put h.next (.cells true 78 [(.sl l1.1 l1.2),(.sl l2.1 l2.2),(.sl l3.1 l3.2)])
 aV h5 (.n h.next) 0 fun l7=>
 ((bif ((decide ((l7.2:Int)<=14)) == true) then
 aV h5 (.n h.next) 1 fun l9=>
 some ([(.b (decide ((l9.2:Int)<=40)))],h5)
 else some ([(.b false)],h5)):Option (List AV × AH O)).bind fun du=>
 (AV.aZ (du.1.getD 0 .u)).bind fun GL=>
 ((bif (GL == true) then
 aV du.2 (.n h.next) 2 fun HI=>
 some ([(.b (decide ((HI.2:Int)<=10)))],du.2)
 else some ([(.b false)],du.2)):Option (List AV × AH O)).bind fun kY=>
 (AV.aZ (kY.1.getD 0 .u)).bind fun TF=>
 some ((.b TF),kY.2)
 else none
def Vo:Sm O:=YK
theorem qr8:ag Tryz.prog 29:=Tryz.call29
theorem qr9:run (O:=O) Tryz.prog [] Tryz.f29 (.n .z (.n (.g [(4,4,[(12,.one .b)]),(10,4,[(18,.one .b)])]) .z))=YK:=by kernel_rfl
theorem qsa:ai RO Tryz.prog 29 Vo:=bJ qr9 (aE) Tryz.func29 (by kernel_rfl)
def qsb (qu:Sm O):Sm O:=fun xs h=>
 bif Nat.beq xs.length 2 then
 (AV.asAgg 2 (xs.getD 0 .u)).bind fun c0=>
 aq c0 0 fun n1=>
 aq c0 1 fun n2=>
 aq xs 1 fun n3=>
 let h4:=h.az 1
 let h5:=h4.put h.next (.cells true 37 [(.i .i64 n1),(.i .i64 n2)])
 aj h5 (.n h.next) 0 fun n7=>
 aj h5 (.n h.next) 1 fun n9=>
 (qu [(.agg [(.i .i64 n7),(.i .i64 n9)])] h5).bind fun du=>
 (AV.aZ du.1).bind fun GL=>
 ((bif ((!GL) == false) then
 some ([(.b (decide (n3<0)))],du.2)
 else some ([(.b true)],du.2)):Option (List AV × AH O)).bind fun iS=>
 (AV.aZ (iS.1.getD 0 .u)).bind fun OK=>
 ((bif (OK == false) then
 aj iS.2 (.n h.next) 0 fun fR=>
 some ([(.b (decide (n3>=fR)))],iS.2)
 else some ([(.b true)],iS.2)):Option (List AV × AH O)).bind fun iO=>
 (AV.aZ (iO.1.getD 0 .u)).bind fun GM=>
 (bif GM then
 some ((.aB [(.i .i64 0),(.i .i64 32)]),iO.2)
 else some ((.aB [(.i .i64 (IntKind.i64.wrap (1+n3))),(.i .i64 0)]),iO.2))
 else none
def qsc:Sm O:=qsb SG
theorem qsd:ag Tryz.prog 160:=Tryz.call160
theorem qse (qu:Sm O):run (O:=O) Tryz.prog [(145,qu)] Tryz.f160 (.n .z (.n (.n (.g [(3,2,[(12,.one .b)]),(7,4,[(18,.one .b)])]) (.n .z .z)) .z))=qsb qu:=by kernel_rfl
theorem qsf:ai RO Tryz.prog 160 qsc:=bJ (qse _) (ae qc0 qc2 <| aE) Tryz.func160 (by kernel_rfl)
def qsg (O1 Pm nu BU:Sm O):Sm O:=fun xs h=>
 bif Nat.beq xs.length 4 then
 (AV.bD (xs.getD 0 .u)).bind fun p0=>
 cV xs 1 fun n1=>
 aq xs 2 fun n2=>
 cV xs 3 fun n3=>
 let h4:=h.az 1
 (O1 [(.p p0),(.i .u64 n1)] h4).bind fun r5=>
 (AV.ay 2 r5.1).bind fun c6=>
 (AV.asAgg 5 (c6.getD 0 .u)).bind fun c7=>
 aq c7 0 fun n8=>
 aq c7 1 fun n9=>
 aq c7 2 fun eO=>
 aq c7 3 fun fy=>
 (AV.aZ (c7.getD 4 .u)).bind fun vY=>
 aq c6 1 fun fc=>
 let mQ:=r5.2.put h.next (.cells true 39 [(.i .i64 0),(.i .i64 0),(.i .i64 0),(.i .i64 0),(.b false)])
 (mQ.st (.n h.next) 0 [(.i .i64 n8),(.i .i64 n9),(.i .i64 eO),(.i .i64 fy),(.b vY)]).bind fun tF=>
 (bif ((fc:Int) != 0) then
 some ((.i .i64 fc),tF)
 else aj tF (.n h.next) 0 fun fe=>
 aj tF (.n h.next) 1 fun fu=>
 (Pm [(.agg [(.i .i64 fe),(.i .i64 fu)]),(.i .i64 n2)] tF).bind fun gA=>
 (AV.ay 2 gA.1).bind fun xL=>
 aq xL 0 fun iA=>
 aq xL 1 fun fj=>
 (bif ((fj:Int) != 0) then
 some ((.i .i64 fj),gA.2)
 else (nu [(.i .u64 n3)] gA.2).bind fun kZ=>
 (AV.aX .i64 kZ.1).bind fun oZ=>
 (bif ((oZ:Int) == 3) then
 some ((.i .i64 5),kZ.2)
 else (BU [(.p p0),(.i .u64 n1),(.i .i64 iA),(.i .u64 n3)] kZ.2).bind fun lC=>
 (AV.aX .i64 lC.1).bind fun qK=>
 some ((.i .i64 qK),lC.2))))
 else none
def R8:Sm O:=qsg Yc qsc BE NL
theorem qsi:ag Tryz.prog 120:=Tryz.call120
theorem qsj (O1 Pm nu BU:Sm O):run (O:=O) Tryz.prog [(13,O1),(160,Pm),(53,nu),(97,BU)] Tryz.f120 (.n .z (.n .z (.n (.n .z (.n .z .z)) (.n .z (.n (.n (.n .z (.n .z (.n .z (.n .z .z)))) .z) .z)))))=qsg O1 Pm nu BU:=by kernel_rfl
theorem qsk:ai RO Tryz.prog 120 R8:=bJ (qsj _ _ _ _) (ae ql0 ql2 <| ae qsd qsf <| ae T9 Ua <| ae qma qmc <| aE) Tryz.func120 (by kernel_rfl)
def Za (O2:Sm O):Sm O:=fun xs h=>
 bif Nat.beq xs.length 4 then
 (AV.asAgg 5 (xs.getD 0 .u)).bind fun c0=>
 aq c0 0 fun n1=>
 aq c0 1 fun n2=>
 aq c0 2 fun n3=>
 aq c0 3 fun n4=>
 dx c0 4 fun l5=>
 aq xs 1 fun n6=>
 aq xs 2 fun n7=>
 cV xs 3 fun n8=>
 let h9:=h.az 2
 let ij:=h9.put h.next (.cells true 105 [(.i .i64 n1),(.i .i64 n2),(.i .i64 n3),(.i .i64 n4),(.sl l5.1 l5.2)])
 let iq:=ij.put (h.next+1) (.cells true 105 [(.i .i64 0),(.i .i64 0),(.i .i64 0),(.i .i64 0),(.sl .nil 0)])
 let mS:=iq.az 1
 aV mS (.n h.next) 4 fun qJ=>
 (bif ((decide ((0:Int)<=n6)) && (decide (n6<(qJ.2:Int)))) then
 (SA.ref qJ.1).bind fun lh=>
 aj mS lh.1 (lh.2+(n6.toNat*8)) fun fe=>
 aj mS lh.1 ((lh.2+(n6.toNat*8))+1) fun fu=>
 aj mS lh.1 (((lh.2+(n6.toNat*8))+1)+1) fun lM=>
 aj mS lh.1 ((((lh.2+(n6.toNat*8))+1)+1)+1) fun fj=>
 (mS.ld lh.1 (((((lh.2+(n6.toNat*8))+1)+1)+1)+1)).bind fun w24=>
 (AV.aZ w24).bind fun ZZ=>
 aV mS lh.1 ((((((lh.2+(n6.toNat*8))+1)+1)+1)+1)+1) fun Re=>
 aV mS lh.1 (((((((lh.2+(n6.toNat*8))+1)+1)+1)+1)+1)+1) fun HK=>
 gO mS lh.1 ((((((((lh.2+(n6.toNat*8))+1)+1)+1)+1)+1)+1)+1) fun we=>
 let BV:=mS.put iq.next (.cells true 42 [(.i .i64 0),(.i .i64 0),(.i .i64 0),(.i .i64 0),(.b false),(.sl .nil 0),(.sl .nil 0),(.i .u64 0)])
 (BV.st (.n iq.next) 0 [(.i .i64 fe),(.i .i64 fu),(.i .i64 lM),(.i .i64 fj),(.b ZZ),(.sl Re.1 Re.2),(.sl HK.1 HK.2),(.i .u64 we)]).bind fun sU=>
 ((bif ((decide (n7<0)) == false) then
 aV sU (.n iq.next) 5 fun VU=>
 some ([(.b (decide (n7>=(VU.2:Int))))],sU)
 else some ([(.b true)],sU)):Option (List AV × AH O)).bind fun r36=>
 (AV.aZ (r36.1.getD 0 .u)).bind fun b37=>
 (bif b37 then
 aj r36.2 (.n h.next) 0 fun v9=>
 aj r36.2 (.n h.next) 1 fun DC=>
 aj r36.2 (.n h.next) 2 fun xM=>
 aj r36.2 (.n h.next) 3 fun vr=>
 aV r36.2 (.n h.next) 4 fun Rf=>
 (r36.2.st (.n (h.next+1)) 0 [(.i .i64 v9),(.i .i64 DC),(.i .i64 xM),(.i .i64 vr),(.sl Rf.1 Rf.2)]).bind fun Dw=>
 aj Dw (.n (h.next+1)) 0 fun za=>
 aj Dw (.n (h.next+1)) 1 fun xB=>
 aj Dw (.n (h.next+1)) 2 fun BS=>
 aj Dw (.n (h.next+1)) 3 fun DD=>
 aV Dw (.n (h.next+1)) 4 fun LB=>
 some ((.aB [(.agg [(.i .i64 za),(.i .i64 xB),(.i .i64 BS),(.i .i64 DD),(.sl LB.1 LB.2)]),(.i .i64 32)]),Dw)
 else let h59:=r36.2.az 2
 let LC:=h59.put r36.2.next (.cells true 33 [])
 aV LC (.n iq.next) 5 fun xQ=>
 (LC.bT xQ.1 xQ.2 1).bind fun Bm=>
 (bif (Nat.ble ((0+xQ.2)*9) 35184372088832) then
 (LC.cF (r36.2.next+1) 33 1 (.loc (.n r36.2.next) 0 1) 0 xQ.2 Bm).bind fun vh=>
 (AV.dF vh.1).bind fun O3=>
 (vh.2.st (.n iq.next) 5 [(.sl O3.1 O3.2)]).bind fun Mr=>
 aV Mr (.n iq.next) 5 fun xJ=>
 (bif ((decide ((0:Int)<=n7)) && (decide (n7<(xJ.2:Int)))) then
 (SA.ref xJ.1).bind fun Mp=>
 (Mr.st Mp.1 (Mp.2+(n7.toNat*1)) [(.i .u64 n8)]).bind fun lN=>
 aj lN (.n h.next) 0 fun QU=>
 aj lN (.n h.next) 1 fun GX=>
 aj lN (.n h.next) 2 fun Bf=>
 aj lN (.n h.next) 3 fun Ls=>
 aV lN (.n h.next) 4 fun zu=>
 aj lN (.n iq.next) 0 fun TQ=>
 aj lN (.n iq.next) 1 fun Fe=>
 aj lN (.n iq.next) 2 fun TR=>
 aj lN (.n iq.next) 3 fun EY=>
 (lN.ld (.n iq.next) 4).bind fun w89=>
 (AV.aZ w89).bind fun b90=>
 aV lN (.n iq.next) 5 fun Rg=>
 aV lN (.n iq.next) 6 fun Rh=>
 gO lN (.n iq.next) 7 fun zJ=>
 (O2 [(.agg [(.i .i64 QU),(.i .i64 GX),(.i .i64 Bf),(.i .i64 Ls),(.sl zu.1 zu.2)]),(.i .i64 n6),(.agg [(.i .i64 TQ),(.i .i64 Fe),(.i .i64 TR),(.i .i64 EY),(.b b90),(.sl Rg.1 Rg.2),(.sl Rh.1 Rh.2),(.i .u64 zJ)])] lN).bind fun O4=>
 (AV.asAgg 5 O4.1).bind fun LD=>
 aq LD 0 fun n99=>
 aq LD 1 fun DE=>
 aq LD 2 fun zn=>
 aq LD 3 fun Bn=>
 dx LD 4 fun Bo=>
 (O4.2.st (.n (h.next+1)) 0 [(.i .i64 n99),(.i .i64 DE),(.i .i64 zn),(.i .i64 Bn),(.sl Bo.1 Bo.2)]).bind fun rX=>
 aj rX (.n (h.next+1)) 0 fun jA=>
 aj rX (.n (h.next+1)) 1 fun G8=>
 aj rX (.n (h.next+1)) 2 fun Lb=>
 aj rX (.n (h.next+1)) 3 fun Dp=>
 aV rX (.n (h.next+1)) 4 fun LF=>
 some ((.aB [(.agg [(.i .i64 jA),(.i .i64 G8),(.i .i64 Lb),(.i .i64 Dp),(.sl LF.1 LF.2)]),(.i .i64 0)]),rX)
 else none)
 else none))
 else none)
 else none
def UO:Sm O:=vk (Za KQ)
theorem qsn:ag Tryz.prog 121:=Tryz.call121
theorem qso (O2:Sm O):run (O:=O) Tryz.prog [(98,O2)] Tryz.f121 (.n .z (.n .z (.n (.n (.g [(2,5,[(24,.one .b)])]) (.n .z .z)) (.n .z (.n .z .z)))))=Za O2:=by kernel_rfl
theorem qsp:ai RO Tryz.prog 121 (UO):=
   have h:ai RO Tryz.prog 121 (Za KQ):=(qso KQ)▸eH (ae qmk (qmm) <| aE) mixed Tryz.func121 (by kernel_rfl) _
   h.vk
def UP (h:AH O) (jw:SA × Nat):List AV × AH O->Option ((List AV × AH O) ⊕ (List AV × AH O)):=(fun LG=>
 (AV.dF (LG.1.getD 0 .u)).bind fun Mx=>
 (AV.aX .i64 (LG.1.getD 1 .u)).bind fun Ls=>
 aV LG.2 (.n h.next) 2 fun zu=>
 ((bif ((decide (Ls<(zu.2:Int))) == true) then
 some ([(.b (decide ((jw.2:Int) > 0)))],LG.2)
 else some ([(.b false)],LG.2)):Option (List AV × AH O)).bind fun VZ=>
 (AV.aZ (VZ.1.getD 0 .u)).bind fun b82=>
 (bif b82 then
 let h83:=VZ.2.az 2
 aV h83 (.n h.next) 2 fun l85=>
 (bif ((decide ((0:Int)<=Ls)) && (decide (Ls<(l85.2:Int)))) then
 (SA.ref l85.1).bind fun Q9=>
 (h83.ld Q9.1 (Q9.2+(Ls.toNat*1))).bind fun w87=>
 (AV.aX .u8 w87).bind fun EY=>
 (bif ((jw.2:Int) == 0) then
 none
 else let Rn:=h83.put VZ.2.next (.cells true 3 [(.i .i64 (Int.tmod (IntKind.i64.wrap EY) (jw.2:Int)))])
 (Rn.bT (.loc (.n VZ.2.next) 0 1) 1 1).bind fun aa4=>
 (bif (Nat.ble ((Mx.2+1)*9) 35184372088832) then
 (Rn.cF (VZ.2.next+1) 3 1 Mx.1 Mx.2 1 aa4).bind fun r91=>
 (AV.dF r91.1).bind fun Rg=>
 some (Sum.inl ([(.sl Rg.1 Rg.2),(.i .i64 (IntKind.i64.wrap (Ls+1)))],r91.2))
 else none))
 else none)
 else some (Sum.inr ([(.sl Mx.1 Mx.2)],VZ.2))))
def R6 (h:AH O) (jw:SA × Nat) (Hb:Sm O) (tI:Option (fH × Nat)) (r8:AV × AH O) (Hc:Sm O):List AV × AH O->Option ((List AV × AH O) ⊕ ((List AV × AH O) ⊕ (AV × AH O))):=(fun iO=>
 (AV.aX .i64 (iO.1.getD 0 .u)).bind fun fe=>
 aV iO.2 (.n h.next) 1 fun l19=>
 ((bif ((decide (fe<(l19.2:Int))) == true) then
 some ([(.b (decide ((jw.2:Int) > 0)))],iO.2)
 else some ([(.b false)],iO.2)):Option (List AV × AH O)).bind fun gA=>
 (AV.aZ (gA.1.getD 0 .u)).bind fun Ox=>
 (bif Ox then
 cv (S:=List AV × AH O) (R:=((List AV × AH O) ⊕ ((List AV × AH O) ⊕ (AV × AH O)))) ((gA.2.ld (.n h.next) 1).bind fun w22=>
 (AV.dF w22).bind fun BM=>
 (bif ((decide ((0:Int)<=fe)) && (decide (fe<(BM.2:Int)))) then
 (SA.ref BM.1).bind fun HL=>
 (gA.2.ld HL.1 (HL.2+(fe.toNat*3))).bind fun w25=>
 (AV.aX .u8 w25).bind fun eN=>
 (bif ((jw.2:Int) == 0) then
 none
 else aV gA.2 (.n h.next) 1 fun BJ=>
 (bif ((decide ((0:Int)<=fe)) && (decide (fe<(BJ.2:Int)))) then
 (SA.ref BJ.1).bind fun Mm=>
 (gA.2.ld Mm.1 ((Mm.2+(fe.toNat*3))+2)).bind fun w30=>
 (AV.aX .u8 w30).bind fun we=>
 (bif ((jw.2:Int) == 0) then
 none
 else aV gA.2 (.n h.next) 1 fun Be=>
 (bif ((decide ((0:Int)<=fe)) && (decide (fe<(Be.2:Int)))) then
 (SA.ref Be.1).bind fun oX=>
 (gA.2.ld oX.1 ((oX.2+(fe.toNat*3))+1)).bind fun w35=>
 (AV.aX .u8 w35).bind fun rU=>
 (bif ((decide ((0:Int)<=(Int.tmod (IntKind.i64.wrap eN) (jw.2:Int)))) && (decide ((Int.tmod (IntKind.i64.wrap eN) (jw.2:Int))<(jw.2:Int)))) then
 (SA.ref jw.1).bind fun Fj=>
 aV gA.2 Fj.1 ((Fj.2+((Int.tmod (IntKind.i64.wrap eN) (jw.2:Int)).toNat*8))+5) fun l39=>
 (bif (((l39.2:Int):Int) == 0) then
 some (Sum.inl ([],gA.2))
 else (bif ((decide ((0:Int)<=(Int.tmod (IntKind.i64.wrap eN) (jw.2:Int)))) && (decide ((Int.tmod (IntKind.i64.wrap eN) (jw.2:Int))<(jw.2:Int)))) then
 (SA.ref jw.1).bind fun q40=>
 aV gA.2 q40.1 ((q40.2+((Int.tmod (IntKind.i64.wrap eN) (jw.2:Int)).toNat*8))+5) fun V0=>
 (bif ((V0.2:Int) == 0) then
 none
 else (bif ((decide ((0:Int)<=(Int.tmod (IntKind.i64.wrap eN) (jw.2:Int)))) && (decide ((Int.tmod (IntKind.i64.wrap eN) (jw.2:Int))<(jw.2:Int)))) then
 (SA.ref jw.1).bind fun q43=>
 gO gA.2 q43.1 ((q43.2+((Int.tmod (IntKind.i64.wrap eN) (jw.2:Int)).toNat*8))+7) fun vr=>
 (bif ((decide ((0:Int)<=(Int.tmod (IntKind.i64.wrap we) (jw.2:Int)))) && (decide ((Int.tmod (IntKind.i64.wrap we) (jw.2:Int))<(jw.2:Int)))) then
 (SA.ref jw.1).bind fun q46=>
 gO gA.2 q46.1 ((q46.2+((Int.tmod (IntKind.i64.wrap we) (jw.2:Int)).toNat*8))+7) fun Dy=>
 (Hb [(.p tI),(.i .u64 vr),(.i .i64 (Int.tmod (IntKind.i64.wrap rU) (V0.2:Int))),(.i .u64 Dy)] gA.2).bind fun sT=>
 (AV.aX .i64 sT.1).bind fun za=>
 (bif ((za:Int) != 0) then
 ((((some ((.aB [(.p none),(.sl .nil 0),(.sl .nil 0),(.b false)]),sT.2):Option (AV × AH O)).map fun r=>Sum.inr (Sum.inr r)):Option ((List AV × AH O) ⊕ ((List AV × AH O) ⊕ (AV × AH O)))).map Sum.inr)
 else aj sT.2 (.n r8.2.next) 0 fun xB=>
 aj sT.2 (.n r8.2.next) 1 fun BS=>
 aj sT.2 (.n r8.2.next) 2 fun DD=>
 aj sT.2 (.n r8.2.next) 3 fun HM=>
 aV sT.2 (.n r8.2.next) 4 fun l60=>
 (bif ((decide ((0:Int)<=(Int.tmod (IntKind.i64.wrap we) (jw.2:Int)))) && (decide ((Int.tmod (IntKind.i64.wrap we) (jw.2:Int))<(jw.2:Int)))) then
 (SA.ref jw.1).bind fun q61=>
 gO sT.2 q61.1 ((q61.2+((Int.tmod (IntKind.i64.wrap we) (jw.2:Int)).toNat*8))+7) fun Q5=>
 (Hc [(.agg [(.i .i64 xB),(.i .i64 BS),(.i .i64 DD),(.i .i64 HM),(.sl l60.1 l60.2)]),(.i .i64 (Int.tmod (IntKind.i64.wrap eN) (jw.2:Int))),(.i .i64 (Int.tmod (IntKind.i64.wrap rU) (V0.2:Int))),(.i .u64 Q5)] sT.2).bind fun vh=>
 (AV.ay 2 vh.1).bind fun c65=>
 (AV.asAgg 5 (c65.getD 0 .u)).bind fun VX=>
 aq VX 0 fun HO=>
 aq VX 1 fun Kv=>
 aq VX 2 fun Gy=>
 aq VX 3 fun VO=>
 dx VX 4 fun l71=>
 aq c65 1 fun QU=>
 (vh.2.st (.n r8.2.next) 0 [(.i .i64 HO),(.i .i64 Kv),(.i .i64 Gy),(.i .i64 VO),(.sl l71.1 l71.2)]).bind fun h73=>
 some (Sum.inl ([],h73))
 else none))
 else none)
 else none))
 else none))
 else none)
 else none))
 else none))
 else none)) fun Q4=>
 some (Sum.inl ([(.i .i64 (IntKind.i64.wrap (fe+1)))],Q4.2))
 else some (Sum.inr (Sum.inl ([],gA.2)))))
def qss (k9 Hb Hc:Sm O):Sm O:=fun xs h=>
 bif Nat.beq xs.length 1 then
 (AV.asAgg 3 (xs.getD 0 .u)).bind fun c0=>
 dx c0 0 fun l1=>
 dx c0 1 fun l2=>
 dx c0 2 fun l3=>
 let h4:=h.az 1
 let h5:=h4.put h.next (.cells true 78 [(.sl l1.1 l1.2),(.sl l2.1 l2.2),(.sl l3.1 l3.2)])
 aV h5 (.n h.next) 0 fun l7=>
 (k9 [(.sl l7.1 l7.2)] h5).bind fun r8=>
 (AV.ay 3 r8.1).bind fun c9=>
 (AV.bD (c9.getD 0 .u)).bind fun tI=>
 dx c9 1 fun jw=>
 (AV.aZ (c9.getD 2 .u)).bind fun vY=>
 (bif (!vY) then
 some ((.aB [(.p none),(.sl .nil 0),(.sl .nil 0),(.b false)]),r8.2)
 else let jy:=r8.2.az 1
 let mQ:=jy.put r8.2.next (.cells true 105 [(.i .i64 0),(.i .i64 0),(.i .i64 0),(.i .i64 0),(.sl .nil 0)])
 (mQ.st (.n r8.2.next) 0 [(.i .i64 8),(.i .i64 0),(.i .i64 0),(.i .i64 0),(.sl jw.1 jw.2)]).bind fun tF=>
 cv (S:=List AV × AH O) (R:=(AV × AH O)) (bC (S:=List AV × AH O) (T:=(List AV × AH O) ⊕ (AV × AH O)) (R6 h jw Hb tI r8 Hc) ([(.i .i64 0)],tF)) fun r75=>
 (bC (S:=List AV × AH O) (T:=List AV × AH O) (UP h jw) ([(.sl .nil 0),(.i .i64 0)],r75.2)).bind fun Q6=>
 (AV.dF (Q6.1.getD 0 .u)).bind fun Rh=>
 aV Q6.2 (.n r8.2.next) 4 fun Tc=>
 some ((.aB [(.p tI),(.sl Tc.1 Tc.2),(.sl Rh.1 Rh.2),(.b true)]),Q6.2))
 else none
def qst:Sm O:=qss Xb R8 UO
theorem qsu:ag Tryz.prog 69:=Tryz.call69
theorem qsv (k9 Hb Hc:Sm O):run (O:=O) Tryz.prog [(9,k9),(120,Hb),(121,Hc)] Tryz.f69 (.n .z (.n .z (.n (.n .z (.n .z .z)) (.n .z (.n .z (.n (.n .z (.n (.lp true 0 [(11,.one (.i .i64))] [] (.n (.n (.g [(5,2,[(38,.one .b)])]) .z) (.n (.j true [] (.n (.d [] [0,1,2,3,4,5,6,7,8,9,10,11,12,13,14,15,16,17,18,19] [0,1,0,7,15,31,63,0,255,0,512,0,3584,7680,15872,32256,0,130560,511,524287]) (.n .z (.n (.n .z .z) (.n .z (.n (.n (.d [] [0,1,2,3,4,5,6,7,8,9,10,11,12,13] [0,0,0,6,14,30,0,0,0,384,896,1920,4095,8191]) (.n .z .z)) (.d [] [0,1,2,3,4,5,6,7,8,9,10,11,12] [0,0,0,0,0,24,56,120,255,511,1023,1023,2047])))))) .z) .z))) .z)) (.n .z (.n (.n .z (.n (.lp false 2 [(15,.one .sl),(16,.one (.i .i64))] [(15,.one .sl)] (.n (.n (.g [(5,2,[(115,.one .b)])]) .z) (.n .z .z))) .z)) (.n (.d [] [0,1,2,3,4,5,6,7] [0,0,2,0,1,23,63,127]) .z)))))))))=qss k9 Hb Hc:=by kernel_rfl
theorem qsw:ai RO Tryz.prog 69 qst:=bJ (qsv _ _ _) (ae qmw qmy <| ae qsi qsk <| ae qsn qsp <| aE) Tryz.func69 (by kernel_rfl)
def Zl (k20:Sm O):Sm O:=fun xs h=>
 bif Nat.beq xs.length 1 then
 dx xs 0 fun l0=>
 let h1:=h.az 1
 let h2:=h1.put h.next (.cells true 81 [(.sl .nil 0),(.sl .nil 0),(.i .i64 0),(.sl .nil 0),(.i .i64 0),(.sl .nil 0),(.sl .nil 0)])
 (k20 [(.sl l0.1 l0.2)] h2).bind fun r3=>
 (AV.asAgg 5 r3.1).bind fun c4=>
 dx c4 0 fun l5=>
 dx c4 1 fun l6=>
 aq c4 2 fun n7=>
 dx c4 3 fun l8=>
 aq c4 4 fun n9=>
 (r3.2.st (.n h.next) 0 [(.sl l5.1 l5.2),(.sl l6.1 l6.2),(.i .i64 n7),(.sl l8.1 l8.2),(.i .i64 n9),(.sl l0.1 l0.2),(.sl .nil 0)]).bind fun ij=>
 aV ij (.n h.next) 0 fun yZ=>
 aV ij (.n h.next) 1 fun qJ=>
 aj ij (.n h.next) 2 fun iQ=>
 aV ij (.n h.next) 3 fun l18=>
 aj ij (.n h.next) 4 fun jU=>
 aV ij (.n h.next) 5 fun K3=>
 aV ij (.n h.next) 6 fun K5=>
 some ((.agg [(.sl yZ.1 yZ.2),(.sl qJ.1 qJ.2),(.i .i64 iQ),(.sl l18.1 l18.2),(.i .i64 jU),(.sl K3.1 K3.2),(.sl K5.1 K5.2)]),ij)
 else none
def qsy:Sm O:=vk (Zl Vx)
theorem qsz:ag Tryz.prog 70:=Tryz.call70
theorem qs0 (k20:Sm O):run (O:=O) Tryz.prog [(20,k20)] Tryz.f70 (.n .z .z)=Zl k20:=by kernel_rfl
theorem qs1:ai RO Tryz.prog 70 (qsy):=
   have h:ai RO Tryz.prog 70 (Zl Vx):=(qs0 Vx)▸eH (ae qac (qae) <| aE) mixed Tryz.func70 (by kernel_rfl) _
   h.vk
def qs2:Sm O:=fun xs h=>
 bif Nat.beq xs.length 1 then
 (AV.bD (xs.getD 0 .u)).bind fun p0=>
 let h1:=h.az 1
 let h2:=h1.put h.next (.cells true 205 [(.p p0),(.i .i64 0),(.i .i64 0)])
 some ((.p (some ((.n h.next),0))),h2)
 else none
def qs3:Sm O:=qs2
theorem qs4:ag Tryz.prog 71:=Tryz.call71
theorem qs5:run (O:=O) Tryz.prog [] Tryz.f71 (.n .z .z)=qs2:=by kernel_rfl
theorem qs6:ai RO Tryz.prog 71 qs3:=bJ qs5 (aE) Tryz.func71 (by kernel_rfl)
def U7 (gC lv:Sm O):Sm O:=fun xs h=>
 bif Nat.beq xs.length 1 then
 (AV.bD (xs.getD 0 .u)).bind fun p0=>
 Option.bind p0 fun q1=>
 aj h q1.1 (q1.2+2) fun n3=>
 Option.bind p0 fun q4=>
 aj h q4.1 (q4.2+9) fun n6=>
 ((bif ((n6:Int) != 0) then
 Option.bind p0 fun q7=>
 aj h q7.1 (q7.2+9) fun n9=>
 (gC [(.p p0)] h).bind fun du=>
 (AV.asAgg 5 du.1).bind fun rW=>
 (AV.bD (rW.getD 0 .u)).bind fun BL=>
 aq rW 1 fun fc=>
 aq rW 2 fun iX=>
 aq rW 3 fun fR=>
 aq rW 4 fun iQ=>
 (aT (du.2.ld q7.1 (q7.2+9)) (some (.i .i64 n9))).bind fun _=>
 (lv [(.agg [(.p BL),(.i .i64 fc),(.i .i64 iX),(.i .i64 fR),(.i .i64 iQ)]),(.i .i64 n9)] du.2).bind fun dZ=>
 (AV.ay 2 dZ.1).bind fun Rm=>
 aq Rm 0 fun fu=>
 aq Rm 1 fun jU=>
 some ([(.i .i64 fu)],dZ.2)
 else some ([(.i .i64 n3)],h)):Option (List AV × AH O)).bind fun tD=>
 (AV.aX .i64 (tD.1.getD 0 .u)).bind fun iA=>
 (bif ((iA:Int) == 0) then
 some ((.aB [(.i .i64 0),(.b false)]),tD.2)
 else Option.bind p0 fun EZ=>
 (tD.2.st EZ.1 (EZ.2+9) [(.i .i64 iA)]).bind fun GP=>
 some ((.aB [(.i .i64 iA),(.b true)]),GP))
 else none
def Qz:Sm O:=U7 NH Qr
theorem qs9:ag Tryz.prog 180:=Tryz.call180
theorem qta (gC lv:Sm O):run (O:=O) Tryz.prog [(100,gC),(125,lv)] Tryz.f180 (.n .z (.n .z (.n (.n .z (.j false [(4,.one (.i .i64))] (.d [] [0,2,3,4,5,1,6,7,8,9,10] [0,1,0,4,12,28,63,127,255,255,511]) .z)) (.n (.n .z (.n .z .z)) (.n .z .z)))))=U7 gC lv:=by kernel_rfl
theorem qtb:ai RO Tryz.prog 180 Qz:=bJ (qta _ _) (ae qho qhq <| ae qq3 qq5 <| aE) Tryz.func180 (by kernel_rfl)
def Yp (zN lO Fk xO qD Pn OP:Sm O):Sm O:=fun xs h=>
 bif Nat.beq xs.length 1 then
 (AV.bD (xs.getD 0 .u)).bind fun p0=>
 Option.bind p0 fun q1=>
 aj h q1.1 (q1.2+1) fun n3=>
 Option.bind p0 fun q4=>
 cD h q4.1 q4.2 fun p6=>
 (zN [(.p p6)] h).bind fun r7=>
 (AV.bD r7.1).bind fun p8=>
 (aT (r7.2.ld q1.1 (q1.2+1)) (some (.i .i64 n3))).bind fun _=>
 (lO [(.p p8)] r7.2).bind fun r9=>
 (AV.bD r9.1).bind fun tI=>
 (aT (r9.2.ld q1.1 (q1.2+1)) (some (.i .i64 n3))).bind fun _=>
 (Fk [(.p tI)] r9.2).bind fun eQ=>
 (AV.aX .i64 eQ.1).bind fun eD=>
 (aT (eQ.2.ld q1.1 (q1.2+1)) (some (.i .i64 n3))).bind fun _=>
 (bif (decide (n3<eD)) then
 Option.bind p0 fun mO=>
 aj eQ.2 mO.1 (mO.2+1) fun fR=>
 (xO [(.i .i64 fR)] eQ.2).bind fun iO=>
 (AV.ay 2 iO.1).bind fun Ro=>
 cV Ro 0 fun iB=>
 aq Ro 1 fun fu=>
 some ((.aB [(.i .u64 iB),(.b ((fu:Int) == 0))]),iO.2)
 else Option.bind p0 fun q20=>
 cD eQ.2 q20.1 q20.2 fun TP=>
 (zN [(.p TP)] eQ.2).bind fun vp=>
 (AV.bD vp.1).bind fun p24=>
 (qD [(.p p24)] vp.2).bind fun eJ=>
 (AV.bD eJ.1).bind fun p26=>
 (Pn [(.p p26)] eJ.2).bind fun jR=>
 (AV.ay 2 jR.1).bind fun HQ=>
 aq HQ 0 fun vq=>
 (AV.aZ (HQ.getD 1 .u)).bind fun b30=>
 (bif (!b30) then
 some ((.aB [(.i .u64 0),(.b false)]),jR.2)
 else (OP [(.i .i64 vq)] jR.2).bind fun r31=>
 (AV.ay 2 r31.1).bind fun c32=>
 cV c32 0 fun BR=>
 aq c32 1 fun tJ=>
 some ((.aB [(.i .u64 BR),(.b ((tJ:Int) == 0))]),r31.2)))
 else none
def Me:Sm O:=Yp Ku BC QE SE El Qz X9
theorem qte:ag Tryz.prog 161:=Tryz.call161
theorem qtf (zN lO Fk xO qD Pn OP:Sm O):run (O:=O) Tryz.prog [(44,zN),(23,lO),(24,Fk),(65,xO),(32,qD),(180,Pn),(91,OP)] Tryz.f161 (.n .z (.n (.n (.d [] [0,1,2,3,4,5,6,7,8,9,10,11] [0,1,3,7,0,16,48,112,240,496,1008,2047]) (.n (.n .z .z) .z)) (.n .z (.n (.n .z (.n .z .z)) (.n .z .z)))))=Yp zN lO Fk xO qD Pn OP:=by kernel_rfl
theorem qtg:ai RO Tryz.prog 161 Me:=bJ (qtf _ _ _ _ _ _ _) (ae qnb qnd <| ae TD TE <| ae qng qni <| ae qj6 qj8 <| ae VD VE <| ae qs9 qtb <| ae qjc qje <| aE) Tryz.func161 (by kernel_rfl)
def qth (n2:Int) (p0:Option (fH × Nat)) (zN:Sm O) (BT:Sm O) (n1:Int) (zM:Sm O) (BU:Sm O):List AV × AH O->Option ((List AV × AH O) ⊕ ((List AV × AH O) ⊕ (AV × AH O))):=(fun r3=>
 (AV.aX .i64 (r3.1.getD 0 .u)).bind fun n4=>
 (bif (decide (n4<n2)) then
 Option.bind p0 fun q5=>
 cD r3.2 q5.1 q5.2 fun p7=>
 (zN [(.p p7)] r3.2).bind fun r8=>
 (AV.bD r8.1).bind fun p9=>
 (BT [(.p p9),(.i .u64 n1),(.i .i64 (IntKind.i64.wrap (1+n4)))] r8.2).bind fun du=>
 (AV.ay 2 du.1).bind fun rW=>
 cV rW 0 fun eD=>
 aq rW 1 fun fc=>
 (bif ((fc:Int) != 0) then
 ((some ((.aB []),du.2):Option (AV × AH O)).map fun r=>Sum.inr (Sum.inr r))
 else ((bif ((eD:Int) != 0) then
 Option.bind p0 fun jx=>
 cD du.2 jx.1 jx.2 fun vd=>
 Option.bind p0 fun sD=>
 cD du.2 sD.1 sD.2 fun p19=>
 (zN [(.p vd)] du.2).bind fun gA=>
 (AV.bD gA.1).bind fun VL=>
 (aT (gA.2.ld sD.1 sD.2) (some (.p p19))).bind fun _=>
 (zM [(.p p19),(.i .u64 eD)] gA.2).bind fun fU=>
 (AV.aX .u64 fU.1).bind fun fj=>
 (BU [(.p VL),(.i .u64 n1),(.i .i64 (IntKind.i64.wrap (1+n4))),(.i .u64 fj)] fU.2).bind fun kZ=>
 (AV.aX .i64 kZ.1).bind fun oZ=>
 some ([],kZ.2)
 else some ([],du.2)):Option (List AV × AH O)).bind fun lC=>
 some (Sum.inl ([(.i .i64 (IntKind.i64.wrap (n4+1)))],lC.2)))
 else some (Sum.inr (Sum.inl ([],r3.2)))))
def qti (zN BT zM BU:Sm O):Sm O:=fun xs h=>
 bif Nat.beq xs.length 3 then
 (AV.bD (xs.getD 0 .u)).bind fun p0=>
 cV xs 1 fun n1=>
 aq xs 2 fun n2=>
 cv (S:=List AV × AH O) (R:=(AV × AH O)) (bC (S:=List AV × AH O) (T:=(List AV × AH O) ⊕ (AV × AH O)) (qth n2 p0 zN BT n1 zM BU) ([(.i .i64 0)],h)) fun jR=>
 some ((.aB []),jR.2)
 else none
def Vi:Sm O:=qti Ku Nj zG NL
theorem qtk:ag Tryz.prog 162:=Tryz.call162
theorem qtl (zN BT zM BU:Sm O):run (O:=O) Tryz.prog [(44,zN),(56,BT),(12,zM),(97,BU)] Tryz.f162 (.n .z (.n (.lp true 0 [(10,.one (.i .i64))] [] (.n .z (.n .z (.n (.n (.n .z (.n .z (.n (.n .z .z) (.n .z (.j false [] (.d [] [0,1,2,3,5,6,7,8,9,10,11,12,4,13,14] [0,1,3,7,15,0,0,64,0,256,768,1792,0,7967,16383]) .z))))) .z) .z)))) .z))=qti zN BT zM BU:=by kernel_rfl
theorem qtm:ai RO Tryz.prog 162 Vi:=bJ (qtl _ _ _ _) (ae qnb qnd <| ae qlk qlm <| ae qqj qql <| ae qma qmc <| aE) Tryz.func162 (by kernel_rfl)
def qtn (Po zN BT sW nu xK Pp:Sm O):Sm O:=fun xs h=>
 bif Nat.beq xs.length 1 then
 (AV.bD (xs.getD 0 .u)).bind fun p0=>
 (Po [(.p p0)] h).bind fun r1=>
 (AV.ay 2 r1.1).bind fun c2=>
 cV c2 0 fun n3=>
 (AV.aZ (c2.getD 1 .u)).bind fun b4=>
 (bif (!b4) then
 some ((.b false),r1.2)
 else Option.bind p0 fun q5=>
 cD r1.2 q5.1 q5.2 fun p7=>
 (zN [(.p p7)] r1.2).bind fun r8=>
 (AV.bD r8.1).bind fun p9=>
 (BT [(.p p9),(.i .u64 n3),(.i .i64 0)] r8.2).bind fun du=>
 (AV.ay 2 du.1).bind fun rW=>
 cV rW 0 fun eD=>
 aq rW 1 fun fc=>
 let mQ:=du.2.az 1
 (sW [(.i .u64 eD)] mQ).bind fun fN=>
 (AV.ay 2 fN.1).bind fun sG=>
 (AV.asAgg 5 (sG.getD 0 .u)).bind fun Ro=>
 aq Ro 0 fun iB=>
 aq Ro 1 fun fu=>
 aq Ro 2 fun jU=>
 aq Ro 3 fun lM=>
 (AV.aZ (Ro.getD 4 .u)).bind fun b22=>
 aq sG 1 fun fj=>
 let GP:=fN.2.put du.2.next (.cells true 39 [(.i .i64 0),(.i .i64 0),(.i .i64 0),(.i .i64 0),(.b false)])
 (GP.st (.n du.2.next) 0 [(.i .i64 iB),(.i .i64 fu),(.i .i64 jU),(.i .i64 lM),(.b b22)]).bind fun Dx=>
 (bif ((fj:Int) != 0) then
 some ((.b false),Dx)
 else (nu [(.i .u64 n3)] Dx).bind fun lC=>
 (AV.aX .i64 lC.1).bind fun qK=>
 ((bif ((qK:Int) == 1) then
 Option.bind p0 fun Uc=>
 aj lC.2 Uc.1 (Uc.2+1) fun nY=>
 aj lC.2 (.n du.2.next) 0 fun pr=>
 aj lC.2 (.n du.2.next) 1 fun tJ=>
 aj lC.2 (.n du.2.next) 2 fun rU=>
 aj lC.2 (.n du.2.next) 3 fun K8=>
 (lC.2.ld (.n du.2.next) 4).bind fun w39=>
 (AV.aZ w39).bind fun b40=>
 (xK [(.agg [(.i .i64 pr),(.i .i64 tJ),(.i .i64 rU),(.i .i64 K8),(.b b40)])] lC.2).bind fun V3=>
 (AV.aX .i64 V3.1).bind fun EX=>
 (aT (V3.2.ld Uc.1 (Uc.2+1)) (some (.i .i64 nY))).bind fun _=>
 Option.bind p0 fun q43=>
 (V3.2.st q43.1 (q43.2+1) [(.i .i64 (IntKind.i64.wrap (nY+EX)))]).bind fun My=>
 some ([],My)
 else some ([],lC.2)):Option (List AV × AH O)).bind fun LJ=>
 aj LJ.2 (.n du.2.next) 0 fun Lr=>
 (Pp [(.p p0),(.i .u64 n3),(.i .i64 Lr)] LJ.2).bind fun QH=>
 (AV.ay 0 QH.1).bind fun c49=>
 Option.bind p0 fun q50=>
 aj QH.2 q50.1 (q50.2+2) fun xB=>
 Option.bind p0 fun Mo=>
 (QH.2.st Mo.1 (Mo.2+2) [(.i .i64 (IntKind.i64.wrap (xB+1)))]).bind fun HC=>
 some ((.b true),HC)))
 else none
def QG:Sm O:=qtn Me Ku Nj Mb BE SF Vi
theorem qtp:ag Tryz.prog 122:=Tryz.call122
theorem qtq (Po zN BT sW nu xK Pp:Sm O):run (O:=O) Tryz.prog [(161,Po),(44,zN),(56,BT),(57,sW),(53,nu),(89,xK),(162,Pp)] Tryz.f122 (.n .z (.n .z (.n (.n .z (.n .z .z)) (.n .z (.n .z (.n (.n .z (.n .z .z)) (.n (.n .z (.j false [] (.d [] [0,1,2,3,4,5,6,7,8,9] [0,1,3,7,0,16,63,127,255,511]) .z)) (.n .z (.n .z .z)))))))))=qtn Po zN BT sW nu xK Pp:=by kernel_rfl
theorem qtr:ai RO Tryz.prog 122 QG:=bJ (qtq _ _ _ _ _ _ _) (ae qte qtg <| ae qnb qnd <| ae qlk qlm <| ae qlv qlx <| ae T9 Ua <| ae qc5 qc7 <| ae qtk qtm <| aE) Tryz.func122 (by kernel_rfl)
def qts (He:Sm O) (p0:Option (fH × Nat)):List AV × AH O->Option ((List AV × AH O) ⊕ (List AV × AH O)):=(fun r4=>
 (He [(.p p0)] r4.2).bind fun r5=>
 (AV.aZ r5.1).bind fun b6=>
 (bif b6 then
 some (Sum.inl ([],r5.2))
 else some (Sum.inr ([],r5.2))))
def qtt (He:Sm O):Sm O:=fun xs h=>
 bif Nat.beq xs.length 1 then
 (AV.bD (xs.getD 0 .u)).bind fun p0=>
 Option.bind p0 fun q1=>
 aj h q1.1 (q1.2+2) fun n3=>
 (bC (S:=List AV × AH O) (T:=List AV × AH O) (qts He p0) ([],h)).bind fun r7=>
 Option.bind p0 fun q8=>
 aj r7.2 q8.1 (q8.2+2) fun eO=>
 some ((.i .i64 (IntKind.i64.wrap (eO - n3))),r7.2)
 else none
def qtu:Sm O:=qtt QG
theorem qtv:ag Tryz.prog 72:=Tryz.call72
theorem qtw (He:Sm O):run (O:=O) Tryz.prog [(122,He)] Tryz.f72 (.n .z (.n .z (.n (.n (.lp false 0 [] [] (.n (.n .z .z) .z)) .z) .z)))=qtt He:=by kernel_rfl
theorem qtx:ai RO Tryz.prog 72 qtu:=bJ (qtw _) (ae qtp qtr <| aE) Tryz.func72 (by kernel_rfl)
def Zd (l0:SA × Nat) (n1:Int):List AV × AH O->Option ((List AV × AH O) ⊕ ((List AV × AH O) ⊕ (AV × AH O))):=(fun r2=>
 (AV.aX .i64 (r2.1.getD 0 .u)).bind fun n3=>
 (bif (decide (n3<(l0.2:Int))) then
 (bif ((decide ((0:Int)<=n3)) && (decide (n3<(l0.2:Int)))) then
 (SA.ref l0.1).bind fun q4=>
 aj r2.2 q4.1 (q4.2+(n3.toNat*1)) fun n6=>
 (bif ((n6:Int) == n1) then
 ((some ((.b true),r2.2):Option (AV × AH O)).map fun r=>Sum.inr (Sum.inr r))
 else some (Sum.inl ([(.i .i64 (IntKind.i64.wrap (n3+1)))],r2.2)))
 else none)
 else some (Sum.inr (Sum.inl ([],r2.2)))))
def qtz:Sm O:=fun xs h=>
 bif Nat.beq xs.length 2 then
 dx xs 0 fun l0=>
 aq xs 1 fun n1=>
 cv (S:=List AV × AH O) (R:=(AV × AH O)) (bC (S:=List AV × AH O) (T:=(List AV × AH O) ⊕ (AV × AH O)) (Zd l0 n1) ([(.i .i64 0)],h)) fun r7=>
 some ((.b false),r7.2)
 else none
def KT:Sm O:=qtz
theorem qt1:ag Tryz.prog 181:=Tryz.call181
theorem qt2:run (O:=O) Tryz.prog [] Tryz.f181 (.n .z (.n (.n .z (.n (.lp true 0 [(5,.one (.i .i64))] [] (.n (.n .z .z) (.n (.n (.n .z (.n .z .z)) .z) .z))) .z)) .z))=qtz:=by kernel_rfl
theorem qt3:ai RO Tryz.prog 181 KT:=bJ qt2 (aE) Tryz.func181 (by kernel_rfl)
def Vy (h:AH O) (Bq:Sm O) (fy:Int):List AV × AH O->Option ((List AV × AH O) ⊕ ((List AV × AH O) ⊕ ((List AV × AH O) ⊕ ((List AV × AH O) ⊕ (AV × AH O))))):=(fun iS=>
 (AV.aX .i64 (iS.1.getD 0 .u)).bind fun fc=>
 aV iS.2 (.n h.next) 3 fun VC=>
 (bif (decide (fc<(VC.2:Int))) then
 aV iS.2 (.n h.next) 3 fun BI=>
 (bif ((decide ((0:Int)<=fc)) && (decide (fc<(BI.2:Int)))) then
 (SA.ref BI.1).bind fun BN=>
 aj iS.2 BN.1 (BN.2+(fc.toNat*1)) fun jU=>
 aV iS.2 (.n h.next) 6 fun K3=>
 (Bq [(.sl K3.1 K3.2),(.i .i64 jU)] iS.2).bind fun vp=>
 (AV.aZ vp.1).bind fun b24=>
 ((bif ((!b24) == true) then
 aV vp.2 (.n h.next) 0 fun LA=>
 (bif ((decide ((0:Int)<=jU)) && (decide (jU<(LA.2:Int)))) then
 (SA.ref LA.1).bind fun QX=>
 (vp.2.ld QX.1 ((QX.2+(jU.toNat*8))+4)).bind fun w28=>
 (AV.aZ w28).bind fun TO=>
 some ([(.b (TO == ((fy:Int) == 1)))],vp.2)
 else none)
 else some ([(.b false)],vp.2)):Option (List AV × AH O)).bind fun Mv=>
 (AV.aZ (Mv.1.getD 0 .u)).bind fun b31=>
 (bif b31 then
 ((((some ((.i .i64 jU),Mv.2):Option (AV × AH O)).map fun r=>Sum.inr (Sum.inr r)):Option ((List AV × AH O) ⊕ ((List AV × AH O) ⊕ (AV × AH O)))).map fun r=>Sum.inr (Sum.inr r))
 else some (Sum.inl ([(.i .i64 (IntKind.i64.wrap (fc+1)))],Mv.2)))
 else none)
 else some (Sum.inr (Sum.inl ([],iS.2)))))
def KW (h:AH O) (Bq:Sm O):List AV × AH O->Option ((List AV × AH O) ⊕ ((List AV × AH O) ⊕ (AV × AH O))):=(fun du=>
 (AV.aX .i64 (du.1.getD 0 .u)).bind fun fy=>
 (bif (decide (fy<2)) then
 cv (S:=List AV × AH O) (R:=((List AV × AH O) ⊕ ((List AV × AH O) ⊕ (AV × AH O)))) (bC (S:=List AV × AH O) (T:=(List AV × AH O) ⊕ ((List AV × AH O) ⊕ ((List AV × AH O) ⊕ (AV × AH O)))) (Vy h Bq fy) ([(.i .i64 0)],du.2)) fun TB=>
 some (Sum.inl ([(.i .i64 (IntKind.i64.wrap (fy+1)))],TB.2))
 else some (Sum.inr (Sum.inl ([],du.2)))))
def qt6 (Bq:Sm O):Sm O:=fun xs h=>
 bif Nat.beq xs.length 1 then
 (AV.asAgg 7 (xs.getD 0 .u)).bind fun c0=>
 dx c0 0 fun l1=>
 dx c0 1 fun l2=>
 aq c0 2 fun n3=>
 dx c0 3 fun l4=>
 aq c0 4 fun n5=>
 dx c0 5 fun l6=>
 dx c0 6 fun l7=>
 let h8:=h.az 1
 let h9:=h8.put h.next (.cells true 81 [(.sl l1.1 l1.2),(.sl l2.1 l2.2),(.i .i64 n3),(.sl l4.1 l4.2),(.i .i64 n5),(.sl l6.1 l6.2),(.sl l7.1 l7.2)])
 cv (S:=List AV × AH O) (R:=(AV × AH O)) (bC (S:=List AV × AH O) (T:=(List AV × AH O) ⊕ (AV × AH O)) (KW h Bq) ([(.i .i64 0)],h9)) fun lK=>
 some ((.i .i64 (-1)),lK.2)
 else none
def Mi:Sm O:=qt6 KT
theorem qt8:ag Tryz.prog 163:=Tryz.call163
theorem qt9 (Bq:Sm O):run (O:=O) Tryz.prog [(181,Bq)] Tryz.f163 (.n .z (.n (.n .z (.n (.lp true 0 [(3,.one (.i .i64))] [] (.n (.n .z .z) (.n (.n (.n .z (.n (.lp true 2 [(4,.one (.i .i64))] [] (.n (.n .z .z) (.n (.n (.n .z (.n (.g [(5,11,[(41,.one .b)])]) (.n .z .z))) .z) .z))) .z)) .z) .z))) .z)) .z))=qt6 Bq:=by kernel_rfl
theorem qua:ai RO Tryz.prog 163 Mi:=bJ (qt9 _) (ae qt1 qt3 <| aE) Tryz.func163 (by kernel_rfl)
def Ze (l0:SA × Nat) (n1:Int):List AV × AH O->Option ((List AV × AH O) ⊕ ((List AV × AH O) ⊕ (AV × AH O))):=(fun r2=>
 (AV.aX .i64 (r2.1.getD 0 .u)).bind fun n3=>
 (bif (decide (n3<(l0.2:Int))) then
 (bif ((decide ((0:Int)<=n3)) && (decide (n3<(l0.2:Int)))) then
 (SA.ref l0.1).bind fun q4=>
 gO r2.2 q4.1 ((q4.2+(n3.toNat*8))+7) fun n6=>
 (bif ((n6:Int) == n1) then
 ((some ((.i .i64 n3),r2.2):Option (AV × AH O)).map fun r=>Sum.inr (Sum.inr r))
 else some (Sum.inl ([(.i .i64 (IntKind.i64.wrap (n3+1)))],r2.2)))
 else none)
 else some (Sum.inr (Sum.inl ([],r2.2)))))
def quc:Sm O:=fun xs h=>
 bif Nat.beq xs.length 2 then
 dx xs 0 fun l0=>
 cV xs 1 fun n1=>
 cv (S:=List AV × AH O) (R:=(AV × AH O)) (bC (S:=List AV × AH O) (T:=(List AV × AH O) ⊕ (AV × AH O)) (Ze l0 n1) ([(.i .i64 0)],h)) fun r7=>
 some ((.i .i64 (-1)),r7.2)
 else none
def KU:Sm O:=quc
theorem que:ag Tryz.prog 164:=Tryz.call164
theorem quf:run (O:=O) Tryz.prog [] Tryz.f164 (.n .z (.n (.n .z (.n (.lp true 0 [(5,.one (.i .i64))] [] (.n (.n .z .z) (.n (.n (.n .z (.n .z .z)) .z) .z))) .z)) .z))=quc:=by kernel_rfl
theorem qug:ai RO Tryz.prog 164 KU:=bJ quf (aE) Tryz.func164 (by kernel_rfl)
def quh (zu:SA × Nat) (h:AH O) (Hf:Sm O) (Hg:Sm O):List AV × AH O->Option ((List AV × AH O) ⊕ (List AV × AH O)):=(fun Mz=>
 (AV.aX .i64 (Mz.1.getD 0 .u)).bind fun zJ=>
 (bif (decide (zJ<(zu.2:Int))) then
 aV Mz.2 (.n h.next) 0 fun l98=>
 aV Mz.2 (.n h.next) 1 fun Pq=>
 aj Mz.2 (.n h.next) 2 fun Bn=>
 aV Mz.2 (.n h.next) 3 fun zb=>
 aj Mz.2 (.n h.next) 4 fun jA=>
 aV Mz.2 (.n h.next) 5 fun aa9=>
 (bif ((decide ((0:Int)<=zJ)) && (decide (zJ<(zu.2:Int)))) then
 (SA.ref zu.1).bind fun aa'=>
 gO Mz.2 aa'.1 (aa'.2+(zJ.toNat*1)) fun zq=>
 (Hf [(.sl aa9.1 aa9.2),(.i .u64 zq)] Mz.2).bind fun DL=>
 (AV.aX .i64 DL.1).bind fun DI=>
 (aT (DL.2.ld (.n h.next) 0) (some (.sl l98.1 l98.2))).bind fun _=>
 (aT (DL.2.ld (.n h.next) 1) (some (.sl Pq.1 Pq.2))).bind fun _=>
 (aT (DL.2.ld (.n h.next) 2) (some (.i .i64 Bn))).bind fun _=>
 (aT (DL.2.ld (.n h.next) 3) (some (.sl zb.1 zb.2))).bind fun _=>
 (aT (DL.2.ld (.n h.next) 4) (some (.i .i64 jA))).bind fun _=>
 (Hg [(.agg [(.sl l98.1 l98.2),(.sl Pq.1 Pq.2),(.i .i64 Bn),(.sl zb.1 zb.2),(.i .i64 jA)]),(.i .i64 DI)] DL.2).bind fun aba=>
 (AV.ay 2 aba.1).bind fun abb=>
 (AV.asAgg 5 (abb.getD 0 .u)).bind fun LK=>
 dx LK 0 fun abc=>
 dx LK 1 fun LL=>
 aq LK 2 fun TY=>
 dx LK 3 fun abd=>
 aq LK 4 fun Dq=>
 cV abb 1 fun Ld=>
 (aba.2.st (.n h.next) 0 [(.sl abc.1 abc.2),(.sl LL.1 LL.2),(.i .i64 TY),(.sl abd.1 abd.2),(.i .i64 Dq)]).bind fun alK=>
 (bif ((decide ((0:Int)<=zJ)) && (decide (zJ<(zu.2:Int)))) then
 (SA.ref zu.1).bind fun abe=>
 (alK.st abe.1 (abe.2+(zJ.toNat*1)) [(.i .u64 Ld)]).bind fun alL=>
 some (Sum.inl ([(.i .i64 (IntKind.i64.wrap (zJ+1)))],alL))
 else none)
 else none)
 else some (Sum.inr ([],Mz.2))))
def QP (Pr Hf Hg:Sm O):Sm O:=fun xs h=>
 bif Nat.beq xs.length 1 then
 (AV.asAgg 7 (xs.getD 0 .u)).bind fun c0=>
 dx c0 0 fun l1=>
 dx c0 1 fun l2=>
 aq c0 2 fun n3=>
 dx c0 3 fun l4=>
 aq c0 4 fun n5=>
 dx c0 5 fun l6=>
 dx c0 6 fun l7=>
 let h8:=h.az 2
 let h9:=h8.put h.next (.cells true 81 [(.sl l1.1 l1.2),(.sl l2.1 l2.2),(.i .i64 n3),(.sl l4.1 l4.2),(.i .i64 n5),(.sl l6.1 l6.2),(.sl l7.1 l7.2)])
 let ij:=h9.put (h.next+1) (.cells true 81 [(.sl .nil 0),(.sl .nil 0),(.i .i64 0),(.sl .nil 0),(.i .i64 0),(.sl .nil 0),(.sl .nil 0)])
 aV ij (.n h.next) 0 fun yZ=>
 aV ij (.n h.next) 1 fun qJ=>
 aj ij (.n h.next) 2 fun iQ=>
 aV ij (.n h.next) 3 fun l18=>
 aj ij (.n h.next) 4 fun jU=>
 aV ij (.n h.next) 5 fun K3=>
 aV ij (.n h.next) 6 fun K5=>
 (Pr [(.agg [(.sl yZ.1 yZ.2),(.sl qJ.1 qJ.2),(.i .i64 iQ),(.sl l18.1 l18.2),(.i .i64 jU),(.sl K3.1 K3.2),(.sl K5.1 K5.2)])] ij).bind fun eJ=>
 (AV.aX .i64 eJ.1).bind fun eN=>
 (bif (decide (eN<0)) then
 aj eJ.2 (.n h.next) 4 fun qw=>
 (eJ.2.st (.n h.next) 4 [(.i .i64 (IntKind.i64.wrap (qw+1)))]).bind fun Bl=>
 aV Bl (.n h.next) 0 fun LM=>
 aV Bl (.n h.next) 1 fun Be=>
 aj Bl (.n h.next) 2 fun wg=>
 aV Bl (.n h.next) 3 fun l37=>
 aj Bl (.n h.next) 4 fun v9=>
 aV Bl (.n h.next) 5 fun Ra=>
 aV Bl (.n h.next) 6 fun Rb=>
 (Bl.st (.n (h.next+1)) 0 [(.sl LM.1 LM.2),(.sl Be.1 Be.2),(.i .i64 wg),(.sl l37.1 l37.2),(.i .i64 v9),(.sl Ra.1 Ra.2),(.sl Rb.1 Rb.2)]).bind fun My=>
 aV My (.n (h.next+1)) 0 fun QS=>
 aV My (.n (h.next+1)) 1 fun Zq=>
 aj My (.n (h.next+1)) 2 fun za=>
 aV My (.n (h.next+1)) 3 fun l52=>
 aj My (.n (h.next+1)) 4 fun BS=>
 aV My (.n (h.next+1)) 5 fun Rp=>
 aV My (.n (h.next+1)) 6 fun LB=>
 some ((.aB [(.agg [(.sl QS.1 QS.2),(.sl Zq.1 Zq.2),(.i .i64 za),(.sl l52.1 l52.2),(.i .i64 BS),(.sl Rp.1 Rp.2),(.sl LB.1 LB.2)]),(.b false)]),My)
 else let h59:=eJ.2.az 4
 let LC:=h59.put eJ.2.next (.cells true 3 [])
 aV LC (.n h.next) 6 fun xQ=>
 (LC.bT xQ.1 xQ.2 1).bind fun Bm=>
 (bif (Nat.ble ((0+xQ.2)*9) 35184372088832) then
 (LC.cF (eJ.2.next+1) 3 1 (.loc (.n eJ.2.next) 0 1) 0 xQ.2 Bm).bind fun vh=>
 (AV.dF vh.1).bind fun O3=>
 let Mr:=vh.2.put ((eJ.2.next+1)+1) (.cells true 3 [(.i .i64 eN)])
 (Mr.bT (.loc (.n ((eJ.2.next+1)+1)) 0 1) 1 1).bind fun abh=>
 (bif (Nat.ble ((O3.2+1)*9) 35184372088832) then
 (Mr.cF (((eJ.2.next+1)+1)+1) 3 1 O3.1 O3.2 1 abh).bind fun Fc=>
 (AV.dF Fc.1).bind fun l69=>
 (Fc.2.st (.n h.next) 6 [(.sl l69.1 l69.2)]).bind fun lN=>
 let Ud:=lN.az 2
 let ON:=Ud.put lN.next (.cells true 33 [])
 aV ON (.n h.next) 0 fun EI=>
 (bif ((decide ((0:Int)<=eN)) && (decide (eN<(EI.2:Int)))) then
 (SA.ref EI.1).bind fun q75=>
 aV ON q75.1 ((q75.2+(eN.toNat*8))+5) fun Mx=>
 (ON.bT Mx.1 Mx.2 1).bind fun abi=>
 (bif (Nat.ble ((0+Mx.2)*9) 35184372088832) then
 (ON.cF (lN.next+1) 33 1 (.loc (.n lN.next) 0 1) 0 Mx.2 abi).bind fun Ue=>
 (AV.dF Ue.1).bind fun zu=>
 aV Ue.2 (.n h.next) 0 fun BX=>
 (bif ((decide ((0:Int)<=eN)) && (decide (eN<(BX.2:Int)))) then
 (SA.ref BX.1).bind fun q83=>
 (Ue.2.ld q83.1 ((q83.2+(eN.toNat*8))+4)).bind fun w84=>
 (AV.aZ w84).bind fun b85=>
 ((bif b85 then
 aj Ue.2 (.n h.next) 4 fun Lv=>
 let v88:Int:=(IntKind.i64.wrap ((IntKind.i64.wrap (Lv+3))+(IntKind.i64.wrap (6*(zu.2:Int)))))
 (Ue.2.st (.n h.next) 4 [(.i .i64 (IntKind.i64.wrap (v88+1)))]).bind fun Rn=>
 some ([],Rn)
 else aj Ue.2 (.n h.next) 4 fun n91=>
 let v92:Int:=(IntKind.i64.wrap ((IntKind.i64.wrap (n91+1))+(IntKind.i64.wrap (2*(zu.2:Int)))))
 (Ue.2.st (.n h.next) 4 [(.i .i64 v92)]).bind fun h93=>
 some ([],h93)):Option (List AV × AH O)).bind fun r94=>
 (bC (S:=List AV × AH O) (T:=List AV × AH O) (quh zu h Hf Hg) ([(.i .i64 0)],r94.2)).bind fun sX=>
 let wo:=sX.2.az 1
 aV wo (.n h.next) 0 fun LN=>
 (bif ((decide ((0:Int)<=eN)) && (decide (eN<(LN.2:Int)))) then
 (SA.ref LN.1).bind fun nL=>
 aj wo nL.1 (nL.2+(eN.toNat*8)) fun OW=>
 aj wo nL.1 ((nL.2+(eN.toNat*8))+1) fun alM=>
 aj wo nL.1 (((nL.2+(eN.toNat*8))+1)+1) fun Uf=>
 aj wo nL.1 ((((nL.2+(eN.toNat*8))+1)+1)+1) fun Ug=>
 (wo.ld nL.1 (((((nL.2+(eN.toNat*8))+1)+1)+1)+1)).bind fun alN=>
 (AV.aZ alN).bind fun alO=>
 aV wo nL.1 ((((((nL.2+(eN.toNat*8))+1)+1)+1)+1)+1) fun abj=>
 aV wo nL.1 (((((((nL.2+(eN.toNat*8))+1)+1)+1)+1)+1)+1) fun G6=>
 gO wo nL.1 ((((((((nL.2+(eN.toNat*8))+1)+1)+1)+1)+1)+1)+1) fun alP=>
 let alQ:=wo.put sX.2.next (.cells true 42 [(.i .i64 0),(.i .i64 0),(.i .i64 0),(.i .i64 0),(.b false),(.sl .nil 0),(.sl .nil 0),(.i .u64 0)])
 (alQ.st (.n sX.2.next) 0 [(.i .i64 OW),(.i .i64 alM),(.i .i64 Uf),(.i .i64 Ug),(.b alO),(.sl abj.1 abj.2),(.sl G6.1 G6.2),(.i .u64 alP)]).bind fun alR=>
 (alR.st (.n sX.2.next) 5 [(.sl zu.1 zu.2)]).bind fun sV=>
 let alS:=sV.az 2
 let Uh:=alS.put sV.next (.cells true 42 [])
 aV Uh (.n h.next) 0 fun DN=>
 (Uh.bT DN.1 DN.2 8).bind fun Ui=>
 (bif (Nat.ble ((0+DN.2)*97) 35184372088832) then
 (Uh.cF (sV.next+1) 42 8 (.loc (.n sV.next) 0 8) 0 DN.2 Ui).bind fun abk=>
 (AV.dF abk.1).bind fun abl=>
 (abk.2.st (.n h.next) 0 [(.sl abl.1 abl.2)]).bind fun jQ=>
 aV jQ (.n h.next) 0 fun Ly=>
 aj jQ (.n sX.2.next) 0 fun GJ=>
 aj jQ (.n sX.2.next) 1 fun Tj=>
 aj jQ (.n sX.2.next) 2 fun Tl=>
 aj jQ (.n sX.2.next) 3 fun Tm=>
 (jQ.ld (.n sX.2.next) 4).bind fun Tn=>
 (AV.aZ Tn).bind fun To=>
 aV jQ (.n sX.2.next) 5 fun Lh=>
 aV jQ (.n sX.2.next) 6 fun Li=>
 gO jQ (.n sX.2.next) 7 fun Tp=>
 (bif ((decide ((0:Int)<=eN)) && (decide (eN<(Ly.2:Int)))) then
 (SA.ref Ly.1).bind fun abm=>
 (jQ.st abm.1 (abm.2+(eN.toNat*8)) [(.i .i64 GJ),(.i .i64 Tj),(.i .i64 Tl),(.i .i64 Tm),(.b To),(.sl Lh.1 Lh.2),(.sl Li.1 Li.2),(.i .u64 Tp)]).bind fun Br=>
 aV Br (.n h.next) 0 fun abn=>
 aV Br (.n h.next) 1 fun Lj=>
 aj Br (.n h.next) 2 fun Tt=>
 aV Br (.n h.next) 3 fun abo=>
 aj Br (.n h.next) 4 fun alT=>
 aV Br (.n h.next) 5 fun abp=>
 aV Br (.n h.next) 6 fun abq=>
 (Br.st (.n (h.next+1)) 0 [(.sl abn.1 abn.2),(.sl Lj.1 Lj.2),(.i .i64 Tt),(.sl abo.1 abo.2),(.i .i64 alT),(.sl abp.1 abp.2),(.sl abq.1 abq.2)]).bind fun Bs=>
 aV Bs (.n (h.next+1)) 0 fun abr=>
 aV Bs (.n (h.next+1)) 1 fun abt=>
 aj Bs (.n (h.next+1)) 2 fun alU=>
 aV Bs (.n (h.next+1)) 3 fun abu=>
 aj Bs (.n (h.next+1)) 4 fun alV=>
 aV Bs (.n (h.next+1)) 5 fun abv=>
 aV Bs (.n (h.next+1)) 6 fun abw=>
 some ((.aB [(.agg [(.sl abr.1 abr.2),(.sl abt.1 abt.2),(.i .i64 alU),(.sl abu.1 abu.2),(.i .i64 alV),(.sl abv.1 abv.2),(.sl abw.1 abw.2)]),(.b true)]),Bs)
 else none)
 else none)
 else none)
 else none)
 else none)
 else none)
 else none)
 else none))
 else none
def KZ:Sm O:=vk (QP Mi KU CS)
theorem quk:ag Tryz.prog 123:=Tryz.call123
theorem qul (Pr Hf Hg:Sm O):run (O:=O) Tryz.prog [(163,Pr),(164,Hf),(21,Hg)] Tryz.f123 (.n .z (.n .z (.n (.n .z (.n (.n .z .z) .z)) (.n .z (.n .z (.n (.n .z (.j false [] .z .z)) (.n (.n .z (.n (.lp false 0 [(6,.one (.i .i64))] [] (.n (.n .z .z) (.n (.n (.d [] [0,1,2,3,4,5,6,7,8,9,10,11,12,13,14,15,16,17,18] [0,0,0,4,0,16,0,0,192,448,1008,2044,4092,8188,8188,16380,49148,131071,262143]) .z) .z))) .z)) (.n .z (.n .z (.n .z (.n .z .z)))))))))))=QP Pr Hf Hg:=by kernel_rfl
theorem qum:ai RO Tryz.prog 123 (KZ):=
   have h:ai RO Tryz.prog 123 (QP Mi KU CS):=(qul Mi KU CS)▸eH (ae qt8 (qua) <| ae que (qug) <| ae qam (qao) <| aE) mixed Tryz.func123 (by kernel_rfl) _
   h.vk
def Zm (h:AH O) (Hh:Sm O):List AV × AH O->Option ((List AV × AH O) ⊕ (List AV × AH O)):=(fun eQ=>
 (AV.aZ (eQ.1.getD 0 .u)).bind fun vY=>
 (bif vY then
 aV eQ.2 (.n h.next) 0 fun qJ=>
 aV eQ.2 (.n h.next) 1 fun Ps=>
 aj eQ.2 (.n h.next) 2 fun iB=>
 aV eQ.2 (.n h.next) 3 fun VG=>
 aj eQ.2 (.n h.next) 4 fun iA=>
 aV eQ.2 (.n h.next) 5 fun K5=>
 aV eQ.2 (.n h.next) 6 fun LA=>
 (Hh [(.agg [(.sl qJ.1 qJ.2),(.sl Ps.1 Ps.2),(.i .i64 iB),(.sl VG.1 VG.2),(.i .i64 iA),(.sl K5.1 K5.2),(.sl LA.1 LA.2)])] eQ.2).bind fun jR=>
 (AV.ay 2 jR.1).bind fun HQ=>
 (AV.asAgg 7 (HQ.getD 0 .u)).bind fun BW=>
 dx BW 0 fun Z5=>
 dx BW 1 fun LM=>
 aq BW 2 fun pr=>
 dx BW 3 fun Be=>
 aq BW 4 fun tJ=>
 dx BW 5 fun VU=>
 dx BW 6 fun l36=>
 (AV.aZ (HQ.getD 1 .u)).bind fun b37=>
 (jR.2.st (.n h.next) 0 [(.sl Z5.1 Z5.2),(.sl LM.1 LM.2),(.i .i64 pr),(.sl Be.1 Be.2),(.i .i64 tJ),(.sl VU.1 VU.2),(.sl l36.1 l36.2)]).bind fun HS=>
 some (Sum.inl ([(.b b37)],HS))
 else some (Sum.inr ([],eQ.2))))
def VA (Hh:Sm O):Sm O:=fun xs h=>
 bif Nat.beq xs.length 1 then
 (AV.asAgg 7 (xs.getD 0 .u)).bind fun c0=>
 dx c0 0 fun l1=>
 dx c0 1 fun l2=>
 aq c0 2 fun n3=>
 dx c0 3 fun l4=>
 aq c0 4 fun n5=>
 dx c0 5 fun l6=>
 dx c0 6 fun l7=>
 let h8:=h.az 2
 let h9:=h8.put h.next (.cells true 81 [(.sl l1.1 l1.2),(.sl l2.1 l2.2),(.i .i64 n3),(.sl l4.1 l4.2),(.i .i64 n5),(.sl l6.1 l6.2),(.sl l7.1 l7.2)])
 let ij:=h9.put (h.next+1) (.cells true 81 [(.sl .nil 0),(.sl .nil 0),(.i .i64 0),(.sl .nil 0),(.i .i64 0),(.sl .nil 0),(.sl .nil 0)])
 (bC (S:=List AV × AH O) (T:=List AV × AH O) (Zm h Hh) ([(.b true)],ij)).bind fun jS=>
 aV jS.2 (.n h.next) 0 fun Ra=>
 aV jS.2 (.n h.next) 1 fun Rb=>
 aj jS.2 (.n h.next) 2 fun vr=>
 aV jS.2 (.n h.next) 3 fun Rf=>
 aj jS.2 (.n h.next) 4 fun sH=>
 aV jS.2 (.n h.next) 5 fun Rq=>
 aV jS.2 (.n h.next) 6 fun l53=>
 (jS.2.st (.n (h.next+1)) 0 [(.sl Ra.1 Ra.2),(.sl Rb.1 Rb.2),(.i .i64 vr),(.sl Rf.1 Rf.2),(.i .i64 sH),(.sl Rq.1 Rq.2),(.sl l53.1 l53.2)]).bind fun HC=>
 aV HC (.n (h.next+1)) 0 fun Rp=>
 aV HC (.n (h.next+1)) 1 fun LB=>
 aj HC (.n (h.next+1)) 2 fun BQ=>
 aV HC (.n (h.next+1)) 3 fun xQ=>
 aj HC (.n (h.next+1)) 4 fun AL=>
 aV HC (.n (h.next+1)) 5 fun l66=>
 aV HC (.n (h.next+1)) 6 fun xJ=>
 some ((.agg [(.sl Rp.1 Rp.2),(.sl LB.1 LB.2),(.i .i64 BQ),(.sl xQ.1 xQ.2),(.i .i64 AL),(.sl l66.1 l66.2),(.sl xJ.1 xJ.2)]),HC)
 else none
def quq:Sm O:=vk (VA KZ)
theorem qur:ag Tryz.prog 73:=Tryz.call73
theorem qus (Hh:Sm O):run (O:=O) Tryz.prog [(123,Hh)] Tryz.f73 (.n .z (.n .z (.n (.n (.lp false 0 [(3,.one .b)] [] (.n (.n .z .z) .z)) .z) .z)))=VA Hh:=by kernel_rfl
theorem qut:ai RO Tryz.prog 73 (quq):=
   have h:ai RO Tryz.prog 73 (VA KZ):=(qus KZ)▸eH (ae quk (qum) <| aE) mixed Tryz.func73 (by kernel_rfl) _
   h.vk
def Xn (BI:SA × Nat) (r36:AV × AH O) (Hg:Sm O) (Ps:SA × Nat) (zM:Sm O) (Mw:Option (fH × Nat)):List AV × AH O->Option ((List AV × AH O) ⊕ (List AV × AH O)):=(fun DJ=>
 (AV.aX .i64 (DJ.1.getD 0 .u)).bind fun xP=>
 (bif (decide (xP<(BI.2:Int))) then
 aV DJ.2 (.n r36.2.next) 0 fun xJ=>
 aV DJ.2 (.n r36.2.next) 1 fun Zs=>
 aj DJ.2 (.n r36.2.next) 2 fun QU=>
 aV DJ.2 (.n r36.2.next) 3 fun EI=>
 aj DJ.2 (.n r36.2.next) 4 fun Bf=>
 (bif ((decide ((0:Int)<=xP)) && (decide (xP<(BI.2:Int)))) then
 (SA.ref BI.1).bind fun q77=>
 aj DJ.2 q77.1 (q77.2+(xP.toNat*1)) fun O0=>
 (Hg [(.agg [(.sl xJ.1 xJ.2),(.sl Zs.1 Zs.2),(.i .i64 QU),(.sl EI.1 EI.2),(.i .i64 Bf)]),(.i .i64 O0)] DJ.2).bind fun G3=>
 (AV.ay 2 G3.1).bind fun c81=>
 (AV.asAgg 5 (c81.getD 0 .u)).bind fun c82=>
 dx c82 0 fun l83=>
 dx c82 1 fun Zt=>
 aq c82 2 fun Bj=>
 dx c82 3 fun Zu=>
 aq c82 4 fun Lv=>
 cV c81 1 fun EY=>
 (G3.2.st (.n r36.2.next) 0 [(.sl l83.1 l83.2),(.sl Zt.1 Zt.2),(.i .i64 Bj),(.sl Zu.1 Zu.2),(.i .i64 Lv)]).bind fun Rn=>
 (bif ((decide ((0:Int)<=xP)) && (decide (xP<(BI.2:Int)))) then
 (SA.ref BI.1).bind fun q90=>
 aj Rn q90.1 (q90.2+(xP.toNat*1)) fun K9=>
 (bif ((decide ((0:Int)<=K9)) && (decide (K9<(Ps.2:Int)))) then
 (SA.ref Ps.1).bind fun q93=>
 gO Rn q93.1 ((q93.2+(K9.toNat*8))+7) fun n95=>
 (zM [(.p Mw),(.i .u64 n95)] Rn).bind fun r96=>
 (AV.aX .u64 r96.1).bind fun n97=>
 some (Sum.inl ([(.i .i64 (IntKind.i64.wrap (xP+1)))],r96.2))
 else none)
 else none)
 else none)
 else some (Sum.inr ([],DJ.2))))
def quv (k69 Pk Pl k70 Hg zM k71 k72 k73:Sm O):Sm O:=fun xs h=>
 bif Nat.beq xs.length 1 then
 (AV.asAgg 3 (xs.getD 0 .u)).bind fun c0=>
 dx c0 0 fun l1=>
 dx c0 1 fun l2=>
 dx c0 2 fun l3=>
 let h4:=h.az 2
 let h5:=h4.put h.next (.cells true 78 [(.sl l1.1 l1.2),(.sl l2.1 l2.2),(.sl l3.1 l3.2)])
 let h6:=h5.put (h.next+1) (.cells true 81 [(.sl .nil 0),(.sl .nil 0),(.i .i64 0),(.sl .nil 0),(.i .i64 0),(.sl .nil 0),(.sl .nil 0)])
 aV h6 (.n h.next) 0 fun l8=>
 aV h6 (.n h.next) 1 fun TH=>
 aV h6 (.n h.next) 2 fun yZ=>
 (k69 [(.agg [(.sl l8.1 l8.2),(.sl TH.1 TH.2),(.sl yZ.1 yZ.2)])] h6).bind fun fk=>
 (AV.ay 4 fk.1).bind fun GZ=>
 (AV.bD (GZ.getD 0 .u)).bind fun GV=>
 dx GZ 1 fun Ps=>
 dx GZ 2 fun BI=>
 (AV.aZ (GZ.getD 3 .u)).bind fun Dv=>
 (bif (!Dv) then
 (fk.2.st (.n (h.next+1)) 0 [(.sl .nil 0),(.sl .nil 0),(.i .i64 0),(.sl .nil 0),(.i .i64 0),(.sl .nil 0),(.sl .nil 0)]).bind fun vo=>
 aV vo (.n (h.next+1)) 0 fun Q2=>
 aV vo (.n (h.next+1)) 1 fun BM=>
 aj vo (.n (h.next+1)) 2 fun oZ=>
 aV vo (.n (h.next+1)) 3 fun Re=>
 aj vo (.n (h.next+1)) 4 fun vq=>
 aV vo (.n (h.next+1)) 5 fun LM=>
 aV vo (.n (h.next+1)) 6 fun Be=>
 some ((.aB [(.p none),(.p none),(.agg [(.sl Q2.1 Q2.2),(.sl BM.1 BM.2),(.i .i64 oZ),(.sl Re.1 Re.2),(.i .i64 vq),(.sl LM.1 LM.2),(.sl Be.1 Be.2)]),(.b false)]),vo)
 else (Pk [(.p GV),(.fn none)] fk.2).bind fun Lq=>
 (AV.bD Lq.1).bind fun Mw=>
 (Pl [(.p Mw)] Lq.2).bind fun r36=>
 (AV.aX .i64 r36.1).bind fun BO=>
 (bif ((BO:Int) != 0) then
 (r36.2.st (.n (h.next+1)) 0 [(.sl .nil 0),(.sl .nil 0),(.i .i64 0),(.sl .nil 0),(.i .i64 0),(.sl .nil 0),(.sl .nil 0)]).bind fun HS=>
 aV HS (.n (h.next+1)) 0 fun ZW=>
 aV HS (.n (h.next+1)) 1 fun V0=>
 aj HS (.n (h.next+1)) 2 fun Ms=>
 aV HS (.n (h.next+1)) 3 fun QS=>
 aj HS (.n (h.next+1)) 4 fun Dy=>
 aV HS (.n (h.next+1)) 5 fun Lu=>
 aV HS (.n (h.next+1)) 6 fun l52=>
 some ((.aB [(.p none),(.p none),(.agg [(.sl ZW.1 ZW.2),(.sl V0.1 V0.2),(.i .i64 Ms),(.sl QS.1 QS.2),(.i .i64 Dy),(.sl Lu.1 Lu.2),(.sl l52.1 l52.2)]),(.b false)]),HS)
 else let h53:=r36.2.az 1
 (k70 [(.sl Ps.1 Ps.2)] h53).bind fun zd=>
 (AV.asAgg 7 zd.1).bind fun Dz=>
 dx Dz 0 fun Rp=>
 dx Dz 1 fun Rc=>
 aq Dz 2 fun HM=>
 dx Dz 3 fun l59=>
 aq Dz 4 fun BQ=>
 dx Dz 5 fun l61=>
 dx Dz 6 fun xQ=>
 let Hn:=zd.2.put r36.2.next (.cells true 81 [(.sl .nil 0),(.sl .nil 0),(.i .i64 0),(.sl .nil 0),(.i .i64 0),(.sl .nil 0),(.sl .nil 0)])
 (Hn.st (.n r36.2.next) 0 [(.sl Rp.1 Rp.2),(.sl Rc.1 Rc.2),(.i .i64 HM),(.sl l59.1 l59.2),(.i .i64 BQ),(.sl l61.1 l61.2),(.sl xQ.1 xQ.2)]).bind fun h64=>
 (bC (S:=List AV × AH O) (T:=List AV × AH O) (Xn BI r36 Hg Ps zM Mw) ([(.i .i64 0)],h64)).bind fun r98=>
 (k71 [(.p Mw)] r98.2).bind fun Pf=>
 (AV.bD Pf.1).bind fun abz=>
 (bif (Option.isNone abz) then
 (Pf.2.st (.n (h.next+1)) 0 [(.sl .nil 0),(.sl .nil 0),(.i .i64 0),(.sl .nil 0),(.i .i64 0),(.sl .nil 0),(.sl .nil 0)]).bind fun vW=>
 aV vW (.n (h.next+1)) 0 fun Bo=>
 aV vW (.n (h.next+1)) 1 fun abA=>
 aj vW (.n (h.next+1)) 2 fun Lw=>
 aV vW (.n (h.next+1)) 3 fun abB=>
 aj vW (.n (h.next+1)) 4 fun zq=>
 aV vW (.n (h.next+1)) 5 fun Bk=>
 aV vW (.n (h.next+1)) 6 fun abC=>
 some ((.aB [(.p none),(.p none),(.agg [(.sl Bo.1 Bo.2),(.sl abA.1 abA.2),(.i .i64 Lw),(.sl abB.1 abB.2),(.i .i64 zq),(.sl Bk.1 Bk.2),(.sl abC.1 abC.2)]),(.b false)]),vW)
 else (k72 [(.p abz)] Pf.2).bind fun zB=>
 (AV.aX .i64 zB.1).bind fun aaT=>
 aV zB.2 (.n r36.2.next) 0 fun abD=>
 aV zB.2 (.n r36.2.next) 1 fun abE=>
 aj zB.2 (.n r36.2.next) 2 fun Tf=>
 aV zB.2 (.n r36.2.next) 3 fun abF=>
 aj zB.2 (.n r36.2.next) 4 fun alW=>
 aV zB.2 (.n r36.2.next) 5 fun LN=>
 aV zB.2 (.n r36.2.next) 6 fun abG=>
 (k73 [(.agg [(.sl abD.1 abD.2),(.sl abE.1 abE.2),(.i .i64 Tf),(.sl abF.1 abF.2),(.i .i64 alW),(.sl LN.1 LN.2),(.sl abG.1 abG.2)])] zB.2).bind fun abH=>
 (AV.asAgg 7 abH.1).bind fun DP=>
 dx DP 0 fun abI=>
 dx DP 1 fun abJ=>
 aq DP 2 fun Uf=>
 dx DP 3 fun abK=>
 aq DP 4 fun Ug=>
 dx DP 5 fun abL=>
 dx DP 6 fun abM=>
 (abH.2.st (.n (h.next+1)) 0 [(.sl abI.1 abI.2),(.sl abJ.1 abJ.2),(.i .i64 Uf),(.sl abK.1 abK.2),(.i .i64 Ug),(.sl abL.1 abL.2),(.sl abM.1 abM.2)]).bind fun vf=>
 aV vf (.n (h.next+1)) 0 fun abN=>
 aV vf (.n (h.next+1)) 1 fun Lf=>
 aj vf (.n (h.next+1)) 2 fun alX=>
 aV vf (.n (h.next+1)) 3 fun abO=>
 aj vf (.n (h.next+1)) 4 fun Lg=>
 aV vf (.n (h.next+1)) 5 fun DN=>
 aV vf (.n (h.next+1)) 6 fun abP=>
 some ((.aB [(.p GV),(.p Mw),(.agg [(.sl abN.1 abN.2),(.sl Lf.1 Lf.2),(.i .i64 alX),(.sl abO.1 abO.2),(.i .i64 Lg),(.sl DN.1 DN.2),(.sl abP.1 abP.2)]),(.b true)]),vf))))
 else none
def quw:Sm O:=quv qst Ym Yn qsy CS zG qs3 qtu quq
theorem qux:ag Tryz.prog 30:=Tryz.call30
theorem quy (k69 Pk Pl k70 Hg zM k71 k72 k73:Sm O):run (O:=O) Tryz.prog [(69,k69),(10,Pk),(11,Pl),(70,k70),(21,Hg),(12,zM),(71,k71),(72,k72),(73,k73)] Tryz.f30 (.n .z (.n .z (.n (.n .z (.n .z .z)) (.n .z (.n (.n .z (.n .z .z)) (.n .z (.n (.n .z (.n (.lp false 0 [(12,.one (.i .i64))] [] (.n (.n .z .z) (.n (.n (.n (.d [] [0,1,2,3,4,5,6,7,8,9,10,11] [0,1,0,0,12,28,63,127,255,255,511,1535]) .z) .z) .z))) .z)) (.n .z (.n (.n .z (.n .z .z)) (.n .z .z))))))))))=quv k69 Pk Pl k70 Hg zM k71 k72 k73:=by kernel_rfl
theorem quz:ai RO Tryz.prog 30 quw:=bJ (quy _ _ _ _ _ _ _ _ _) (ae qsu qsw <| ae qm6 qm8 <| ae qn1 qn3 <| ae qsz qs1 <| ae qam qao <| ae qqj qql <| ae qs4 qs6 <| ae qtv qtx <| ae qur qut <| aE) Tryz.func30 (by kernel_rfl)
end
end Go.Abs.Tryz
