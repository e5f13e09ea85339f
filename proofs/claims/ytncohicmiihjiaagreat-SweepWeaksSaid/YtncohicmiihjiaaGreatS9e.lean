/-
  What functions of the program do. No conditions.
-/
import Derived.Test.YtncohicmiihjiaaGreatProg
import Derived.Test.YtncohicmiihjiaaGreatS9ea
import Derived.KernelRfl
set_option linter.unusedVariables false
set_option linter.unusedSimpArgs false
set_option linter.constructorNameAsVariable false
set_option maxRecDepth 100000
namespace Go.Abs.Tryz
open Go Go.Abs Go.Proofs
noncomputable section
variable {O:Type} {RO:O->Loc->(Nat->Option Obj)->Prop}
def Zb:Sm O:=fun xs h=>
 bif Nat.beq xs.length 1 then
 dx xs 0 fun l0=>
 let h1:=h.az 1
 let h2:=h1.put h.next (.cells true 63 [(.sl .nil 0),(.sl .nil 0),(.i .i64 0),(.sl .nil 0),(.i .i64 0)])
 let h3:=h2.az 1
 (bif ((((decide ((0:Int)<=(l0.2:Int))) && (decide ((l0.2:Int)<=(l0.2:Int)))) && (decide (((l0.2:Int)*8)<=140737488355328))) && (decide ((l0.2:Int)<=140737488355328))) then
 let h4:=h3.put h2.next (.cells true 33 ((List.replicate (l0.2:Int).toNat [(.i .u64 0)]).flatten))
 (h4.st (.n h.next) 0 [(.sl l0.1 l0.2),(.sl (.loc (.n h2.next) 0 1) (l0.2:Int).toNat),(.i .i64 0),(.sl .nil 0),(.i .i64 0)]).bind fun h5=>
 aV h5 (.n h.next) 0 fun l7=>
 aV h5 (.n h.next) 1 fun l9=>
 aj h5 (.n h.next) 2 fun fy=>
 aV h5 (.n h.next) 3 fun HI=>
 aj h5 (.n h.next) 4 fun fR=>
 some ((.agg [(.sl l7.1 l7.2),(.sl l9.1 l9.2),(.i .i64 fy),(.sl HI.1 HI.2),(.i .i64 fR)]),h5)
 else none)
 else none
def Vx:Sm O:=vk (Zb)
theorem qac:ag Tryz.prog 20:=Tryz.call20
theorem qad:run (O:=O) Tryz.prog [] Tryz.f20 (.n .z .z)=Zb:=by kernel_rfl
theorem qae:ai RO Tryz.prog 20 (Vx):=
   have h:ai RO Tryz.prog 20 (Zb):=(qad)▸eH (aE) mixed Tryz.func20 (by kernel_rfl) _
   h.vk
def qaf:Sm O:=fun xs h=>
 bif Nat.beq xs.length 1 then
 (AV.asAgg 8 (xs.getD 0 .u)).bind fun c0=>
 aq c0 0 fun n1=>
 aq c0 1 fun n2=>
 aq c0 2 fun n3=>
 aq c0 3 fun n4=>
 (AV.aZ (c0.getD 4 .u)).bind fun b5=>
 dx c0 5 fun l6=>
 dx c0 6 fun l7=>
 cV c0 7 fun n8=>
 let h9:=h.az 1
 let ij:=h9.put h.next (.cells true 42 [(.i .i64 n1),(.i .i64 n2),(.i .i64 n3),(.i .i64 n4),(.b b5),(.sl l6.1 l6.2),(.sl l7.1 l7.2),(.i .u64 n8)])
 aV ij (.n h.next) 5 fun yZ=>
 aV ij (.n h.next) 6 fun qJ=>
 let Zo:Int:=(IntKind.i64.wrap ((IntKind.i64.wrap (1+(yZ.2:Int)))+(qJ.2:Int)))
 some ((.i .i64 Zo),ij)
 else none
def Ni:Sm O:=qaf
theorem qah:ag Tryz.prog 27:=Tryz.call27
theorem qai:run (O:=O) Tryz.prog [] Tryz.f27 (.n .z .z)=qaf:=by kernel_rfl
theorem qaj:ai RO Tryz.prog 27 Ni:=bJ qai (aE) Tryz.func27 (by kernel_rfl)
def Mh (k14 Zp:Sm O):Sm O:=fun xs h=>
 bif Nat.beq xs.length 2 then
 (AV.asAgg 5 (xs.getD 0 .u)).bind fun c0=>
 dx c0 0 fun l1=>
 dx c0 1 fun l2=>
 aq c0 2 fun n3=>
 dx c0 3 fun l4=>
 aq c0 4 fun n5=>
 aq xs 1 fun n6=>
 let h7:=h.az 2
 let h8:=h7.put h.next (.cells true 63 [(.sl l1.1 l1.2),(.sl l2.1 l2.2),(.i .i64 n3),(.sl l4.1 l4.2),(.i .i64 n5)])
 let h9:=h8.put (h.next+1) (.cells true 63 [(.sl .nil 0),(.sl .nil 0),(.i .i64 0),(.sl .nil 0),(.i .i64 0)])
 (bif (decide (n6<0)) then
 aV h9 (.n h.next) 0 fun jw=>
 aV h9 (.n h.next) 1 fun HI=>
 aj h9 (.n h.next) 2 fun fR=>
 aV h9 (.n h.next) 3 fun BI=>
 aj h9 (.n h.next) 4 fun fu=>
 (h9.st (.n (h.next+1)) 0 [(.sl jw.1 jw.2),(.sl HI.1 HI.2),(.i .i64 fR),(.sl BI.1 BI.2),(.i .i64 fu)]).bind fun xI=>
 aV xI (.n (h.next+1)) 0 fun K3=>
 aV xI (.n (h.next+1)) 1 fun K5=>
 aj xI (.n (h.next+1)) 2 fun eN=>
 aV xI (.n (h.next+1)) 3 fun BJ=>
 aj xI (.n (h.next+1)) 4 fun nY=>
 some ((.aB [(.agg [(.sl K3.1 K3.2),(.sl K5.1 K5.2),(.i .i64 eN),(.sl BJ.1 BJ.2),(.i .i64 nY)]),(.i .u64 0)]),xI)
 else let EW:=h9.az 1
 aV EW (.n h.next) 0 fun Be=>
 (bif ((decide ((0:Int)<=n6)) && (decide (n6<(Be.2:Int)))) then
 (SA.ref Be.1).bind fun oX=>
 aj EW oX.1 (oX.2+(n6.toNat*8)) fun rU=>
 aj EW oX.1 ((oX.2+(n6.toNat*8))+1) fun K8=>
 aj EW oX.1 (((oX.2+(n6.toNat*8))+1)+1) fun QR=>
 aj EW oX.1 ((((oX.2+(n6.toNat*8))+1)+1)+1) fun EX=>
 (EW.ld oX.1 (((((oX.2+(n6.toNat*8))+1)+1)+1)+1)).bind fun w43=>
 (AV.aZ w43).bind fun b44=>
 aV EW oX.1 ((((((oX.2+(n6.toNat*8))+1)+1)+1)+1)+1) fun QS=>
 aV EW oX.1 (((((((oX.2+(n6.toNat*8))+1)+1)+1)+1)+1)+1) fun Zq=>
 gO EW oX.1 ((((((((oX.2+(n6.toNat*8))+1)+1)+1)+1)+1)+1)+1) fun za=>
 let GG:=EW.put h9.next (.cells true 42 [(.i .i64 0),(.i .i64 0),(.i .i64 0),(.i .i64 0),(.b false),(.sl .nil 0),(.sl .nil 0),(.i .u64 0)])
 (GG.st (.n h9.next) 0 [(.i .i64 rU),(.i .i64 K8),(.i .i64 QR),(.i .i64 EX),(.b b44),(.sl QS.1 QS.2),(.sl Zq.1 Zq.2),(.i .u64 za)]).bind fun sR=>
 aV sR (.n h.next) 1 fun l54=>
 (bif ((decide ((0:Int)<=n6)) && (decide (n6<(l54.2:Int)))) then
 (SA.ref l54.1).bind fun Zr=>
 gO sR Zr.1 (Zr.2+(n6.toNat*1)) fun GH=>
 (bif ((GH:Int) != 0) then
 (sR.ld (.n h9.next) 4).bind fun w58=>
 (AV.aZ w58).bind fun b59=>
 ((bif b59 then
 aj sR (.n h.next) 4 fun QT=>
 (sR.st (.n h.next) 4 [(.i .i64 (IntKind.i64.wrap (QT+2)))]).bind fun Ml=>
 some ([],Ml)
 else aj sR (.n h.next) 4 fun AL=>
 (sR.st (.n h.next) 4 [(.i .i64 (IntKind.i64.wrap (AL+1)))]).bind fun h65=>
 some ([],h65)):Option (List AV × AH O)).bind fun oV=>
 aV oV.2 (.n h.next) 0 fun xJ=>
 aV oV.2 (.n h.next) 1 fun Zs=>
 aj oV.2 (.n h.next) 2 fun QU=>
 aV oV.2 (.n h.next) 3 fun EI=>
 aj oV.2 (.n h.next) 4 fun Bf=>
 aV oV.2 (.n h.next) 1 fun l78=>
 (bif ((decide ((0:Int)<=n6)) && (decide (n6<(l78.2:Int)))) then
 (SA.ref l78.1).bind fun q79=>
 gO oV.2 q79.1 (q79.2+(n6.toNat*1)) fun QV=>
 (oV.2.st (.n (h.next+1)) 0 [(.sl xJ.1 xJ.2),(.sl Zs.1 Zs.2),(.i .i64 QU),(.sl EI.1 EI.2),(.i .i64 Bf)]).bind fun HJ=>
 (aT (HJ.ld (.n h.next) 1) (some (.sl l78.1 l78.2))).bind fun _=>
 (aT (HJ.ld q79.1 (q79.2+(n6.toNat*1))) (some (.i .u64 QV))).bind fun _=>
 aV HJ (.n (h.next+1)) 0 fun Zt=>
 aV HJ (.n (h.next+1)) 1 fun Zu=>
 aj HJ (.n (h.next+1)) 2 fun EY=>
 aV HJ (.n (h.next+1)) 3 fun Zv=>
 aj HJ (.n (h.next+1)) 4 fun K9=>
 some ((.aB [(.agg [(.sl Zt.1 Zt.2),(.sl Zu.1 Zu.2),(.i .i64 EY),(.sl Zv.1 Zv.2),(.i .i64 K9)]),(.i .u64 QV)]),HJ)
 else none)
 else let h93:=sR.az 2
 let h94:=h93.put sR.next (.cells true 33 [])
 aV h94 (.n h.next) 1 fun Tc=>
 (h94.bT Tc.1 Tc.2 1).bind fun Zw=>
 (bif (Nat.ble ((0+Tc.2)*9) 35184372088832) then
 (h94.cF (sR.next+1) 33 1 (.loc (.n sR.next) 0 1) 0 Tc.2 Zw).bind fun r98=>
 (AV.dF r98.1).bind fun l99=>
 (r98.2.st (.n h.next) 1 [(.sl l99.1 l99.2)]).bind fun Om=>
 let vW:=Om.az 2
 let Bg:=vW.put Om.next (.cells true 42 [])
 aV Bg (.n h.next) 0 fun zb=>
 (Bg.bT zb.1 zb.2 8).bind fun Td=>
 (bif (Nat.ble ((0+zb.2)*97) 35184372088832) then
 (Bg.cF (Om.next+1) 42 8 (.loc (.n Om.next) 0 8) 0 zb.2 Td).bind fun Zx=>
 (AV.dF Zx.1).bind fun La=>
 (Zx.2.st (.n h.next) 0 [(.sl La.1 La.2)]).bind fun GI=>
 aj GI (.n h9.next) 0 fun Lb=>
 aj GI (.n h9.next) 1 fun Dp=>
 aj GI (.n h9.next) 2 fun ajW=>
 aj GI (.n h9.next) 3 fun Te=>
 (GI.ld (.n h9.next) 4).bind fun ajX=>
 (AV.aZ ajX).bind fun ajY=>
 (k14 [(.agg [(.i .i64 Lb),(.i .i64 Dp),(.i .i64 ajW),(.i .i64 Te),(.b ajY)])] GI).bind fun Zy=>
 (AV.asAgg 5 Zy.1).bind fun Lc=>
 aq Lc 0 fun Dq=>
 aq Lc 1 fun Ld=>
 aq Lc 2 fun Tf=>
 aq Lc 3 fun Le=>
 (AV.aZ (Lc.getD 4 .u)).bind fun ajZ=>
 (Zy.2.st (.n h9.next) 0 [(.i .i64 Dq),(.i .i64 Ld),(.i .i64 Tf),(.i .i64 Le),(.b ajZ)]).bind fun rV=>
 (rV.ld (.n h9.next) 4).bind fun aj0=>
 (AV.aZ aj0).bind fun Tg=>
 ((bif Tg then
 aj rV (.n h.next) 4 fun On=>
 (rV.st (.n h.next) 4 [(.i .i64 (IntKind.i64.wrap (On+18)))]).bind fun aj1=>
 some ([],aj1)
 else aj rV (.n h.next) 4 fun Zz=>
 aj rV (.n h9.next) 0 fun aj2=>
 aj rV (.n h9.next) 1 fun aj3=>
 aj rV (.n h9.next) 2 fun aj4=>
 aj rV (.n h9.next) 3 fun aj5=>
 (rV.ld (.n h9.next) 4).bind fun aj6=>
 (AV.aZ aj6).bind fun aj7=>
 aV rV (.n h9.next) 5 fun Lf=>
 aV rV (.n h9.next) 6 fun ZA=>
 gO rV (.n h9.next) 7 fun aj8=>
 (Zp [(.agg [(.i .i64 aj2),(.i .i64 aj3),(.i .i64 aj4),(.i .i64 aj5),(.b aj7),(.sl Lf.1 Lf.2),(.sl ZA.1 ZA.2),(.i .u64 aj8)])] rV).bind fun Th=>
 (AV.aX .i64 Th.1).bind fun Lg=>
 (aT (Th.2.ld (.n h.next) 4) (some (.i .i64 Zz))).bind fun _=>
 let aj9:Int:=(IntKind.i64.wrap (Zz+(IntKind.i64.wrap (2*Lg))))
 (Th.2.st (.n h.next) 4 [(.i .i64 (IntKind.i64.wrap (aj9+3)))]).bind fun ZB=>
 aj ZB (.n h.next) 2 fun Ti=>
 let aj':Int:=(IntKind.u64.wrap ((IntKind.u64.wrap (2*(IntKind.u64.wrap Ti)))+1))
 (ZB.st (.n h9.next) 7 [(.i .u64 aj')]).bind fun jQ=>
 aj jQ (.n h.next) 2 fun ZC=>
 aj jQ (.n h9.next) 0 fun GJ=>
 aj jQ (.n h9.next) 1 fun Tj=>
 aj jQ (.n h9.next) 2 fun Tl=>
 aj jQ (.n h9.next) 3 fun Tm=>
 (jQ.ld (.n h9.next) 4).bind fun Tn=>
 (AV.aZ Tn).bind fun To=>
 aV jQ (.n h9.next) 5 fun Lh=>
 aV jQ (.n h9.next) 6 fun Li=>
 gO jQ (.n h9.next) 7 fun Tp=>
 (Zp [(.agg [(.i .i64 GJ),(.i .i64 Tj),(.i .i64 Tl),(.i .i64 Tm),(.b To),(.sl Lh.1 Lh.2),(.sl Li.1 Li.2),(.i .u64 Tp)])] jQ).bind fun Tq=>
 (AV.aX .i64 Tq.1).bind fun aka=>
 (aT (Tq.2.ld (.n h.next) 2) (some (.i .i64 ZC))).bind fun _=>
 (Tq.2.st (.n h.next) 2 [(.i .i64 (IntKind.i64.wrap (ZC+aka)))]).bind fun akb=>
 some ([],akb)):Option (List AV × AH O)).bind fun Ts=>
 aV Ts.2 (.n h.next) 1 fun Lj=>
 gO Ts.2 (.n h9.next) 7 fun Tt=>
 (bif ((decide ((0:Int)<=n6)) && (decide (n6<(Lj.2:Int)))) then
 (SA.ref Lj.1).bind fun ZD=>
 (Ts.2.st ZD.1 (ZD.2+(n6.toNat*1)) [(.i .u64 Tt)]).bind fun vX=>
 aV vX (.n h.next) 0 fun ZE=>
 aj vX (.n h9.next) 0 fun akc=>
 aj vX (.n h9.next) 1 fun akd=>
 aj vX (.n h9.next) 2 fun ake=>
 aj vX (.n h9.next) 3 fun akf=>
 (vX.ld (.n h9.next) 4).bind fun akg=>
 (AV.aZ akg).bind fun akh=>
 aV vX (.n h9.next) 5 fun ZF=>
 aV vX (.n h9.next) 6 fun ZG=>
 gO vX (.n h9.next) 7 fun aki=>
 (bif ((decide ((0:Int)<=n6)) && (decide (n6<(ZE.2:Int)))) then
 (SA.ref ZE.1).bind fun ZH=>
 (vX.st ZH.1 (ZH.2+(n6.toNat*8)) [(.i .i64 akc),(.i .i64 akd),(.i .i64 ake),(.i .i64 akf),(.b akh),(.sl ZF.1 ZF.2),(.sl ZG.1 ZG.2),(.i .u64 aki)]).bind fun Dr=>
 let akj:=Dr.az 4
 let Tu:=akj.put Dr.next (.cells true 3 [])
 aV Tu (.n h.next) 3 fun Oo=>
 (Tu.bT Oo.1 Oo.2 1).bind fun Tv=>
 (bif (Nat.ble ((0+Oo.2)*9) 35184372088832) then
 (Tu.cF (Dr.next+1) 3 1 (.loc (.n Dr.next) 0 1) 0 Oo.2 Tv).bind fun ZI=>
 (AV.dF ZI.1).bind fun Tx=>
 let ZJ:=ZI.2.put ((Dr.next+1)+1) (.cells true 3 [(.i .i64 n6)])
 (ZJ.bT (.loc (.n ((Dr.next+1)+1)) 0 1) 1 1).bind fun Tz=>
 (bif (Nat.ble ((Tx.2+1)*9) 35184372088832) then
 (ZJ.cF (((Dr.next+1)+1)+1) 3 1 Tx.1 Tx.2 1 Tz).bind fun ZK=>
 (AV.dF ZK.1).bind fun ZL=>
 (ZK.2.st (.n h.next) 3 [(.sl ZL.1 ZL.2)]).bind fun Dt=>
 aV Dt (.n h.next) 0 fun ZM=>
 aV Dt (.n h.next) 1 fun ZN=>
 aj Dt (.n h.next) 2 fun akk=>
 aV Dt (.n h.next) 3 fun ZO=>
 aj Dt (.n h.next) 4 fun akl=>
 gO Dt (.n h9.next) 7 fun ZP=>
 (Dt.st (.n (h.next+1)) 0 [(.sl ZM.1 ZM.2),(.sl ZN.1 ZN.2),(.i .i64 akk),(.sl ZO.1 ZO.2),(.i .i64 akl)]).bind fun Du=>
 (aT (Du.ld (.n h9.next) 7) (some (.i .u64 ZP))).bind fun _=>
 aV Du (.n (h.next+1)) 0 fun ZQ=>
 aV Du (.n (h.next+1)) 1 fun ZR=>
 aj Du (.n (h.next+1)) 2 fun akm=>
 aV Du (.n (h.next+1)) 3 fun ZS=>
 aj Du (.n (h.next+1)) 4 fun akn=>
 some ((.aB [(.agg [(.sl ZQ.1 ZQ.2),(.sl ZR.1 ZR.2),(.i .i64 akm),(.sl ZS.1 ZS.2),(.i .i64 akn)]),(.i .u64 ZP)]),Du)
 else none)
 else none)
 else none)
 else none)
 else none)
 else none))
 else none)
 else none))
 else none
def CS:Sm O:=vk (Mh LW Ni)
theorem qam:ag Tryz.prog 21:=Tryz.call21
theorem qan (k14 Zp:Sm O):run (O:=O) Tryz.prog [(14,k14),(27,Zp)] Tryz.f21 (.n .z (.n (.n .z (.n .z .z)) (.n .z (.n (.n .z (.n (.n (.n .z (.j false [] .z .z)) (.n (.d [] [0,1,2,3,4,5,6,7] [0,0,2,0,14,30,1,127]) .z)) .z)) (.n .z (.n .z (.n .z (.n (.n .z (.j false [] .z (.n (.d [] [0,1,2,3,4,5,6,7,8] [0,1,0,4,12,31,63,127,255]) (.n .z (.d [] [0,1,2,3,4,5,6] [0,1,0,4,15,31,63]))))) (.n .z (.n .z (.n .z (.n (.d [] [0,1,2,3,4] [0,0,2,1,15]) .z))))))))))))=Mh k14 Zp:=by kernel_rfl
theorem qao:ai RO Tryz.prog 21 (CS):=
   have h:ai RO Tryz.prog 21 (Mh LW Ni):=(qan LW Ni)▸eH (ae qqt (qqv) <| ae qah (qaj) <| aE) mixed Tryz.func21 (by kernel_rfl) _
   h.vk
end
end Go.Abs.Tryz
