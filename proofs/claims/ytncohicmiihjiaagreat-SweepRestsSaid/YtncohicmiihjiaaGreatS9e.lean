/-
  What functions of the program do. No conditions.
-/
import Derived.Test.YtncohicmiihjiaaGreatProg
import Derived.Test.YtncohicmiihjiaaGreatS9ea
import Derived.KernelRfl
set_option linter.unusedVariables false
set_option linter.unusedSimpArgs false
set_option linter.constructorNameAsVariable false
set_option maxRecDepth 100000
namespace Go.Abs.Tryz
open Go Go.Abs Go.Proofs
noncomputable section
variable {O:Type} {RO:O->Loc->(Nat->Option Obj)->Prop}
def ZN:Sm O:=fun xs h=>
 bif Nat.beq xs.length 1 then
 cT xs 0 fun l0=>
 let h1:=h.ax 1
 let h2:=h1.put h.next (.cells true 63 [(.sl .nil 0),(.sl .nil 0),(.i .i64 0),(.sl .nil 0),(.i .i64 0)])
 let h3:=h2.ax 1
 (bif ((((decide ((0:Int)<=(l0.2:Int))) && (decide ((l0.2:Int)<=(l0.2:Int)))) && (decide (((l0.2:Int)*8)<=140737488355328))) && (decide ((l0.2:Int)<=140737488355328))) then
 let h4:=h3.put h2.next (.cells true 33 ((List.replicate (l0.2:Int).toNat [(.i .u64 0)]).flatten))
 (h4.st (.n h.next) 0 [(.sl l0.1 l0.2),(.sl (.loc (.n h2.next) 0 1) (l0.2:Int).toNat),(.i .i64 0),(.sl .nil 0),(.i .i64 0)]).bind fun h5=>
 aV h5 (.n h.next) 0 fun l7=>
 aV h5 (.n h.next) 1 fun l9=>
 ai h5 (.n h.next) 2 fun fc=>
 aV h5 (.n h.next) 3 fun DE=>
 ai h5 (.n h.next) 4 fun dU=>
 some ((.agg [(.sl l7.1 l7.2),(.sl l9.1 l9.2),(.i .i64 fc),(.sl DE.1 DE.2),(.i .i64 dU)]),h5)
 else none)
 else none
def Wm:Sm O:=vB (ZN)
theorem qac:ag Tryz.prog 20:=Tryz.call20
theorem qad:run (O:=O) Tryz.prog [] Tryz.f20 (.n .z .z)=ZN:=by kernel_rfl
theorem qae:ah RO Tryz.prog 20 (Wm):=
   have h:ah RO Tryz.prog 20 (ZN):=(qad)▸eY (aJ) mixed Tryz.func20 (by kernel_rfl) _
   h.vB
def qaf:Sm O:=fun xs h=>
 bif Nat.beq xs.length 1 then
 (AV.asAgg 8 (xs.getD 0 .u)).bind fun c0=>
 au c0 0 fun n1=>
 au c0 1 fun n2=>
 au c0 2 fun n3=>
 au c0 3 fun n4=>
 (AV.aZ (c0.getD 4 .u)).bind fun b5=>
 cT c0 5 fun l6=>
 cT c0 6 fun l7=>
 cf c0 7 fun n8=>
 let h9:=h.ax 1
 let fM:=h9.put h.next (.cells true 42 [(.i .i64 n1),(.i .i64 n2),(.i .i64 n3),(.i .i64 n4),(.b b5),(.sl l6.1 l6.2),(.sl l7.1 l7.2),(.i .u64 n8)])
 aV fM (.n h.next) 5 fun B5=>
 aV fM (.n h.next) 6 fun sH=>
 let ZZ:Int:=(IntKind.i64.wrap ((IntKind.i64.wrap (1+(B5.2:Int)))+(sH.2:Int)))
 some ((.i .i64 ZZ),fM)
 else none
def NR:Sm O:=qaf
theorem qah:ag Tryz.prog 27:=Tryz.call27
theorem qai:run (O:=O) Tryz.prog [] Tryz.f27 (.n .z .z)=qaf:=by kernel_rfl
theorem qaj:ah RO Tryz.prog 27 NR:=bJ qai (aJ) Tryz.func27 (by kernel_rfl)
def MG (k14 Z0:Sm O):Sm O:=fun xs h=>
 bif Nat.beq xs.length 2 then
 (AV.asAgg 5 (xs.getD 0 .u)).bind fun c0=>
 cT c0 0 fun l1=>
 cT c0 1 fun l2=>
 au c0 2 fun n3=>
 cT c0 3 fun l4=>
 au c0 4 fun n5=>
 au xs 1 fun n6=>
 let h7:=h.ax 2
 let h8:=h7.put h.next (.cells true 63 [(.sl l1.1 l1.2),(.sl l2.1 l2.2),(.i .i64 n3),(.sl l4.1 l4.2),(.i .i64 n5)])
 let h9:=h8.put (h.next+1) (.cells true 63 [(.sl .nil 0),(.sl .nil 0),(.i .i64 0),(.sl .nil 0),(.i .i64 0)])
 (bif (decide (n6<0)) then
 aV h9 (.n h.next) 0 fun iS=>
 aV h9 (.n h.next) 1 fun DE=>
 ai h9 (.n h.next) 2 fun dU=>
 aV h9 (.n h.next) 3 fun zI=>
 ai h9 (.n h.next) 4 fun fk=>
 (h9.st (.n (h.next+1)) 0 [(.sl iS.1 iS.2),(.sl DE.1 DE.2),(.i .i64 dU),(.sl zI.1 zI.2),(.i .i64 fk)]).bind fun tx=>
 aV tx (.n (h.next+1)) 0 fun B6=>
 aV tx (.n (h.next+1)) 1 fun Fc=>
 ai tx (.n (h.next+1)) 2 fun eJ=>
 aV tx (.n (h.next+1)) 3 fun za=>
 ai tx (.n (h.next+1)) 4 fun lN=>
 some ((.aG [(.agg [(.sl B6.1 B6.2),(.sl Fc.1 Fc.2),(.i .i64 eJ),(.sl za.1 za.2),(.i .i64 lN)]),(.i .u64 0)]),tx)
 else let Fe:=h9.ax 1
 aV Fe (.n h.next) 0 fun xL=>
 (bif ((decide ((0:Int)<=n6)) && (decide (n6<(xL.2:Int)))) then
 (SA.ref xL.1).bind fun oK=>
 ai Fe oK.1 (oK.2+(n6.toNat*8)) fun qd=>
 ai Fe oK.1 ((oK.2+(n6.toNat*8))+1) fun Lh=>
 ai Fe oK.1 (((oK.2+(n6.toNat*8))+1)+1) fun Li=>
 ai Fe oK.1 ((((oK.2+(n6.toNat*8))+1)+1)+1) fun Ff=>
 (Fe.ld oK.1 (((((oK.2+(n6.toNat*8))+1)+1)+1)+1)).bind fun w43=>
 (AV.aZ w43).bind fun b44=>
 aV Fe oK.1 ((((((oK.2+(n6.toNat*8))+1)+1)+1)+1)+1) fun Rx=>
 aV Fe oK.1 (((((((oK.2+(n6.toNat*8))+1)+1)+1)+1)+1)+1) fun Z4=>
 cQ Fe oK.1 ((((((((oK.2+(n6.toNat*8))+1)+1)+1)+1)+1)+1)+1) fun zb=>
 let GZ:=Fe.put h9.next (.cells true 42 [(.i .i64 0),(.i .i64 0),(.i .i64 0),(.i .i64 0),(.b false),(.sl .nil 0),(.sl .nil 0),(.i .u64 0)])
 (GZ.st (.n h9.next) 0 [(.i .i64 qd),(.i .i64 Lh),(.i .i64 Li),(.i .i64 Ff),(.b b44),(.sl Rx.1 Rx.2),(.sl Z4.1 Z4.2),(.i .u64 zb)]).bind fun sI=>
 aV sI (.n h.next) 1 fun l54=>
 (bif ((decide ((0:Int)<=n6)) && (decide (n6<(l54.2:Int)))) then
 (SA.ref l54.1).bind fun Z5=>
 cQ sI Z5.1 (Z5.2+(n6.toNat*1)) fun G0=>
 (bif ((G0:Int) != 0) then
 (sI.ld (.n h9.next) 4).bind fun w58=>
 (AV.aZ w58).bind fun b59=>
 ((bif b59 then
 ai sI (.n h.next) 4 fun MJ=>
 (sI.st (.n h.next) 4 [(.i .i64 (IntKind.i64.wrap (MJ+2)))]).bind fun MK=>
 some ([],MK)
 else ai sI (.n h.next) 4 fun Ba=>
 (sI.st (.n h.next) 4 [(.i .i64 (IntKind.i64.wrap (Ba+1)))]).bind fun h65=>
 some ([],h65)):Option (List AV × AH O)).bind fun zJ=>
 aV zJ.2 (.n h.next) 0 fun xM=>
 aV zJ.2 (.n h.next) 1 fun Z7=>
 ai zJ.2 (.n h.next) 2 fun Ry=>
 aV zJ.2 (.n h.next) 3 fun Rz=>
 ai zJ.2 (.n h.next) 4 fun Bw=>
 aV zJ.2 (.n h.next) 1 fun l78=>
 (bif ((decide ((0:Int)<=n6)) && (decide (n6<(l78.2:Int)))) then
 (SA.ref l78.1).bind fun q79=>
 cQ zJ.2 q79.1 (q79.2+(n6.toNat*1)) fun RA=>
 (zJ.2.st (.n (h.next+1)) 0 [(.sl xM.1 xM.2),(.sl Z7.1 Z7.2),(.i .i64 Ry),(.sl Rz.1 Rz.2),(.i .i64 Bw)]).bind fun HX=>
 (aO (HX.ld (.n h.next) 1) (some (.sl l78.1 l78.2))).bind fun _=>
 (aO (HX.ld q79.1 (q79.2+(n6.toNat*1))) (some (.i .u64 RA))).bind fun _=>
 aV HX (.n (h.next+1)) 0 fun Z9=>
 aV HX (.n (h.next+1)) 1 fun l86=>
 ai HX (.n (h.next+1)) 2 fun HY=>
 aV HX (.n (h.next+1)) 3 fun l90=>
 ai HX (.n (h.next+1)) 4 fun Lj=>
 some ((.aG [(.agg [(.sl Z9.1 Z9.2),(.sl l86.1 l86.2),(.i .i64 HY),(.sl l90.1 l90.2),(.i .i64 Lj)]),(.i .u64 RA)]),HX)
 else none)
 else let h93:=sI.ax 2
 let h94:=h93.put sI.next (.cells true 33 [])
 aV h94 (.n h.next) 1 fun Ui=>
 (h94.bU Ui.1 Ui.2 1).bind fun aab=>
 (bif (Nat.ble ((0+Ui.2)*9) 35184372088832) then
 (h94.cL (sI.next+1) 33 1 (.loc (.n sI.next) 0 1) 0 Ui.2 aab).bind fun r98=>
 (AV.eG r98.1).bind fun l99=>
 (r98.2.st (.n h.next) 1 [(.sl l99.1 l99.2)]).bind fun O5=>
 let vX:=O5.ax 2
 let Bx:=vX.put O5.next (.cells true 42 [])
 aV Bx (.n h.next) 0 fun zc=>
 (Bx.bU zc.1 zc.2 8).bind fun Uj=>
 (bif (Nat.ble ((0+zc.2)*97) 35184372088832) then
 (Bx.cL (O5.next+1) 42 8 (.loc (.n O5.next) 0 8) 0 zc.2 Uj).bind fun aad=>
 (AV.eG aad.1).bind fun Lk=>
 (aad.2.st (.n h.next) 0 [(.sl Lk.1 Lk.2)]).bind fun sJ=>
 ai sJ (.n h9.next) 0 fun Ll=>
 ai sJ (.n h9.next) 1 fun Lm=>
 ai sJ (.n h9.next) 2 fun akk=>
 ai sJ (.n h9.next) 3 fun akl=>
 (sJ.ld (.n h9.next) 4).bind fun akm=>
 (AV.aZ akm).bind fun akn=>
 (k14 [(.agg [(.i .i64 Ll),(.i .i64 Lm),(.i .i64 akk),(.i .i64 akl),(.b akn)])] sJ).bind fun Ln=>
 (AV.asAgg 5 Ln.1).bind fun By=>
 au By 0 fun Lo=>
 au By 1 fun DF=>
 au By 2 fun Uk=>
 au By 3 fun Ul=>
 (AV.aZ (By.getD 4 .u)).bind fun ako=>
 (Ln.2.st (.n h9.next) 0 [(.i .i64 Lo),(.i .i64 DF),(.i .i64 Uk),(.i .i64 Ul),(.b ako)]).bind fun rG=>
 (rG.ld (.n h9.next) 4).bind fun akp=>
 (AV.aZ akp).bind fun akq=>
 ((bif akq then
 ai rG (.n h.next) 4 fun G3=>
 (rG.st (.n h.next) 4 [(.i .i64 (IntKind.i64.wrap (G3+18)))]).bind fun akr=>
 some ([],akr)
 else ai rG (.n h.next) 4 fun aae=>
 ai rG (.n h9.next) 0 fun aks=>
 ai rG (.n h9.next) 1 fun akt=>
 ai rG (.n h9.next) 2 fun aku=>
 ai rG (.n h9.next) 3 fun akv=>
 (rG.ld (.n h9.next) 4).bind fun akw=>
 (AV.aZ akw).bind fun akx=>
 aV rG (.n h9.next) 5 fun Lp=>
 aV rG (.n h9.next) 6 fun aaf=>
 cQ rG (.n h9.next) 7 fun aky=>
 (Z0 [(.agg [(.i .i64 aks),(.i .i64 akt),(.i .i64 aku),(.i .i64 akv),(.b akx),(.sl Lp.1 Lp.2),(.sl aaf.1 aaf.2),(.i .u64 aky)])] rG).bind fun Bz=>
 (AV.aX .i64 Bz.1).bind fun Lq=>
 (aO (Bz.2.ld (.n h.next) 4) (some (.i .i64 aae))).bind fun _=>
 let akz:Int:=(IntKind.i64.wrap (aae+(IntKind.i64.wrap (2*Lq))))
 (Bz.2.st (.n h.next) 4 [(.i .i64 (IntKind.i64.wrap (akz+3)))]).bind fun aag=>
 ai aag (.n h.next) 2 fun Um=>
 let akA:Int:=(IntKind.u64.wrap ((IntKind.u64.wrap (2*(IntKind.u64.wrap Um)))+1))
 (aag.st (.n h9.next) 7 [(.i .u64 akA)]).bind fun jJ=>
 ai jJ (.n h.next) 2 fun O6=>
 ai jJ (.n h9.next) 0 fun G4=>
 ai jJ (.n h9.next) 1 fun Un=>
 ai jJ (.n h9.next) 2 fun Uo=>
 ai jJ (.n h9.next) 3 fun Up=>
 (jJ.ld (.n h9.next) 4).bind fun Uq=>
 (AV.aZ Uq).bind fun Ur=>
 aV jJ (.n h9.next) 5 fun Lr=>
 aV jJ (.n h9.next) 6 fun Ls=>
 cQ jJ (.n h9.next) 7 fun Us=>
 (Z0 [(.agg [(.i .i64 G4),(.i .i64 Un),(.i .i64 Uo),(.i .i64 Up),(.b Ur),(.sl Lr.1 Lr.2),(.sl Ls.1 Ls.2),(.i .u64 Us)])] jJ).bind fun Ut=>
 (AV.aX .i64 Ut.1).bind fun Uu=>
 (aO (Ut.2.ld (.n h.next) 2) (some (.i .i64 O6))).bind fun _=>
 (Ut.2.st (.n h.next) 2 [(.i .i64 (IntKind.i64.wrap (O6+Uu)))]).bind fun akB=>
 some ([],akB)):Option (List AV × AH O)).bind fun Uv=>
 aV Uv.2 (.n h.next) 1 fun Lt=>
 cQ Uv.2 (.n h9.next) 7 fun Lu=>
 (bif ((decide ((0:Int)<=n6)) && (decide (n6<(Lt.2:Int)))) then
 (SA.ref Lt.1).bind fun aah=>
 (Uv.2.st aah.1 (aah.2+(n6.toNat*1)) [(.i .u64 Lu)]).bind fun vY=>
 aV vY (.n h.next) 0 fun aai=>
 ai vY (.n h9.next) 0 fun akC=>
 ai vY (.n h9.next) 1 fun akD=>
 ai vY (.n h9.next) 2 fun akE=>
 ai vY (.n h9.next) 3 fun akF=>
 (vY.ld (.n h9.next) 4).bind fun akG=>
 (AV.aZ akG).bind fun akH=>
 aV vY (.n h9.next) 5 fun aaj=>
 aV vY (.n h9.next) 6 fun aak=>
 cQ vY (.n h9.next) 7 fun Uw=>
 (bif ((decide ((0:Int)<=n6)) && (decide (n6<(aai.2:Int)))) then
 (SA.ref aai.1).bind fun aal=>
 (vY.st aal.1 (aal.2+(n6.toNat*8)) [(.i .i64 akC),(.i .i64 akD),(.i .i64 akE),(.i .i64 akF),(.b akH),(.sl aaj.1 aaj.2),(.sl aak.1 aak.2),(.i .u64 Uw)]).bind fun DH=>
 let akI:=DH.ax 4
 let Ux:=akI.put DH.next (.cells true 3 [])
 aV Ux (.n h.next) 3 fun O7=>
 (Ux.bU O7.1 O7.2 1).bind fun Uy=>
 (bif (Nat.ble ((0+O7.2)*9) 35184372088832) then
 (Ux.cL (DH.next+1) 3 1 (.loc (.n DH.next) 0 1) 0 O7.2 Uy).bind fun aam=>
 (AV.eG aam.1).bind fun Uz=>
 let aan:=aam.2.put ((DH.next+1)+1) (.cells true 3 [(.i .i64 n6)])
 (aan.bU (.loc (.n ((DH.next+1)+1)) 0 1) 1 1).bind fun UA=>
 (bif (Nat.ble ((Uz.2+1)*9) 35184372088832) then
 (aan.cL (((DH.next+1)+1)+1) 3 1 Uz.1 Uz.2 1 UA).bind fun O8=>
 (AV.eG O8.1).bind fun aao=>
 (O8.2.st (.n h.next) 3 [(.sl aao.1 aao.2)]).bind fun DI=>
 aV DI (.n h.next) 0 fun aap=>
 aV DI (.n h.next) 1 fun aaq=>
 ai DI (.n h.next) 2 fun akJ=>
 aV DI (.n h.next) 3 fun aar=>
 ai DI (.n h.next) 4 fun akK=>
 cQ DI (.n h9.next) 7 fun aas=>
 (DI.st (.n (h.next+1)) 0 [(.sl aap.1 aap.2),(.sl aaq.1 aaq.2),(.i .i64 akJ),(.sl aar.1 aar.2),(.i .i64 akK)]).bind fun DJ=>
 (aO (DJ.ld (.n h9.next) 7) (some (.i .u64 aas))).bind fun _=>
 aV DJ (.n (h.next+1)) 0 fun aat=>
 aV DJ (.n (h.next+1)) 1 fun aau=>
 ai DJ (.n (h.next+1)) 2 fun akL=>
 aV DJ (.n (h.next+1)) 3 fun aav=>
 ai DJ (.n (h.next+1)) 4 fun akM=>
 some ((.aG [(.agg [(.sl aat.1 aat.2),(.sl aau.1 aau.2),(.i .i64 akL),(.sl aav.1 aav.2),(.i .i64 akM)]),(.i .u64 aas)]),DJ)
 else none)
 else none)
 else none)
 else none)
 else none)
 else none))
 else none)
 else none))
 else none
def Dh:Sm O:=vB (MG Mt NR)
theorem qam:ag Tryz.prog 21:=Tryz.call21
theorem qan (k14 Z0:Sm O):run (O:=O) Tryz.prog [(14,k14),(27,Z0)] Tryz.f21 (.n .z (.n (.n .z (.n .z .z)) (.n .z (.n (.n .z (.n (.n (.n .z (.j false [] .z .z)) (.n (.d [] [0,1,2,3,4,5,6,7] [0,0,2,0,14,30,1,127]) .z)) .z)) (.n .z (.n .z (.n .z (.n (.n .z (.j false [] .z (.n (.d [] [0,1,2,3,4,5,6,7,8] [0,1,0,4,12,31,63,127,255]) (.n .z (.d [] [0,1,2,3,4,5,6] [0,1,0,4,15,31,63]))))) (.n .z (.n .z (.n .z (.n (.d [] [0,1,2,3,4] [0,0,2,1,15]) .z))))))))))))=MG k14 Z0:=by kernel_rfl
theorem qao:ah RO Tryz.prog 21 (Dh):=
   have h:ah RO Tryz.prog 21 (MG Mt NR):=(qan Mt NR)▸eY (ab qqm (qqo) <| ab qah (qaj) <| aJ) mixed Tryz.func21 (by kernel_rfl) _
   h.vB
end
end Go.Abs.Tryz
